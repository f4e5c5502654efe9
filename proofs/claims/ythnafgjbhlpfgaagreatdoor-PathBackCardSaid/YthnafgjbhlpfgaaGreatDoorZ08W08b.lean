/- Texts of the proof, one behind the other. No statement is proved here. -/
import Derived.Lib.IndexAny
import Derived.Test.YthnafgjbhlpfgaaGreatDoorCards
import Derived.Test.YthnafgjbhlpfgaaGreatDoorTie
import Derived.WalkKit
import Derived.SizedLaws
import Derived.ProofKit
import Derived.OpenShut
import Derived.ShutString
import Derived.LaidMore
import Derived.Stop.Joined
import Derived.Deep.DeepHandedRow
import Derived.Deep.DeepWitnessRowRef
import Derived.Test.YthnafgjbhlpfgaaGreatDoorZ08a
import Derived.Test.YthnafgjbhlpfgaaGreatDoorZ08b
import Derived.Test.YthnafgjbhlpfgaaGreatDoorZ08c
import Derived.Test.YthnafgjbhlpfgaaGreatDoorZ08d
import Derived.Test.YthnafgjbhlpfgaaGreatDoorZ08e
set_option maxHeartbeats 4000000
section
namespace Go.Ab.R06
open Go.Proofs Go.Ab Go.Ab.RB
theorem tf {n:Nat}{a:PV}(h1:WTf tt n 23 a.cells)(h2:a=mkE (((look tt 23).map (·.k.isAgg)).getD false) a.cells):∃ l:List aa,a=eL ae l∧l.length≤1000000000000000∧∀ x∈l,x.fName.length≤1000000000000000:=by
 obtain ⟨l,e,hl,hb⟩:=nF ae (λ x:aa=>aa.Bd x) rfl h1 (λ m x _ k1 k2=>by
  obtain ⟨y,e,b⟩:=aa.dec m _ k1
  exact ⟨y,by rw [k2,e,aa.agg_eq]; rfl,b⟩)
 have hl:l.length*32≤140737488351232:=hl
 refine ⟨l,by rw [h2,e]; rfl,by omega,λ x hx=>?_⟩
 have:x.fName.length≤140737488351232:=by have:=hb x hx; cases this; assumption
 omega
theorem uF (qs:List PV)(h:WTa tt [23] qs):au Tryz.prog 5 qs (·=.p (.val (.bool true))):=by
 match qs,h with
 | [a],⟨⟨n,h1,h2⟩,_⟩ =>
  obtain ⟨l,rfl,b1,b2⟩:=tf h1 h2
  obtain ⟨n,r,hr,rfl⟩:=qz (tM l b1 b2)
  exact ma n l true hr
end Go.Ab.R06
end
section
namespace Go.Ab.R06
open Go.Proofs Go.Ab Go.Ab.RB
attribute [local irreducible] awp eQ aU au bH AV.sub M cC
def fL (n:Nat)(s_0:Bytes):Option Bool :=
 if 20000 < (s_0.length:Int) then
  (bK n).bind λ r2 =>
  some r2
 else
  (d9 n s_0).bind λ r4 =>
  (iO n s_0).bind λ r6 =>
  (
    (et n r4.1 r6.1).bind λ r8 =>
    if r8=true then
     if r4.2=r6.2 then
      (bK n).bind λ r12 =>
      some r12
     else
      some false
    else
     some false
   : Option Bool).bind λ t14 =>
  some t14
theorem l7 (n:Nat)(s_0:Bytes)(r:Bool)(h0:fL n s_0=some r):au Tryz.prog 3 [eS s_0] (·=.p (eB r)):=by
 unfold fL at h0
 refine aH good Tryz.func3 rfl rfl rfl λ w0=>mP (λ v:Bool=>.p (eB v)) ?_
 refine nx 8 rfl (oLs rfl ?_)
 refine nx 2 rfl (fD [9] h0 rfl (λ c1 h0=>?_) λ c1 h0=>?_)
 ·refine nx 3 rfl (bd h0 λ r2 e3 h0=>?_)
  refine oK (bZ _  _ e3) rfl trivial Tryz.call11 rfl (nx 3 rfl ?_)
  exact mQ (oi h0) rfl (sr)
 refine nx 5 rfl (bd h0 λ r4 e5 h0=>?_)
 refine oK (iD _ s_0 _ e5) rfl ⟨sr,trivial⟩ Tryz.call12 rfl (nx 9 rfl ?_)
 refine bd h0 λ r6 e7 h0=>oK (pP _ s_0 _ e7) rfl ⟨sr,trivial⟩ Tryz.call13 rfl (nx 7 rfl ?_)
 refine bd h0 λ o16 h1 h0=>kN o16 (λ v17=>⟨[(2,.p (eB v17))],[]⟩) ?_ ?_
 ·exact nx 2 rfl (mQ (oi h0) rfl (sr))
 refine nx 3 rfl (bd h1 λ r8 e9 h1=>?_)
 refine oK (iy _ r4.1 r6.1 _ e9) rfl ⟨sr,sr,trivial⟩ Tryz.call14 rfl (nx 1 rfl ?_)
 refine fB [23,24] h1 rfl (λ c10 h1=>?_) λ c10 h1=>?_
 ·refine nx 5 rfl (fD [27,28,29] h1 rfl (λ c11 h1=>?_) λ c11 h1=>?_)
  ·refine bd h1 λ r12 e13 h1=>oK (bZ _  _ e13) rfl trivial Tryz.call11 rfl (nx 3 rfl ?_)
   exact eX _ (oi h1).symm (gE rfl rfl)
  exact nx 4 rfl (eX _ (oi h1).symm (gE rfl rfl))
 exact nx 9 rfl (eX _ (oi h1).symm (gE rfl rfl))
end Go.Ab.R06
end
section
namespace Go.Ab.R06
open Go.Ab Go.Ab.RB Go.Lib
def kF (b:UInt8):Bool:=decide (b.toNat=46)||decide (b.toNat=91)
def ff:Bytes→Nat
 | []=>0
 | b::r=>if kF b=true then 0 else ff r+1
theorem mY:∀ l:Bytes,ff l≤l.length
 | []=>Nat.le_refl _
 | b::r=>by
  unfold ff
  have:=mY r
  split
  ·omega
  ·simp only [List.length_cons]; omega
theorem yt (b:UInt8):([46,91]:Bytes).contains b=kF b:=by
 refine eqB ?_
 have h1:b.toNat=46↔b=46:=mn (by decide)
 have h2:b.toNat=91↔b=91:=mn (by decide)
 unfold kF
 rw [Bool.or_eq_true,decide_eq_true_eq,decide_eq_true_eq,h1,h2]
 simp
theorem pI:∀ l:Bytes,(if indexAny l [46,91] < 0 then (l.length:Int) else indexAny l [46,91])=(ff l:Int)
 | []=>rfl
 | b::r=>by
  have ih:=pI r
  have hge:=indexAny_ge [46,91] r
  unfold indexAny ff
  rw [yt]
  cases hs:kF b with
  | true=>simp
  | false =>
   simp only [Bool.false_eq_true,if_false,List.length_cons]
   by_cases h:indexAny r [46,91]=-1
   ·rw [h] at ih
    simp only [h,beq_self_eq_true,if_true]
    rw [if_pos (by decide)] at ih ⊢
    omega
   ·have hb:(indexAny r [46,91] == -1)=false:=by simp [h]
    rw [hb]
    rw [if_neg (by omega)] at ih
    simp only [Bool.false_eq_true,if_false]
    rw [if_neg (by omega)]
    omega
def dN:Bytes→Nat
 | []=>0
 | b::r=>if eh b=true then dN r+1 else 0
theorem vm:∀ l:Bytes,dN l≤l.length
 | []=>Nat.le_refl _
 | b::r=>by
  unfold dN
  have:=vm r
  split
  ·simp only [List.length_cons]; omega
  ·omega
theorem tR:∀ l:Bytes,(l.take (dN l)).all eh=true
 | []=>rfl
 | b::r=>by
  unfold dN
  have:=tR r
  split
  ·rename_i h; rw [List.take_succ_cons,List.all_cons,h,this]; rfl
  ·rfl
theorem xn {l:Bytes}(h:l.all eh=true):nI l=hZ l:=by
 have hneg:kJ l=false:=by
  cases l with
  | nil=>rfl
  | cons b r =>
   rw [List.all_cons,Bool.and_eq_true] at h
   have h1:=h.1
   simp only [eh,Bool.and_eq_true,decide_eq_true_eq] at h1
   have:¬ b=45:=λ e=>by rw [e] at h1; exact absurd h1.1 (by decide)
   simp [kJ,this]
 have hc:mc l=lh l:=by unfold mc digits; rw [hneg]; simp
 cases hn:lh l with
 | false=>unfold nI hZ; rw [hc,hn,if_neg (by decide),if_neg (by decide)]
 | true =>
  have hp:∀ v:Int,hZ l=(v,0)→0≤v:=by
   intro v hv
   unfold hZ jU digits at hv
   rw [hc,hn,hneg,if_pos rfl] at hv
   simp only [Bool.false_eq_true,if_false] at hv
   split at hv
   ·cases hv; omega
   ·cases hv
  by_cases h0:(nI l).2=0
  ·have e:nI l=((nI l).1,0):=by rw [← h0]
   obtain ⟨e1,e2,e3⟩:=q5 e
   have:=q6 _ e2 e3
   rw [e1] at this
   rw [this]; exact e
  ·by_cases h1:(hZ l).2=0
   ·have e:hZ l=((hZ l).1,0):=by rw [← h1]
    obtain ⟨e1,e3⟩:=wk _ _ e (hp _ e)
    have:=vH (hp _ e) e3
    rw [e1] at this
    rw [this]; exact e.symm
   ·have a1:nI l=(0,5):=by
     unfold nI at h0 ⊢
     rw [hn,if_pos rfl] at h0 ⊢
     split at h0
     ·exact absurd rfl h0
     ·rename_i q; rw [if_neg q]
    have a2:hZ l=(0,5):=by
     unfold hZ at h1 ⊢
     rw [hc,hn,if_pos rfl] at h1 ⊢
     split at h1
     ·exact absurd rfl h1
     ·rename_i q; rw [if_neg q]
    rw [a1,a2]
theorem AP {l:Bytes}(h:l.all eh=true){v:Int}(hv:hZ l=(v,0)):0≤v∧v≤ga:=by
 rw [← xn h] at hv
 exact (q5 hv).2
theorem rq:∀ l:Bytes,(∀ z∈l,z.toNat < 128)→validD l=true
 | [],_=>rfl
 | b::r,h=>by rw [validD_cons b r (h b List.mem_cons_self)]; exact rq r (λ z hz=>h z (List.mem_cons_of_mem _ hz))
theorem lx {s:Bytes}(h:eN s=true):s≠[]∧s.length≤64∧validD s=true∧(∀ z∈s,idB z=true)∧kM (s.getD 0 0)=true:=by
 cases s with
 | nil=>cases h
 | cons b r =>
  simp only [eN,Bool.and_eq_true,decide_eq_true_eq,List.all_eq_true] at h
  obtain ⟨⟨h1,h2⟩,h3⟩:=h
  have hall:∀ z∈b::r,idB z=true:=λ z hz=>by
   rcases List.mem_cons.1 hz with rfl | hz
   ·unfold idB; rw [h2]; rfl
   ·exact h3 z hz
  refine ⟨by simp,h1,rq _ (λ z hz=>?_),hall,h2⟩
  have:=hall z hz
  simp only [idB,kM,eh,Bool.or_eq_true,Bool.and_eq_true,decide_eq_true_eq] at this
  omega
def kB (l:Bytes)(x:aa)(n:Nat):Int⊕(aa×Nat):=if n=l.length∨(l.getD n 0).toNat≠93 then .inl 2 else .inr (x,n+1)
def nH (l:Bytes):Int⊕(aa×Nat):=if ((l.drop 1).getD 0 0).toNat=34 then (if (gq (l.drop 1)).2.2=0 then kB l (aa.mk false 0 (gq (l.drop 1)).1) (1+(gq (l.drop 1)).2.1.toNat) else .inl (gq (l.drop 1)).2.2)
 else if (hZ ((l.drop 1).take (dN (l.drop 1)))).2=0 then kB l (aa.mk true (hZ ((l.drop 1).take (dN (l.drop 1)))).1 []) (1+dN (l.drop 1)) else .inl (hZ ((l.drop 1).take (dN (l.drop 1)))).2
def kK (k:Nat)(l:Bytes):Int⊕(aa×Nat):=if eN ((l.drop k).take (ff (l.drop k)))=true then .inr (aa.mk false 0 ((l.drop k).take (ff (l.drop k))),k+ff (l.drop k)) else .inl 2
def jA (first:Bool)(l:Bytes):Int⊕(aa×Nat):=if (l.getD 0 0).toNat=91 then nH l else if first=true then kK 0 l else if (l.getD 0 0).toNat=46 then kK 1 l else .inl 2
theorem wS {l:Bytes}{x y:aa}{n m:Nat}(h:kB l x n=.inr (y,m))(hn:n≤l.length):y=x∧m=n+1∧m≤l.length:=by
 unfold kB at h
 split at h
 ·cases h
 ·rename_i q; cases h; exact ⟨rfl,rfl,by omega⟩
theorem nW {first:Bool}{l:Bytes}{x:aa}{n:Nat}(hl:l≠[])(h:jA first l=.inr (x,n)):1≤n∧n≤l.length∧kw x:=by
 have hp:=List.length_pos_iff.2 hl
 have hd:(l.drop 1).length=l.length - 1:=by simp
 have nam:∀ k,k≤1→kK k l=.inr (x,n)→1≤n∧n≤l.length∧kw x:=by
  intro k hk h
  unfold kK at h
  split at h
  ·rename_i hi
   cases h
   obtain ⟨f1,f2,f3,_⟩:=lx hi
   have hw:=mY (l.drop k)
   have hk2:(l.drop k).length=l.length - k:=by simp
   refine ⟨?_,by omega,⟨⟨Int.le_refl 0,(show (0:Int)≤ga by decide)⟩,λ q=>(by cases q),λ _=>⟨rfl,Nat.le_trans f2 (by decide),f3⟩⟩⟩
   have:=List.length_pos_iff.2 f1
   rw [List.length_take] at this; omega
  ·cases h
 unfold jA at h
 split at h
 ·unfold nH at h
  split at h
  ·split at h
   ·rename_i h0
    have hu:=y6 (s:=l.drop 1) (x:=(gq (l.drop 1)).1) (n:=(gq (l.drop 1)).2.1) (by rw [← h0])
    obtain ⟨rfl,rfl,h3⟩:=wS h (by omega)
    exact ⟨by omega,h3,⟨⟨Int.le_refl 0,(show (0:Int)≤ga by decide)⟩,λ q=>(by cases q),λ _=>⟨rfl,hu.1,hu.2.1⟩⟩⟩
   ·cases h
  ·split at h
   ·rename_i h0
    have hdn:=vm (l.drop 1)
    have hv:=AP (tR (l.drop 1)) (v:=(hZ ((l.drop 1).take (dN (l.drop 1)))).1) (by rw [← h0])
    obtain ⟨rfl,rfl,h3⟩:=wS h (by omega)
    exact ⟨by omega,h3,⟨hv,λ _=>rfl,λ q=>(by cases q)⟩⟩
   ·cases h
 ·split at h
  ·exact nam 0 (by omega) h
  ·split at h
   ·exact nam 1 (by omega) h
   ·cases h
def StR (q:Int⊕(aa×Nat))(i:Nat)(r:aa×Int×Int):Prop:=match q with
 | .inl e=>r.2.2=e∧e≠0
 | .inr (x,n)=>r=(x,((i+n:Nat):Int),0)
theorem Az (s:Bytes)(hs:s.length≤1000000000):∀ (k i:Nat),i+k=s.length→Ev2 (λ _ m=>bB s m (i:Int)) (·=((i+dN (s.drop i):Nat):Int)):=by
 intro k
 induction k with
 | zero =>
  intro i hi
  refine aA ?_
  simp only [bB]
  refine al false (ax (by omega) (ac rfl)) (ax (by simp) (ac ?_))
  rw [List.drop_eq_nil_of_le (by omega)]; rfl
 | succ k ih =>
  intro i hi
  refine aA ?_
  simp only [bB]
  rw [drop_at s (i:=i) (by omega),dN]
  have hb:byt s (i:Int)=((s.getD i 0).toNat:Int):=b9 s i
  refine al (eh (s.getD i 0)) (aw (by omega) (ai (by omega) ?_)) (ak (λ h=>?_) (λ h=>ac (by rw [if_neg h]; omega)))
  ·rw [hb]
   unfold eh
   exact ak (λ h=>ai (by omega) (ac (by rw [show decide (48≤(s.getD i 0).toNat)=true from decide_eq_true (by omega),Bool.true_and,decide_eq_decide]; omega))) (λ h=>ac (by rw [show decide (48≤(s.getD i 0).toNat)=false from decide_eq_false (by omega)]; rfl))
  ·rw [if_pos h]
   refine ai (aC (by omega) (by omega)) ?_
   have:=jK (P:=λ j=>Ev2 (λ _ m=>bB s m j) _) (ih (i+1) (by omega))
   rw [show i+(dN (s.drop (i+1))+1)=i+1+dN (s.drop (i+1)) by omega]
   exact this
theorem zO (t:Bytes):hasPrefix t [34]=decide (t≠[]∧(t.getD 0 0).toNat=34):=by
 cases t with
 | nil=>rfl
 | cons b r =>
  refine eqB ?_
  have:b.toNat=34↔b=34:=mn (by decide)
  simp only [hasPrefix,List.isPrefixOf,Bool.and_true,beq_iff_eq,decide_eq_true_eq]
  show 34=b↔_∧b.toNat=34
  rw [this]
  exact ⟨λ h=>⟨by simp,h.symm⟩,λ h=>h.2.symm⟩
theorem Ad (l:Bytes)(hl:l.length≤1000000000)(h0:0 < l.length):Ev2 (λ n _=>ei n l) (StR (nH l) 0):=by
 simp only [ei]
 have hd:(l.drop 1).length=l.length - 1:=by simp
 have hs:sub l 1 (l.length:Int)=l.drop 1:=by rw [iI]; rfl
 -- what is behind the bracket's content
 have fin:∀ (x:aa) (n:Nat),n≤l.length→Ev2 (λ _ _=>(
   if (n:Int)=(l.length:Int) then
    some true
   else
    ck ((0:Int)≤(n:Int)∧(n:Int) < (l.length:Int)) <|
    some (!decide (byt l (n:Int)=93))
   : Option Bool).bind λ t38 =>
  if t38=true then
   some (aa.mk x.fIndex x.fNum x.fName,(0:Int),(2:Int))
  else
   ck (inR ((n:Int)+1)) <|
   some (aa.mk x.fIndex x.fNum x.fName,(n:Int)+1,0)) (StR (kB l x n) 0):=by
  intro x n hn
  have hx:aa.mk x.fIndex x.fNum x.fName=x:=by cases x; rfl
  rw [hx]
  have hb:byt l (n:Int)=((l.getD n 0).toNat:Int):=b9 l n
  refine al (decide (n=l.length∨(l.getD n 0).toNat≠93)) ?_ ?_
  ·refine ak (λ h=>ac (by simp; omega)) (λ h=>ai (by omega) (ac ?_))
   rw [hb]
   refine eqB ?_
   simp only [Bool.not_eq_true',decide_eq_false_iff_not,decide_eq_true_eq]
   omega
  ·unfold kB
   refine ak (λ h=>ac ?_) (λ h=>ai (aC (by omega) (by omega)) (ac ?_))
   ·rw [if_pos (of_decide_eq_true h)]; exact ⟨rfl,by decide⟩
   ·rw [if_neg (λ q=>h (decide_eq_true q))]
    show _=(x,((0+(n+1):Nat):Int),(0:Int))
    rw [Nat.zero_add]; rfl
 have hp:strings_HasPrefix (l.drop 1) [34]=some (hasPrefix (l.drop 1) [34]):=rfl
 unfold nH
 by_cases hq:((l.drop 1).getD 0 0).toNat=34
 ·have hne:l.drop 1≠[]:=λ e=>by rw [e] at hq; exact absurd hq (by decide)
  have hpt:hasPrefix (l.drop 1) [34]=true:=by rw [zO]; exact decide_eq_true ⟨hne,hq⟩
  rw [if_pos hq]
  have hu:=vb (l.drop 1)
  by_cases he:(gq (l.drop 1)).2.2=0
  ·rw [if_pos he]
   refine cP (1+(gq (l.drop 1)).2.1,false,0,(gq (l.drop 1)).1) ?_ ?_
   ·refine ai (by omega) ?_
    rw [hs]
    refine al _ (aO hp rfl) (aw hpt (ai (by omega) (al _ (yj _ (by omega)) (aw he (ai (aC (by omega) (by omega)) (ac rfl))))))
   ·have:=fin (aa.mk false 0 (gq (l.drop 1)).1) (1+(gq (l.drop 1)).2.1.toNat) (by omega)
    rw [show ((1+(gq (l.drop 1)).2.1.toNat:Nat):Int)=1+(gq (l.drop 1)).2.1 by omega] at this
    exact this
  ·rw [if_neg he]
   refine dU (aa.mk false 0 [],0,(gq (l.drop 1)).2.2) ?_ ⟨rfl,he⟩
   refine ai (by omega) ?_
   rw [hs]
   exact al _ (aO hp rfl) (aw hpt (ai (by omega) (al _ (yj _ (by omega)) (ax he (ac rfl)))))
 ·have hpt:hasPrefix (l.drop 1) [34]=false:=by rw [zO]; exact decide_eq_false (λ h=>hq h.2)
  rw [if_neg hq]
  have hdn:=vm (l.drop 1)
  have hl1:=Az l hl (l.length - 1) 1 (by omega)
  have hsb:sub l 1 ((1+dN (l.drop 1):Nat):Int)=(l.drop 1).take (dN (l.drop 1)):=by
   have:=jp l 1 (dN (l.drop 1))
   rw [← this]; congr 1
  by_cases he:(hZ ((l.drop 1).take (dN (l.drop 1)))).2=0
  ·rw [if_pos he]
   refine cP (((1+dN (l.drop 1):Nat):Int),true,(hZ ((l.drop 1).take (dN (l.drop 1)))).1,([]:Bytes)) ?_ (fin (aa.mk true _ []) (1+dN (l.drop 1)) (by omega))
   refine ai (by omega) ?_
   rw [hs]
   refine al _ (aO hp rfl) (ax (by rw [hpt]; decide) (al _ (aT (f:=λ _ m=>bB l m 1) hl1) (ai (by omega) ?_)))
   rw [hsb]
   exact al _ (oT _ (by rw [List.length_take]; omega)) (aw he (ac rfl))
  ·rw [if_neg he]
   refine dU (aa.mk false 0 [],0,(hZ ((l.drop 1).take (dN (l.drop 1)))).2) ?_ ⟨rfl,he⟩
   refine ai (by omega) ?_
   rw [hs]
   refine al _ (aO hp rfl) (ax (by rw [hpt]; decide) (al _ (aT (f:=λ _ m=>bB l m 1) hl1) (ai (by omega) ?_)))
   rw [hsb]
   exact al _ (oT _ (by rw [List.length_take]; omega)) (ax he (ac rfl))
theorem yF (l:Bytes)(hl:l.length≤1000000000)(h0:0 < l.length)(first:Bool):Ev2 (λ n _=>gx n l first) (StR (jA first l) 0):=by
 simp only [gx]
 have hb:byt l 0=((l.getD 0 0).toNat:Int):=b9 l 0
 rw [hb]
 unfold jA
 -- a name,k bytes on
 have nam:∀ k:Nat,k≤1→Ev2 (λ n _=>ck ((0:Int)≤(k:Int)∧(k:Int)≤(l.length:Int)∧(l.length:Int)≤(l.length:Int)) <|
  (strings_IndexAny (sub l (k:Int) (l.length:Int)) ([46,91]:Bytes)).bind λ r10 =>
  (
   if r10 < 0 then
    ck (inR ((l.length:Int) - (k:Int))) <|
    some ((l.length:Int) - (k:Int))
   else
    some r10
   : Option Int).bind λ n14 =>
  ck (inR ((k:Int)+n14)) <|
  ck ((0:Int)≤(k:Int)∧(k:Int)≤(k:Int)+n14∧(k:Int)+n14≤(l.length:Int)) <|
  (co n (sub l (k:Int) ((k:Int)+n14))).bind λ r17 =>
  if (!r17)=true then
   some ((aa.mk false 0 ([]:Bytes)),(0:Int),(2:Int))
  else
   ck (inR ((k:Int)+n14)) <|
   some ((aa.mk false 0 (sub l (k:Int) ((k:Int)+n14))),(k:Int)+n14,0)) (StR (kK k l) 0):=by
  intro k hk
  have hs:sub l (k:Int) (l.length:Int)=l.drop k:=by rw [iI]; rfl
  have hkl:(l.drop k).length=l.length - k:=by simp
  have hx:strings_IndexAny (l.drop k) [46,91]=some (indexAny (l.drop k) [46,91]):=by
   unfold strings_IndexAny; exact bm ⟨rfl,by omega⟩
  have hw:=pI (l.drop k)
  have hle:=mY (l.drop k)
  refine ai (by omega) ?_
  rw [hs]
  refine al _ (aO hx rfl) (al (ff (l.drop k):Int) ?_ ?_)
  ·rw [← hw]
   exact ak (λ h=>ai (aC (by omega) (by omega)) (ac (by rw [if_pos h,hkl]; omega))) (λ h=>ac (by rw [if_neg h]))
  ·have hsb:sub l (k:Int) ((k:Int)+(ff (l.drop k):Int))=(l.drop k).take (ff (l.drop k)):=jp l k _
   refine ai (aC (by omega) (by omega)) (ai (by omega) ?_)
   rw [hsb]
   refine al _ (sZ _ (by rw [List.length_take]; omega)) ?_
   unfold kK
   refine ak (λ h=>ac ?_) (λ h=>ai (aC (by omega) (by omega)) (ac ?_))
   ·rw [if_neg (by simpa using h)]; exact ⟨rfl,by decide⟩
   ·rw [if_pos (by simpa using h)]
    show _=(_,((0+(k+ff (l.drop k)):Nat):Int),(0:Int))
    rw [Nat.zero_add,Int.natCast_add]
 refine ai (by omega) (ak (λ h=>?_) (λ h=>?_))
 ·rw [if_pos (show (l.getD 0 0).toNat=91 by omega)]
  exact bD _ (Ad l hl h0) (λ r hr=>ac hr)
 ·rw [if_neg (show ¬ (l.getD 0 0).toNat=91 by omega)]
  cases first with
  | true =>
   show Ev2 _ (StR (kK 0 l) 0)
   exact cP 0 (ax (by decide) (ac rfl)) (nam 0 (by omega))
  | false =>
   show Ev2 _ (StR (if (l.getD 0 0).toNat=46 then kK 1 l else .inl 2) 0)
   by_cases h46:(l.getD 0 0).toNat=46
   ·rw [if_pos h46]
    exact cP 1 (aw (by decide) (ai (by omega) (aw (by omega) (ac rfl)))) (nam 1 (by omega))
   ·rw [if_neg h46]
    exact dU (aa.mk false 0 [],0,2) (aw (by decide) (ai (by omega) (ax (by omega) (ac rfl)))) ⟨rfl,by decide⟩
def prs:Nat→List aa→Bytes→Int⊕List aa
 | 0,_,_=>.inl 1
 | f+1,acc,l=>if l=[] then .inr acc else if acc.length=32 then .inl 4 else match jA (decide (acc.length=0)) l with
  | .inl e=>.inl e
  | .inr (x,n)=>prs f (acc++[x]) (l.drop n)
def gi (s:Bytes):List aa×Int:=if 65536 < s.length then ([],3) else match prs (s.length+1) [] s with
 | .inl e=>([],e)
 | .inr p=>if fu true p=s then (p,0) else ([],2)
def ze (q:Int⊕List aa):(List aa)⊕((List aa)×Int):=match q with
 | .inl e=>.inr ([],e)
 | .inr p=>.inl p
theorem rH:∀ (f:Nat) (acc:List aa) (l:Bytes) (p:List aa),prs f acc l=.inr p→(∀ x∈acc,kw x)→acc.length≤32→(∀ x∈p,kw x)∧p.length≤32
 | 0,_,_,_,h,_,_=>by cases h
 | f+1,acc,l,p,h,ha,hl=>by
  rw [prs] at h
  split at h
  ·cases h; exact ⟨ha,hl⟩
  ·rename_i hne
   split at h
   ·cases h
   ·rename_i h32
    split at h
    ·cases h
    ·rename_i x n hs
     have:=nW hne hs
     refine rH f _ _ _ h (λ y hy=>?_) (by simp only [List.length_append,List.length_cons,List.length_nil]; omega)
     rcases List.mem_append.1 hy with hy | hy
     ·exact ha y hy
     ·rw [List.mem_singleton.1 hy]; exact this.2.2
theorem wT:∀ (f:Nat) (acc:List aa) (l:Bytes),l.length < f→l.length≤1000000000→acc.length≤32→Ev2 (λ n m=>cY n m acc l) (·=ze (prs f acc l))
 | 0,_,_,h,_,_=>absurd h (Nat.not_lt_zero _)
 | f+1,acc,l,hf,hl,ha=>by
  refine aA ?_
  simp only [cY]
  rw [prs]
  refine ak (λ h=>ac (by rw [if_pos h]; rfl)) (λ h=>?_)
  rw [if_neg h]
  refine ak (λ h2=>ac (by rw [if_pos (by omega)]; rfl)) (λ h2=>?_)
  rw [if_neg (by omega)]
  have hdec:decide ((acc.length:Int)=0)=decide (acc.length=0):=by rw [decide_eq_decide]; omega
  rw [hdec]
  refine bD _ (yF l hl (List.length_pos_iff.2 h) _) (λ r hr=>?_)
  cases hs:jA (decide (acc.length=0)) l with
  | inl e =>
   rw [hs] at hr
   exact ax (by rw [hr.1]; exact hr.2) (ac (by rw [hr.1]; rfl))
  | inr z =>
   obtain ⟨x,n⟩:=z
   rw [hs] at hr
   have hr:r=(x,((0+n:Nat):Int),0):=hr
   rw [Nat.zero_add] at hr
   obtain ⟨h1,h3,_⟩:=nW h hs
   rw [hr]
   refine aw rfl (ai (by simp only [List.length_cons,List.length_nil]; omega) (ai (by simp only; omega) ?_))
   have hsub:sub l (n:Int) (l.length:Int)=l.drop n:=by rw [iI]; rfl
   simp only
   rw [hsub]
   exact wT f _ _ (by rw [List.length_drop]; omega) (by rw [List.length_drop]; omega) (by simp only [List.length_append,List.length_cons,List.length_nil]; omega)
theorem qv (s:Bytes):Ev2 (λ n _=>d9 n s) (·=gi s):=by
 simp only [d9,gi]
 refine ak (λ h=>ac (by rw [if_pos (by omega)])) (λ h=>?_)
 rw [if_neg (by omega)]
 have l:=wT (s.length+1) [] s (by omega) (by omega) (by simp)
 cases hp:prs (s.length+1) [] s with
 | inl e=>rw [hp] at l; exact dU _ (aT l) rfl
 | inr p =>
  rw [hp] at l
  obtain ⟨k1,k2⟩:=rH _ _ _ _ hp (by simp) (by simp)
  refine cP p (aT l) (al _ (rR p (by omega) k1) ?_)
  exact ak (λ h=>ac (by simp only; rw [if_pos h])) (λ h=>ac (by simp only; rw [if_neg h]))
theorem zy (s:Bytes)(hs:s.length≤1000000000):∀ (k i:Nat),i+k=s.length→Ev2 (λ _ m=>bJ s m (i:Int)) (·=((i+dN (s.drop i):Nat):Int)):=by
 intro k
 induction k with
 | zero =>
  intro i hi
  refine aA ?_
  simp only [bJ]
  refine al false (ax (by omega) (ac rfl)) (ax (by simp) (ac ?_))
  rw [List.drop_eq_nil_of_le (by omega)]; rfl
 | succ k ih =>
  intro i hi
  refine aA ?_
  simp only [bJ]
  rw [drop_at s (i:=i) (by omega),dN]
  have hb:byt s (i:Int)=((s.getD i 0).toNat:Int):=b9 s i
  refine al (eh (s.getD i 0)) (aw (by omega) (ai (by omega) ?_)) (ak (λ h=>?_) (λ h=>ac (by rw [if_neg h]; omega)))
  ·rw [hb]
   unfold eh
   exact ak (λ h=>ai (by omega) (ac (by rw [show decide (48≤(s.getD i 0).toNat)=true from decide_eq_true (by omega),Bool.true_and,decide_eq_decide]; omega))) (λ h=>ac (by rw [show decide (48≤(s.getD i 0).toNat)=false from decide_eq_false (by omega)]; rfl))
  ·rw [if_pos h]
   refine ai (aC (by omega) (by omega)) ?_
   have:=jK (P:=λ j=>Ev2 (λ _ m=>bJ s m j) _) (ih (i+1) (by omega))
   rw [show i+(dN (s.drop (i+1))+1)=i+1+dN (s.drop (i+1)) by omega]
   exact this
theorem vE (s:Bytes)(hs:s.length≤1000000000)(i:Nat)(hi:i < s.length):Ev2 (λ n _=>fX n s (i:Int)) (StR (nH (s.drop i)) i):=by
 simp only [fX]
 obtain ⟨l,hl⟩:∃ l,l=s.drop i:=⟨_,rfl⟩
 rw [← hl]
 have hll:l.length=s.length - i:=by rw [hl,List.length_drop]
 have hd:(l.drop 1).length=l.length - 1:=by simp
 have hd1:s.drop (i+1)=l.drop 1:=by rw [hl,List.drop_drop]
 have hsb0:sub s ((i:Int)+1) (s.length:Int)=l.drop 1:=by
  rw [iI,← hd1]; congr 1
 have fin:∀ (x:aa) (n:Nat),n≤l.length→∀ z:Int,z=((i+n:Nat):Int)→Ev2 (λ _ _=>(
   if (s.length:Int)≤z then
    some true
   else
    ck ((0:Int)≤z∧z < (s.length:Int)) <|
    some (!decide (byt s z=93))
   : Option Bool).bind λ t40 =>
  if t40=true then
   some (aa.mk false 0 ([]:Bytes),(0:Int),(2:Int))
  else
   ck (inR (z+1)) <|
   some (aa.mk x.fIndex x.fNum x.fName,z+1,0)) (StR (kB l x n) i):=by
  intro x n hn z hz
  subst hz
  have hx:aa.mk x.fIndex x.fNum x.fName=x:=by cases x; rfl
  rw [hx]
  have hb:byt s ((i+n:Nat):Int)=((l.getD n 0).toNat:Int):=by rw [hl,getD_drop]; exact b9 s (i+n)
  refine al (decide (n=l.length∨(l.getD n 0).toNat≠93)) ?_ ?_
  ·refine ak (λ h=>ac (by simp; omega)) (λ h=>ai (by omega) (ac ?_))
   rw [hb]
   refine eqB ?_
   simp only [Bool.not_eq_true',decide_eq_false_iff_not,decide_eq_true_eq]
   omega
  ·unfold kB
   refine ak (λ h=>ac ?_) (λ h=>ai (aC (by omega) (by omega)) (ac ?_))
   ·rw [if_pos (of_decide_eq_true h)]; exact ⟨rfl,by decide⟩
   ·rw [if_neg (λ q=>h (decide_eq_true q))]
    show _=(x,((i+(n+1):Nat):Int),(0:Int))
    rw [← Nat.add_assoc]; rfl
 have hq1:Ev2 (λ _ _=>(if (i:Int)+1 < (s.length:Int) then ck ((0:Int)≤(i:Int)+1∧(i:Int)+1 < (s.length:Int)) <| some (decide (byt s ((i:Int)+1)=34)) else some false:Option Bool)) (·=decide (((l.drop 1).getD 0 0).toNat=34)):=by
  have e:(l.drop 1).getD 0 0=s.getD (i+1) 0:=by rw [← hd1,getD_drop]
  rw [e]
  have hb:byt s ((i:Int)+1)=((s.getD (i+1) 0).toNat:Int):=by
   have:=b9 s (i+1)
   rwa [Int.natCast_add,Int.natCast_one] at this
  refine ak (λ h=>ai (by omega) (ac ?_)) (λ h=>ac ?_)
  ·rw [hb,decide_eq_decide]; omega
  ·symm; rw [decide_eq_false_iff_not]
   intro q
   rw [List.getD_eq_getElem?_getD,List.getElem?_eq_none (by omega)] at q
   exact absurd q (by decide)
 refine ai (aC (by omega) (by omega)) ?_
 unfold nH
 by_cases hq:((l.drop 1).getD 0 0).toNat=34
 ·rw [if_pos hq]
  have hq2:decide (((l.drop 1).getD 0 0).toNat=34)=true:=decide_eq_true hq
  have hu:=vb (l.drop 1)
  by_cases he:(gq (l.drop 1)).2.2=0
  ·rw [if_pos he]
   refine cP (((i:Int)+1)+(gq (l.drop 1)).2.1,false,0,(gq (l.drop 1)).1) ?_ (fin (aa.mk false 0 (gq (l.drop 1)).1) (1+(gq (l.drop 1)).2.1.toNat) (by omega) _ (by simp only; omega))
   refine al _ hq1 (aw hq2 (ai (by omega) ?_))
   rw [hsb0]
   exact al _ (uZ _ (by omega)) (aw he (ai (aC (by omega) (by omega)) (ac rfl)))
  ·rw [if_neg he]
   refine dU (aa.mk false 0 [],0,(gq (l.drop 1)).2.2) ?_ ⟨rfl,he⟩
   refine al _ hq1 (aw hq2 (ai (by omega) ?_))
   rw [hsb0]
   exact al _ (uZ _ (by omega)) (ax he (ac rfl))
 ·rw [if_neg hq]
  have hq2:¬ decide (((l.drop 1).getD 0 0).toNat=34)=true:=λ h=>hq (of_decide_eq_true h)
  have hdn:=vm (l.drop 1)
  have hl1:=zy s hs (s.length - (i+1)) (i+1) (by omega)
  rw [hd1] at hl1
  have hl2:Ev2 (λ n _=>bJ s n ((i:Int)+1)) (·=((i+1+dN (l.drop 1):Nat):Int)):=aT (f:=λ _ m=>bJ s m ((i:Int)+1)) (jK (P:=λ j=>Ev2 (λ _ m=>bJ s m j) _) hl1)
  have hsb:sub s ((i:Int)+1) ((i+1+dN (l.drop 1):Nat):Int)=(l.drop 1).take (dN (l.drop 1)):=by
   have:=jp s (i+1) (dN (l.drop 1))
   rw [hd1] at this
   rw [← this]; congr 1
  have hdg:=tR (l.drop 1)
  have hnr:=xn hdg
  by_cases he:(hZ ((l.drop 1).take (dN (l.drop 1)))).2=0
  ·rw [if_pos he]
   refine cP (((i+1+dN (l.drop 1):Nat):Int),true,(hZ ((l.drop 1).take (dN (l.drop 1)))).1,([]:Bytes)) ?_ (fin (aa.mk true _ []) (1+dN (l.drop 1)) (by omega) _ (by simp only; omega))
   refine al _ hq1 (ax hq2 (al _ hl2 (ai (aC (by omega) (by omega)) (ai (by omega) ?_))))
   rw [hsb]
   have h:=vk _ (by rw [List.length_take]; omega) hdg
   rw [hnr] at h
   exact al _ h (aw he (ac rfl))
  ·rw [if_neg he]
   refine dU (aa.mk false 0 [],0,(hZ ((l.drop 1).take (dN (l.drop 1)))).2) ?_ ⟨rfl,he⟩
   refine al _ hq1 (ax hq2 (al _ hl2 (ai (aC (by omega) (by omega)) (ai (by omega) ?_))))
   rw [hsb]
   have h:=vk _ (by rw [List.length_take]; omega) hdg
   rw [hnr] at h
   exact al _ h (ax he (ac rfl))
theorem yA (s:Bytes)(hs:s.length≤1000000000):∀ (k i:Nat),i+k=s.length→Ev2 (λ _ m=>cg s m (i:Int)) (·=((i+ff (s.drop i):Nat):Int)):=by
 intro k
 induction k with
 | zero =>
  intro i hi
  refine aA ?_
  simp only [cg]
  refine al false (ax (by omega) (ac rfl)) (ax (by simp) (ac ?_))
  rw [List.drop_eq_nil_of_le (by omega)]; rfl
 | succ k ih =>
  intro i hi
  refine aA ?_
  simp only [cg]
  rw [drop_at s (i:=i) (by omega),ff]
  have hb:byt s (i:Int)=((s.getD i 0).toNat:Int):=b9 s i
  refine al (!kF (s.getD i 0)) (aw (by omega) (ai (by omega) ?_)) (ak (λ h=>?_) (λ h=>ac ?_))
  ·rw [hb]
   unfold kF
   refine ak (λ h=>ac ?_) (λ h=>ai (by omega) (ac ?_))
   ·rw [show decide ((s.getD i 0).toNat=46)=true from decide_eq_true (by omega)]; rfl
   ·rw [show decide ((s.getD i 0).toNat=46)=false from decide_eq_false (by omega),Bool.false_or]
    congr 1
    rw [decide_eq_decide]; omega
  ·rw [if_neg (by simpa using h)]
   refine ai (aC (by omega) (by omega)) ?_
   have:=jK (P:=λ j=>Ev2 (λ _ m=>cg s m j) _) (ih (i+1) (by omega))
   rw [show i+(ff (s.drop (i+1))+1)=i+1+ff (s.drop (i+1)) by omega]
   exact this
  ·rw [if_pos (by simpa using h)]; rfl
theorem vt (s:Bytes)(hs:s.length≤1000000000):∀ (f:Nat) (acc:List aa) (i:Nat),i≤s.length→s.length - i < f→acc.length≤32→Ev2 (λ n m=>ci n s m acc (i:Int)) (·=ze (prs f acc (s.drop i)))
 | 0,_,_,_,h,_=>absurd h (Nat.not_lt_zero _)
 | f+1,acc,i,hi,hf,ha=>by
  refine aA ?_
  simp only [ci]
  rw [prs]
  refine ak (λ h=>?_) (λ h=>ac (by rw [if_pos (List.drop_eq_nil_of_le (by omega))]; rfl))
  have hne:s.drop i≠[]:=λ e=>by have:=congrArg List.length e; simp at this; omega
  rw [if_neg hne]
  have hb:byt s (i:Int)=(((s.drop i).getD 0 0).toNat:Int):=by rw [getD_drop]; exact b9 s i
  by_cases h32:acc.length=32
  ·rw [if_pos h32]
   exact dU _ (aw (by omega) (ac rfl)) rfl
  rw [if_neg h32]
  -- behind a step
  have nxt:∀ (x:aa) (n:Nat),jA (decide (acc.length=0)) (s.drop i)=.inr (x,n)→∀ z:Int,z=((i+n:Nat):Int)→Ev2 (λ n m=>ci n s m (acc++[x]) z) (·=ze (prs f (acc++[x]) ((s.drop i).drop n))):=by
   intro x n hst z hz
   subst hz
   obtain ⟨h1,h2,_⟩:=nW hne hst
   rw [List.length_drop] at h2
   rw [List.drop_drop]
   exact vt s hs f _ (i+n) (by omega) (by omega) (by simp only [List.length_append,List.length_cons,List.length_nil]; omega)
  have hal:∀ x:aa,(acc.length+[x].length)*32≤140737488355328:=λ x=>by simp only [List.length_cons,List.length_nil]; omega
  by_cases h91:((s.drop i).getD 0 0).toNat=91
  ·have he:jA (decide (acc.length=0)) (s.drop i)=nH (s.drop i):=by unfold jA; rw [if_pos h91]
   rw [he]
   cases hbr:nH (s.drop i) with
   | inl e =>
    have hv:=vE s hs i (by omega)
    rw [hbr] at hv
    refine dU (.inr ([],e)) (ax (by omega) (ai (by omega) (aw (by omega) (bD _ hv (λ r hr=>?_))))) rfl
    exact ax (by rw [hr.1]; exact hr.2) (ac (by rw [hr.1]))
   | inr z =>
    obtain ⟨x,n⟩:=z
    have hv:=vE s hs i (by omega)
    rw [hbr] at hv
    refine cP (acc++[x],((i+n:Nat):Int)) (ax (by omega) (ai (by omega) (aw (by omega) (bD _ hv (λ r hr=>?_))))) (nxt x n (he.trans hbr) _ rfl)
    have hr:r=(x,((i+n:Nat):Int),0):=hr
    rw [hr]
    exact aw rfl (ai (hal x) (ac rfl))
  · -- a name,k bytes on
   have nam:∀ (k:Nat),k≤1→i+k≤s.length→jA (decide (acc.length=0)) (s.drop i)=kK k (s.drop i)→∀ z:Int,z=((i+k:Nat):Int)→Ev2 (λ n _=>(cg s n z).bind λ j75 =>
     ck ((0:Int)≤z∧z≤j75∧j75≤(s.length:Int)) <|
     (dr n (sub s z j75)).bind λ r77 =>
     if (!r77)=true then
      some ((.inr (.inr ([],2))):(List aa×Int)⊕((List aa)⊕((List aa)×Int)))
     else
      ck ((0:Int)≤z∧z≤j75∧j75≤(s.length:Int)) <|
      ck ((acc.length+[(aa.mk false 0 (sub s z j75))].length)*32≤140737488355328) <|
      some (.inl (acc++[(aa.mk false 0 (sub s z j75))],j75))) (·=match kK k (s.drop i) with | .inl e=>.inr (.inr ([],e)) | .inr (x,n)=>.inl (acc++[x],((i+n:Nat):Int))):=by
    intro k hk hik _ z hz
    subst hz
    have hl2:=yA s hs (s.length - (i+k)) (i+k) (by omega)
    have hle:=mY (s.drop (i+k))
    rw [List.length_drop] at hle
    have hsb:sub s ((i+k:Nat):Int) ((i+k+ff (s.drop (i+k)):Nat):Int)=(s.drop (i+k)).take (ff (s.drop (i+k))):=by
     have:=jp s (i+k) (ff (s.drop (i+k)))
     rw [← this]; congr 1
    have hdd:(s.drop i).drop k=s.drop (i+k):=List.drop_drop
    unfold kK
    rw [hdd]
    refine al _ (aT (f:=λ _ m=>cg s m ((i+k:Nat):Int)) hl2) (ai (by omega) ?_)
    rw [hsb]
    refine al _ (ri _ (by rw [List.length_take,List.length_drop]; omega)) (ak (λ h=>ac ?_) (λ h=>ai (by omega) (ai (hal _) (ac ?_))))
    ·rw [if_neg (by simpa using h)]
    ·rw [if_pos (by simpa using h)]
     show Sum.inl _=Sum.inl (_,((i+(k+ff (s.drop (i+k))):Nat):Int))
     rw [← Nat.add_assoc]
   have fin:∀ X:Nat→Nat→Option (((List aa)×Int)⊕((List aa)⊕((List aa)×Int))),Ev2 X (·=match jA (decide (acc.length=0)) (s.drop i) with | .inl e=>.inr (.inr ([],e)) | .inr (x,n)=>.inl (acc++[x],((i+n:Nat):Int))) →
     Ev2 (λ n m=>jn (X n m) λ q91=>ci n s m q91.1 q91.2) (·=ze (match jA (decide (acc.length=0)) (s.drop i) with | .inl e=>.inl e | .inr (x,n)=>prs f (acc++[x]) ((s.drop i).drop n))):=by
    intro X hX
    cases hst:jA (decide (acc.length=0)) (s.drop i) with
    | inl e=>rw [hst] at hX; exact dU (.inr ([],e)) hX rfl
    | inr z =>
     obtain ⟨x,n⟩:=z
     rw [hst] at hX
     exact cP (acc++[x],((i+n:Nat):Int)) hX (nxt x n hst _ rfl)
   refine fin _ (ax (by omega) (ai (by omega) (ax (by omega) ?_)))
   by_cases h0:acc.length=0
   ·have he:jA (decide (acc.length=0)) (s.drop i)=kK 0 (s.drop i):=by unfold jA; rw [if_neg h91,if_pos (decide_eq_true h0)]
    rw [he]
    exact cP (i:Int) (ax (by omega) (ac rfl)) (nam 0 (by omega) (by omega) he _ rfl)
   ·by_cases h46:((s.drop i).getD 0 0).toNat=46
    ·have he:jA (decide (acc.length=0)) (s.drop i)=kK 1 (s.drop i):=by unfold jA; rw [if_neg h91,if_neg (λ q=>h0 (of_decide_eq_true q)),if_pos h46]
     rw [he]
     exact cP ((i:Int)+1) (aw (by omega) (ai (by omega) (aw (by omega) (ai (aC (by omega) (by omega)) (ac rfl))))) (nam 1 (by omega) (by omega) he _ (by omega))
    ·have he:jA (decide (acc.length=0)) (s.drop i)=.inl 2:=by unfold jA; rw [if_neg h91,if_neg (λ q=>h0 (of_decide_eq_true q)),if_neg h46]
     rw [he]
     exact dU (.inr (.inr ([],2))) (aw (by omega) (ai (by omega) (ax (by omega) (ac rfl)))) rfl
theorem ws (s:Bytes):Ev2 (λ n _=>iO n s) (·=gi s):=by
 simp only [iO,gi]
 refine ak (λ h=>ac (by rw [if_pos (by omega)])) (λ h=>?_)
 rw [if_neg (by omega)]
 have l:=vt s (by omega) (s.length+1) [] 0 (by omega) (by omega) (by simp)
 rw [List.drop_zero] at l
 cases hp:prs (s.length+1) [] s with
 | inl e=>rw [hp] at l; exact dU _ (aT (f:=λ n m=>ci n s m [] 0) l) rfl
 | inr p =>
  rw [hp] at l
  obtain ⟨k1,k2⟩:=rH _ _ _ _ hp (by simp) (by simp)
  refine cP p (aT (f:=λ n m=>ci n s m [] 0) l) (al _ (u0 p (by omega) k1) ?_)
  exact ak (λ h=>ac (by simp only; rw [if_pos h])) (λ h=>ac (by simp only; rw [if_neg h]))
theorem nP (a:List aa)(ha:a.length≤1000000000000000):Ev2 (λ n _=>et n a a) (·=true):=by
 simp only [et]
 have loop:∀ (k i:Nat),i+k=a.length→Ev2 (λ _ m=>bN a a m (i:Int)) (·=.inl ()):=by
  intro k
  induction k with
  | zero =>
   intro i hi
   refine aA ?_
   simp only [bN]
   exact ax (by omega) (ac rfl)
  | succ k ih =>
   intro i hi
   refine aA ?_
   simp only [bN]
   refine aw (by omega) (ai (by omega) (ai (by omega) (aw (by simp) (ai (aC (by omega) (by omega)) ?_))))
   exact jK (P:=λ j=>Ev2 (λ _ m=>bN a a m j) _) (ih (i+1) (by omega))
 exact aw trivial (cP () (aT (f:=λ _ m=>bN a a m 0) (loop a.length 0 (by omega))) (ac rfl))
theorem oM (s:Bytes):(gi s).1.length≤32∧∀ x∈(gi s).1,kw x:=by
 unfold gi
 split
 ·exact ⟨by simp,by simp⟩
 ·split
  ·exact ⟨by simp,by simp⟩
  ·rename_i p hp
   obtain ⟨k1,k2⟩:=rH _ _ _ _ hp (by simp) (by simp)
   split
   ·exact ⟨k2,k1⟩
   ·exact ⟨by simp,by simp⟩
theorem us (s:Bytes):Ev2 (λ n _=>fL n s) (·=true):=by
 simp only [fL]
 refine ak (λ h=>al _ eR (ac rfl)) (λ h=>?_)
 have hl:=(oM s).1
 exact al _ (qv s) (al _ (ws s) (al true (al _ (nP _ (by omega)) (aw rfl (aw rfl (al _ eR (ac rfl))))) (ac rfl)))
end Go.Ab.R06
end
section
namespace Go.Ab.R06
open Go.Proofs Go.Ab Go.Ab.RB
theorem td {n:Nat}{a:PV}(h1:WTf tt n 9 a.cells)(h2:a=mkE (((look tt 9).map (·.k.isAgg)).getD false) a.cells):∃ s:Bytes,a=eS s∧s.length≤fS:=by
 cases n with
 | zero=>exact h1.elim
 | succ n =>
  obtain ⟨s,e,b⟩:=Go.Ab.lY rfl h1
  exact ⟨s,xP e h2,b⟩
theorem tY (qs:List PV)(h:WTa tt [9] qs):au Tryz.prog 3 qs (·=.p (.val (.bool true))):=by
 match qs,h with
 | [a],⟨⟨n,h1,h2⟩,_⟩ =>
  obtain ⟨s,rfl,_⟩:=td h1 h2
  obtain ⟨n,r,hr,rfl⟩:=qz (us s)
  exact l7 n s true hr
end Go.Ab.R06
end
section
namespace Go.Ab.R06
open Go.Proofs Go.Ab Go.Ab.RB
attribute [local irreducible] awp eQ aU au bH AV.sub M cC
def gP (n:Nat)(p_0:List aa)(s_1:Bytes):Option Bool :=
 (
   (gD n p_0).bind λ r1 =>
   if (!r1)=true then
    some true
   else
    some (decide (20000 < (s_1.length:Int)))
  : Option Bool).bind λ t4 =>
 if t4=true then
  (bK n).bind λ r6 =>
  some r6
 else
  jn (
    (gp n p_0).bind λ r8 =>
    if r8=0 then
     (dk n p_0).bind λ r11 =>
     (d9 n r11).bind λ r13 =>
     (
       if (r11.length:Int)≤65536 then
        if r13.2=0 then
         (et n p_0 r13.1).bind λ r17 =>
         some (!r17)
        else
         some true
       else
        some false
      : Option Bool).bind λ t19 =>
     if t19=true then
      some (.inr false)
     else
      some (.inl ())
    else
     some (.inl ())
   : Option (Unit⊕Bool)) λ _q36 =>
  (d9 n s_1).bind λ r21 =>
  (
    if r21.2=0 then
     (gp n r21.1).bind λ r24 =>
     if r24=0 then
      (dk n r21.1).bind λ r27 =>
      if r27=s_1 then
       (bK n).bind λ r30 =>
       some r30
      else
       some false
     else
      some false
    else
     (bK n).bind λ r32 =>
     some r32
   : Option Bool).bind λ t34 =>
  some t34
theorem nn (n:Nat)(p_0:List aa)(s_1:Bytes)(r:Bool)(h0:gP n p_0 s_1=some r):au Tryz.prog 6 [eL ae p_0,eS s_1] (·=.p (eB r)):=by
 unfold gP at h0
 refine aH good Tryz.func6 rfl rfl rfl λ w0=>mP (λ v:Bool=>.p (eB v)) ?_
 refine nx 6 rfl (bd h0 λ o39 h1 h0=>?_)
 refine kN o39 (λ v40=>⟨[(0,.p (eL ae p_0)),(1,.p (eS s_1)),(17,.p (eB v40))],[]⟩) ?_ ?_
 ·refine nx 1 rfl (fB [17] h0 rfl (λ c5 h0=>?_) λ c5 h0=>?_)
  ·refine nx 3 rfl (bd h0 λ r6 e7 h0=>?_)
   refine oK (bZ _  _ e7) rfl trivial Tryz.call11 rfl (nx 3 rfl ?_)
   exact mQ (oi h0) rfl (sr)
  refine nx 3 rfl ?_
  obtain ⟨o41,h1,hL0,hR0⟩:=cn h0
  refine kX (λ v42:Unit=>o41=.inl v42) (λ v42=>⟨[(1,.p (eS s_1))],[]⟩) (λ v42 hv=>?_) ?_
  ·have h0:=hL0 _ hv
   refine nx 4 rfl (bd h0 λ r21 e22 h0=>?_)
   refine oK (iD _ s_1 _ e22) rfl ⟨sr,trivial⟩ Tryz.call12 rfl (nx 7 rfl ?_)
   refine bd h0 λ o43 h1 h0=>kN o43 (λ v44=>⟨[(4,.p (eB v44))],[]⟩) ?_ ?_
   ·exact nx 2 rfl (mQ (oi h0) rfl (sr))
   refine nx 4 rfl (fN [48,49] h1 rfl (λ c23 h1=>?_) λ c23 h1=>?_)
   ·refine nx 1 rfl (bd h1 λ r24 e25 h1=>?_)
    refine oK (jV _ r21.1 _ e25) rfl ⟨sr,trivial⟩ Tryz.call23 rfl (nx 2 rfl ?_)
    refine fD [52,53] h1 rfl (λ c26 h1=>?_) λ c26 h1=>?_
    ·refine nx 1 rfl (bd h1 λ r27 e28 h1=>?_)
     refine oK (fq _ r21.1 _ e28) rfl ⟨sr,trivial⟩ Tryz.call24 rfl (nx 1 rfl ?_)
     refine oS rfl rfl (nx 3 rfl ?_)
     refine fD [57,58,59,60] h1 rfl (λ c29 h1=>?_) λ c29 h1=>?_
     ·refine bd h1 λ r30 e31 h1=>oK (bZ _  _ e31) rfl trivial Tryz.call11 rfl (nx 3 rfl ?_)
      exact eX _ (oi h1).symm (gE rfl rfl)
     exact nx 4 rfl (eX _ (oi h1).symm (gE rfl rfl))
    exact nx 11 rfl (eX _ (oi h1).symm (gE rfl rfl))
   refine nx 11 rfl (bd h1 λ r32 e33 h1=>?_)
   refine oK (bZ _  _ e33) rfl trivial Tryz.call11 rfl (nx 3 rfl ?_)
   exact eX _ (oi h1).symm (gE rfl rfl)
  refine nx 3 rfl (bd h1 λ r8 e9 h1=>?_)
  refine oK (jV _ p_0 _ e9) rfl ⟨sr,trivial⟩ Tryz.call23 rfl (nx 2 rfl ?_)
  refine fD [21] h1 rfl (λ c10 h1=>?_) λ c10 h1=>?_
  ·refine nx 4 rfl (bd h1 λ r11 e12 h1=>?_)
   refine oK (fq _ p_0 _ e12) rfl ⟨sr,trivial⟩ Tryz.call24 rfl (nx 5 rfl ?_)
   refine bd h1 λ r13 e14 h1=>oK (iD _ r11 _ e14) rfl ⟨sr,trivial⟩ Tryz.call12 rfl (nx 7 rfl ?_)
   refine bd h1 λ o45 h2 h1=>kN o45 (λ v46=>⟨[(1,.p (eS s_1)),(41,.p (eB v46))],[]⟩) ?_ ?_
   ·refine nx 1 rfl (fB [41] h1 rfl (λ c20 h1=>?_) λ c20 h1=>?_)
    ·exact nx 6 rfl (mQ (hR0 _ (oi h1).symm) rfl (sr))
    exact nx 2 rfl (eX _ (oi h1).symm (gE rfl rfl))
   refine nx 2 rfl (oLs rfl ?_)
   refine nx 2 rfl (fD [31,32] h2 rfl (λ c15 h2=>?_) λ c15 h2=>?_)
   ·refine nx 3 rfl (fN [34,35] h2 rfl (λ c16 h2=>?_) λ c16 h2=>?_)
    ·refine nx 2 rfl (bd h2 λ r17 e18 h2=>?_)
     refine oK (iy _ p_0 r13.1 _ e18) rfl ⟨sr,sr,trivial⟩ Tryz.call14 rfl (nx 4 rfl ?_)
     exact eX _ (oi h2).symm (gE rfl rfl)
    exact nx 7 rfl (eX _ (oi h2).symm (gE rfl rfl))
   exact nx 10 rfl (eX _ (oi h2).symm (gE rfl rfl))
  exact nx 2 rfl (eX _ (oi h1).symm (gE rfl rfl))
 refine nx 2 rfl (bd h1 λ r1 e2 h1=>?_)
 refine oK (lD _ p_0 _ e2) rfl ⟨sr,trivial⟩ Tryz.call16 rfl (nx 2 rfl ?_)
 refine fB [12,13] h1 rfl (λ c3 h1=>?_) λ c3 h1=>?_
 ·exact nx 5 rfl (eX _ (oi h1).symm (gE rfl rfl))
 refine nx 1 rfl (oLs rfl ?_)
 exact nx 3 rfl (eX _ (oi h1).symm (gE rfl rfl))
end Go.Ab.R06
end
section
namespace Go.Ab.R06
open Go.Ab Go.Ab.RB Go.Lib
theorem wy {v:Int}(h0:0≤v):itoa v≠[]∧(itoa v).all eh=true:=by
 obtain ⟨u,rfl⟩:∃ u:Nat,v=u:=⟨v.toNat,by omega⟩
 have e:itoa (u:Int)=decDigits u:=by unfold itoa; rw [if_neg (by omega)]; simp
 obtain ⟨_,a2,a3,_,_⟩:=sd (u+1) u (by omega)
 rw [e]; exact ⟨a3,a2⟩
theorem xE:∀ (t y:Bytes),t.all eh=true→(∀ z∈y.head?,eh z=false)→dN (t++y)=t.length
 | [],y,_,hy=>by
  cases y with
  | nil=>rfl
  | cons b r=>have:=hy b rfl; simp [dN,this]
 | b::t,y,h,hy=>by
  rw [List.all_cons,Bool.and_eq_true] at h
  rw [List.cons_append,dN,if_pos h.1,xE t y h.2 hy]; rfl
theorem ru:∀ (t y:Bytes),(∀ z∈t,kF z=false)→(∀ z∈y.head?,kF z=true)→ff (t++y)=t.length
 | [],y,_,hy=>by
  cases y with
  | nil=>rfl
  | cons b r=>have:=hy b rfl; simp [ff,this]
 | b::t,y,h,hy=>by
  rw [List.cons_append,ff,if_neg (by rw [h b List.mem_cons_self]; decide),ru t y (λ z hz=>h z (List.mem_cons_of_mem _ hz)) hy]; rfl
theorem zI {z:UInt8}(h:idB z=true):kF z=false:=by
 simp only [idB,kM,eh,kF,Bool.or_eq_true,Bool.and_eq_true,Bool.or_eq_false_iff,decide_eq_true_eq,decide_eq_false_iff_not] at *; omega
theorem vq (t y:Bytes)(b:UInt8):(t++b::y).getD t.length 0=b:=by simp [List.getD_eq_getElem?_getD]
theorem yr {first:Bool}{x:aa}(h:kw x)(y:Bytes)(hy:∀ z∈y.head?,kF z=true):jA first (stepT first x++y)=.inr (x,(stepT first x).length):=by
 obtain ⟨ix,num,nm⟩:=x
 have hix:=h.ix
 have hnm:=h.nm
 have hnum:=h.num
 simp only at hix hnm hnum
 cases ix with
 | true =>
  obtain rfl:=hix rfl
  obtain ⟨d1,d2⟩:=wy hnum.1
  have e:stepT first ⟨true,num,[]⟩=91::(itoa num++[93]):=by unfold stepT; rw [if_pos rfl]; rfl
  rw [e]
  have e1:(91::(itoa num++[93])++y:Bytes)=91::(itoa num++93::y):=by simp
  rw [e1]
  have hdn:dN (itoa num++93::y)=(itoa num).length:=xE _ _ d2 (λ z hz=>by cases hz; decide)
  have hh:¬ ((itoa num++93::y).getD 0 0).toNat=34:=by
   cases hi:itoa num with
   | nil=>exact absurd hi d1
   | cons b r =>
    rw [hi,List.all_cons,Bool.and_eq_true] at d2
    have:=d2.1
    simp only [eh,Bool.and_eq_true,decide_eq_true_eq] at this
    show ¬ b.toNat=34
    omega
  show (if (91:UInt8).toNat=91 then nH (91::(itoa num++93::y)) else _)=_
  rw [if_pos (by decide)]
  unfold nH
  rw [show (91::(itoa num++93::y):Bytes).drop 1=itoa num++93::y from rfl,if_neg hh,hdn,List.take_left,q6 num hnum.1 hnum.2,if_pos rfl]
  unfold kB
  rw [if_neg]
  ·refine congrArg Sum.inr (Prod.ext rfl ?_)
   simp only [List.length_cons,List.length_append,List.length_nil]; omega
  ·rintro (q | q)
   ·simp only [List.length_cons,List.length_append] at q; omega
   ·refine q ?_
    have:(91::(itoa num++93::y):Bytes).getD (1+(itoa num).length) 0=93:=by
     have:=vq (91::itoa num) y 93
     simpa [Nat.add_comm] using this
    rw [this]; rfl
 | false =>
  obtain ⟨rfl,n2,n3⟩:=hnm rfl
  cases hi:eN nm with
  | false =>
   have e:stepT first ⟨false,0,nm⟩=91::(eg nm++[93]):=by unfold stepT; rw [if_neg (show ¬ (false=true) by decide),if_pos hi]; rfl
   rw [e]
   have e1:(91::(eg nm++[93])++y:Bytes)=91::(eg nm++93::y):=by simp
   rw [e1]
   have hu:=uI nm (93::y) n3 n2
   show (if (91:UInt8).toNat=91 then nH (91::(eg nm++93::y)) else _)=_
   rw [if_pos (by decide)]
   unfold nH
   rw [show (91::(eg nm++93::y):Bytes).drop 1=eg nm++93::y from rfl,if_pos (show ((eg nm++93::y).getD 0 0).toNat=34 from rfl),hu,if_pos rfl]
   simp only [Int.toNat_natCast]
   unfold kB
   rw [if_neg]
   ·refine congrArg Sum.inr (Prod.ext rfl ?_)
    simp only [List.length_cons,List.length_append,List.length_nil]; omega
   ·rintro (q | q)
    ·simp only [List.length_cons,List.length_append] at q; omega
    ·refine q ?_
     have:(91::(eg nm++93::y):Bytes).getD (1+(eg nm).length) 0=93:=by
      have:=vq (91::eg nm) y 93
      simpa [Nat.add_comm] using this
     rw [this]; rfl
  | true =>
   obtain ⟨f1,f2,f3,f4,f5⟩:=lx hi
   have hw:ff (nm++y)=nm.length:=ru nm y (λ z hz=>zI (f4 z hz)) hy
   have h0:¬ (nm.getD 0 0).toNat=91:=by
    simp only [kM,Bool.or_eq_true,Bool.and_eq_true,decide_eq_true_eq] at f5; omega
   cases first with
   | true =>
    have e:stepT true ⟨false,0,nm⟩=nm:=by unfold stepT; rw [if_neg (show ¬ (false=true) by decide),if_neg (by rw [hi]; decide),if_pos rfl]
    rw [e]
    have hg:(nm++y).getD 0 0=nm.getD 0 0:=by
     cases nm with
     | nil=>exact absurd rfl f1
     | cons b r=>rfl
    unfold jA
    rw [hg,if_neg h0,if_pos rfl]
    unfold kK
    rw [List.drop_zero,hw,List.take_left,if_pos hi,Nat.zero_add]
   | false =>
    have e:stepT false ⟨false,0,nm⟩=46::nm:=by unfold stepT; rw [if_neg (show ¬ (false=true) by decide),if_neg (by rw [hi]; decide),if_neg (by decide)]; rfl
    rw [e]
    show (if (46:UInt8).toNat=91 then _ else if false=true then _ else if (46:UInt8).toNat=46 then kK 1 (46::(nm++y)) else _)=_
    rw [if_neg (by decide),if_neg (by decide),if_pos (by decide)]
    unfold kK
    rw [show (46::(nm++y):Bytes).drop 1=nm++y from rfl,hw,List.take_left,if_pos hi]
    refine congrArg Sum.inr (Prod.ext rfl ?_)
    simp only [List.length_cons]; omega
theorem xu (b:Bool){x:aa}(_h:kw x):stepT b x≠[]:=by
 unfold stepT
 split
 ·simp
 ·split
  ·simp
  ·rename_i hi
   have hi:eN x.fName=true:=by simpa using hi
   split
   ·exact (lx hi).1
   ·simp
theorem uP (p:List aa)(hp:∀ x∈p,kw x):∀ z∈(fu false p).head?,kF z=true:=by
 cases p with
 | nil=>intro z hz; cases hz
 | cons x r =>
  intro z hz
  rw [fu] at hz
  unfold stepT at hz
  split at hz
  ·cases hz; rfl
  ·split at hz
   ·cases hz; rfl
   ·rw [if_neg (by decide)] at hz; cases hz; rfl
theorem tJ:∀ (p acc:List aa) (f:Nat),(∀ x∈p,kw x)→acc.length+p.length≤32→(fu (decide (acc.length=0)) p).length < f→prs f acc (fu (decide (acc.length=0)) p)=.inr (acc++p)
 | p,acc,0,_,_,h=>absurd h (Nat.not_lt_zero _)
 | [],acc,f+1,_,_,_=>by rw [prs,fu,if_pos rfl,List.append_nil]
 | x::r,acc,f+1,hp,hl,hf=>by
  have hx:=hp x List.mem_cons_self
  have hr:∀ y∈r,kw y:=λ y hy=>hp y (List.mem_cons_of_mem _ hy)
  have hne:=xu (decide (acc.length=0)) hx
  rw [fu] at hf ⊢
  simp only [List.length_cons] at hl
  have hpos:=List.length_pos_iff.2 hne
  rw [prs,if_neg (λ q=>hne (List.append_eq_nil_iff.1 q).1),if_neg (by omega),yr hx _ (uP r hr)]
  simp only
  rw [List.drop_left]
  have ih:=tJ r (acc++[x]) f hr (by simp only [List.length_append,List.length_cons,List.length_nil]; omega)
  have hd:decide ((acc++[x]).length=0)=false:=decide_eq_false (by simp)
  rw [hd] at ih
  rw [ih (by rw [List.length_append] at hf; omega),List.append_assoc]; rfl
theorem sR {p:List aa}(h:kt p=0)(hl:(fu true p).length≤65536):gi (fu true p)=(p,0):=by
 obtain ⟨h1,h2⟩:=nc.1 h
 unfold gi
 rw [if_neg (by omega)]
 have:=tJ p [] ((fu true p).length+1) h2 (by simpa using h1) (by simp)
 rw [show decide (([]:List aa).length=0)=true from rfl] at this
 rw [this]
 simp only [List.nil_append,if_true]
theorem rY {s:Bytes}(h:(gi s).2=0)(hz:∀ (f:Nat) (acc:List aa) (l:Bytes),l.length < f→prs f acc l≠.inl 0):fu true (gi s).1=s:=by
 unfold gi at h ⊢
 split at h
 ·cases h
 ·rename_i h1
  rw [if_neg h1]
  split at h
  ·rename_i e he
   simp only at h
   rw [h] at he
   exact absurd he (hz _ _ _ (Nat.lt_succ_self _))
  ·rename_i p hp
   split at h
   ·rename_i q; rw [if_pos q]; exact q
   ·cases h
theorem z8 {first:Bool}{l:Bytes}{e:Int}(h:jA first l=.inl e):e≠0:=by
 have fin:∀ (x:aa) (n:Nat),kB l x n=.inl e→e≠0:=λ x n h=>by
  unfold kB at h
  split at h
  ·cases h; decide
  ·cases h
 have nam:∀ k,kK k l=.inl e→e≠0:=λ k h=>by
  unfold kK at h
  split at h
  ·cases h
  ·cases h; decide
 unfold jA at h
 split at h
 ·unfold nH at h
  split at h
  ·split at h
   ·exact fin _ _ h
   ·rename_i q; cases h; exact q
  ·split at h
   ·exact fin _ _ h
   ·rename_i q; cases h; exact q
 ·split at h
  ·exact nam 0 h
  ·split at h
   ·exact nam 1 h
   ·cases h; decide
theorem xU:∀ (f:Nat) (acc:List aa) (l:Bytes),l.length < f→prs f acc l≠.inl 0
 | 0,_,_,h=>absurd h (Nat.not_lt_zero _)
 | f+1,acc,l,h=>by
  rw [prs]
  split
  ·intro q; cases q
  ·rename_i hne
   split
   ·intro q; cases q
   ·split
    ·rename_i e he
     intro q; cases q
     exact z8 he rfl
    ·rename_i x n he
     have:=nW hne he
     exact xU f _ _ (by rw [List.length_drop]; omega)
theorem yu (p:List aa)(s:Bytes)(hl:p.length≤1000000000000000)(hp:∀ x∈p,x.fName.length≤1000000000000000):Ev2 (λ n _=>gP n p s) (·=true):=by
 simp only [gP]
 refine bD (λ t=>t=false→∀ x∈p,x.fName.length < 20000) ?_ (λ t ht=>?_)
 ·refine bD _ (sJ p hl hp) (λ b hb=>ak (λ h=>ac (λ q=>by cases q)) (λ h=>ac (λ _=>hb (by simpa using h))))
 ·refine ak (λ h=>al _ eR (ac rfl)) (λ h=>?_)
  have hs:=ht (by simpa using h)
  have hn:∀ x∈p,x.fName.length≤1000000:=λ x hx=>by have:=hs x hx; omega
  refine cP () ?_ ?_
  ·refine al _ (qB p hn) (ak (λ h0=>?_) (λ _=>ac rfl))
   obtain ⟨h1,h2⟩:=nc.1 h0
   refine al _ (rR p (by omega) h2) (al _ (qv _) (al false ?_ (ax (by decide) (ac rfl))))
   refine ak (λ h3=>?_) (λ _=>ac rfl)
   rw [sR h0 (by omega)]
   exact aw rfl (al _ (nP p hl) (ac rfl))
  ·refine al _ (qv s) (al true ?_ (ac rfl))
   refine ak (λ h0=>?_) (λ _=>al _ eR (ac rfl))
   obtain ⟨k1,k2⟩:=oM s
   refine al _ (qB _ (λ x hx=>by have:=(k2 x hx).len; omega)) (aw (nc.2 ⟨k1,k2⟩) (al _ (rR _ (by omega) k2) ?_))
   exact aw (rY h0 xU) (al _ eR (ac rfl))
end Go.Ab.R06
end
