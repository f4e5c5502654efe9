/- Texts of the proof, one behind the other. No statement is proved here. -/
import Derived.Lib.IndexAny
import Derived.Test.YthnafgjbhlpfgaaGreatDoorCards
import Derived.Test.YthnafgjbhlpfgaaGreatDoorTie
import Derived.WalkKit
import Derived.SizedLaws
import Derived.ProofKit
import Derived.OpenShut
import Derived.ShutString
import Derived.LaidMore
import Derived.Stop.Joined
import Derived.Deep.DeepHandedRow
import Derived.Deep.DeepWitnessRowRef
import Derived.Test.YthnafgjbhlpfgaaGreatDoorZ08a
import Derived.Test.YthnafgjbhlpfgaaGreatDoorZ08b
import Derived.Test.YthnafgjbhlpfgaaGreatDoorZ08c
import Derived.Test.YthnafgjbhlpfgaaGreatDoorZ08d
import Derived.Test.YthnafgjbhlpfgaaGreatDoorZ08e
set_option maxHeartbeats 4000000
section
namespace Go.Ab.R06
open Go.Proofs Go.Ab Go.Ab.RB
attribute [local irreducible] awp eQ aU au bH AV.sub M cC
def fL (n:Nat)(s_0:Bytes):Option Bool :=
 if 20000 < (s_0.length:Int) then
  (bK n).bind λ r2 =>
  some r2
 else
  (d9 n s_0).bind λ r4 =>
  (iO n s_0).bind λ r6 =>
  (
    (et n r4.1 r6.1).bind λ r8 =>
    if r8=true then
     if r4.2=r6.2 then
      (bK n).bind λ r12 =>
      some r12
     else
      some false
    else
     some false
   : Option Bool).bind λ t14 =>
  some t14
theorem l7 (n:Nat)(s_0:Bytes)(r:Bool)(h0:fL n s_0=some r):au Tryz.prog 3 [eS s_0] (·=.p (eB r)):=by
 unfold fL at h0
 refine aH good Tryz.func3 rfl rfl rfl λ w0=>mP (λ v:Bool=>.p (eB v)) ?_
 refine nx 8 rfl (oLs rfl ?_)
 refine nx 2 rfl (fD [9] h0 rfl (λ c1 h0=>?_) λ c1 h0=>?_)
 ·refine nx 3 rfl (bd h0 λ r2 e3 h0=>?_)
  refine oK (bZ _  _ e3) rfl trivial Tryz.call11 rfl (nx 3 rfl ?_)
  exact mQ (oi h0) rfl (sr)
 refine nx 5 rfl (bd h0 λ r4 e5 h0=>?_)
 refine oK (iD _ s_0 _ e5) rfl ⟨sr,trivial⟩ Tryz.call12 rfl (nx 9 rfl ?_)
 refine bd h0 λ r6 e7 h0=>oK (pP _ s_0 _ e7) rfl ⟨sr,trivial⟩ Tryz.call13 rfl (nx 7 rfl ?_)
 refine bd h0 λ o16 h1 h0=>kN o16 (λ v17=>⟨[(2,.p (eB v17))],[]⟩) ?_ ?_
 ·exact nx 2 rfl (mQ (oi h0) rfl (sr))
 refine nx 3 rfl (bd h1 λ r8 e9 h1=>?_)
 refine oK (iy _ r4.1 r6.1 _ e9) rfl ⟨sr,sr,trivial⟩ Tryz.call14 rfl (nx 1 rfl ?_)
 refine fB [23,24] h1 rfl (λ c10 h1=>?_) λ c10 h1=>?_
 ·refine nx 5 rfl (fD [27,28,29] h1 rfl (λ c11 h1=>?_) λ c11 h1=>?_)
  ·refine bd h1 λ r12 e13 h1=>oK (bZ _  _ e13) rfl trivial Tryz.call11 rfl (nx 3 rfl ?_)
   exact eX _ (oi h1).symm (gE rfl rfl)
  exact nx 4 rfl (eX _ (oi h1).symm (gE rfl rfl))
 exact nx 9 rfl (eX _ (oi h1).symm (gE rfl rfl))
end Go.Ab.R06
end
section
namespace Go.Ab.R06
open Go.Ab Go.Ab.RB Go.Lib
def kF (b:UInt8):Bool:=decide (b.toNat=46)||decide (b.toNat=91)
def ff:Bytes→Nat
 | []=>0
 | b::r=>if kF b=true then 0 else ff r+1
theorem mY:∀ l:Bytes,ff l≤l.length
 | []=>Nat.le_refl _
 | b::r=>by
  unfold ff
  have:=mY r
  split
  ·omega
  ·simp only [List.length_cons]; omega
theorem yt (b:UInt8):([46,91]:Bytes).contains b=kF b:=by
 refine eqB ?_
 have h1:b.toNat=46↔b=46:=mn (by decide)
 have h2:b.toNat=91↔b=91:=mn (by decide)
 unfold kF
 rw [Bool.or_eq_true,decide_eq_true_eq,decide_eq_true_eq,h1,h2]
 simp
theorem pI:∀ l:Bytes,(if indexAny l [46,91] < 0 then (l.length:Int) else indexAny l [46,91])=(ff l:Int)
 | []=>rfl
 | b::r=>by
  have ih:=pI r
  have hge:=indexAny_ge [46,91] r
  unfold indexAny ff
  rw [yt]
  cases hs:kF b with
  | true=>simp
  | false =>
   simp only [Bool.false_eq_true,if_false,List.length_cons]
   by_cases h:indexAny r [46,91]=-1
   ·rw [h] at ih
    simp only [h,beq_self_eq_true,if_true]
    rw [if_pos (by decide)] at ih ⊢
    omega
   ·have hb:(indexAny r [46,91] == -1)=false:=by simp [h]
    rw [hb]
    rw [if_neg (by omega)] at ih
    simp only [Bool.false_eq_true,if_false]
    rw [if_neg (by omega)]
    omega
def dN:Bytes→Nat
 | []=>0
 | b::r=>if eh b=true then dN r+1 else 0
theorem vm:∀ l:Bytes,dN l≤l.length
 | []=>Nat.le_refl _
 | b::r=>by
  unfold dN
  have:=vm r
  split
  ·simp only [List.length_cons]; omega
  ·omega
theorem tR:∀ l:Bytes,(l.take (dN l)).all eh=true
 | []=>rfl
 | b::r=>by
  unfold dN
  have:=tR r
  split
  ·rename_i h; rw [List.take_succ_cons,List.all_cons,h,this]; rfl
  ·rfl
theorem xn {l:Bytes}(h:l.all eh=true):nI l=hZ l:=by
 have hneg:kJ l=false:=by
  cases l with
  | nil=>rfl
  | cons b r =>
   rw [List.all_cons,Bool.and_eq_true] at h
   have h1:=h.1
   simp only [eh,Bool.and_eq_true,decide_eq_true_eq] at h1
   have:¬ b=45:=λ e=>by rw [e] at h1; exact absurd h1.1 (by decide)
   simp [kJ,this]
 have hc:mc l=lh l:=by unfold mc digits; rw [hneg]; simp
 cases hn:lh l with
 | false=>unfold nI hZ; rw [hc,hn,if_neg (by decide),if_neg (by decide)]
 | true =>
  have hp:∀ v:Int,hZ l=(v,0)→0≤v:=by
   intro v hv
   unfold hZ jU digits at hv
   rw [hc,hn,hneg,if_pos rfl] at hv
   simp only [Bool.false_eq_true,if_false] at hv
   split at hv
   ·cases hv; omega
   ·cases hv
  by_cases h0:(nI l).2=0
  ·have e:nI l=((nI l).1,0):=by rw [← h0]
   obtain ⟨e1,e2,e3⟩:=q5 e
   have:=q6 _ e2 e3
   rw [e1] at this
   rw [this]; exact e
  ·by_cases h1:(hZ l).2=0
   ·have e:hZ l=((hZ l).1,0):=by rw [← h1]
    obtain ⟨e1,e3⟩:=wk _ _ e (hp _ e)
    have:=vH (hp _ e) e3
    rw [e1] at this
    rw [this]; exact e.symm
   ·have a1:nI l=(0,5):=by
     unfold nI at h0 ⊢
     rw [hn,if_pos rfl] at h0 ⊢
     split at h0
     ·exact absurd rfl h0
     ·rename_i q; rw [if_neg q]
    have a2:hZ l=(0,5):=by
     unfold hZ at h1 ⊢
     rw [hc,hn,if_pos rfl] at h1 ⊢
     split at h1
     ·exact absurd rfl h1
     ·rename_i q; rw [if_neg q]
    rw [a1,a2]
theorem AP {l:Bytes}(h:l.all eh=true){v:Int}(hv:hZ l=(v,0)):0≤v∧v≤ga:=by
 rw [← xn h] at hv
 exact (q5 hv).2
theorem rq:∀ l:Bytes,(∀ z∈l,z.toNat < 128)→validD l=true
 | [],_=>rfl
 | b::r,h=>by rw [validD_cons b r (h b List.mem_cons_self)]; exact rq r (λ z hz=>h z (List.mem_cons_of_mem _ hz))
theorem lx {s:Bytes}(h:eN s=true):s≠[]∧s.length≤64∧validD s=true∧(∀ z∈s,idB z=true)∧kM (s.getD 0 0)=true:=by
 cases s with
 | nil=>cases h
 | cons b r =>
  simp only [eN,Bool.and_eq_true,decide_eq_true_eq,List.all_eq_true] at h
  obtain ⟨⟨h1,h2⟩,h3⟩:=h
  have hall:∀ z∈b::r,idB z=true:=λ z hz=>by
   rcases List.mem_cons.1 hz with rfl | hz
   ·unfold idB; rw [h2]; rfl
   ·exact h3 z hz
  refine ⟨by simp,h1,rq _ (λ z hz=>?_),hall,h2⟩
  have:=hall z hz
  simp only [idB,kM,eh,Bool.or_eq_true,Bool.and_eq_true,decide_eq_true_eq] at this
  omega
def kB (l:Bytes)(x:aa)(n:Nat):Int⊕(aa×Nat):=if n=l.length∨(l.getD n 0).toNat≠93 then .inl 2 else .inr (x,n+1)
def nH (l:Bytes):Int⊕(aa×Nat):=if ((l.drop 1).getD 0 0).toNat=34 then (if (gq (l.drop 1)).2.2=0 then kB l (aa.mk false 0 (gq (l.drop 1)).1) (1+(gq (l.drop 1)).2.1.toNat) else .inl (gq (l.drop 1)).2.2)
 else if (hZ ((l.drop 1).take (dN (l.drop 1)))).2=0 then kB l (aa.mk true (hZ ((l.drop 1).take (dN (l.drop 1)))).1 []) (1+dN (l.drop 1)) else .inl (hZ ((l.drop 1).take (dN (l.drop 1)))).2
def kK (k:Nat)(l:Bytes):Int⊕(aa×Nat):=if eN ((l.drop k).take (ff (l.drop k)))=true then .inr (aa.mk false 0 ((l.drop k).take (ff (l.drop k))),k+ff (l.drop k)) else .inl 2
def jA (first:Bool)(l:Bytes):Int⊕(aa×Nat):=if (l.getD 0 0).toNat=91 then nH l else if first=true then kK 0 l else if (l.getD 0 0).toNat=46 then kK 1 l else .inl 2
theorem wS {l:Bytes}{x y:aa}{n m:Nat}(h:kB l x n=.inr (y,m))(hn:n≤l.length):y=x∧m=n+1∧m≤l.length:=by
 unfold kB at h
 split at h
 ·cases h
 ·rename_i q; cases h; exact ⟨rfl,rfl,by omega⟩
theorem nW {first:Bool}{l:Bytes}{x:aa}{n:Nat}(hl:l≠[])(h:jA first l=.inr (x,n)):1≤n∧n≤l.length∧kw x:=by
 have hp:=List.length_pos_iff.2 hl
 have hd:(l.drop 1).length=l.length - 1:=by simp
 have nam:∀ k,k≤1→kK k l=.inr (x,n)→1≤n∧n≤l.length∧kw x:=by
  intro k hk h
  unfold kK at h
  split at h
  ·rename_i hi
   cases h
   obtain ⟨f1,f2,f3,_⟩:=lx hi
   have hw:=mY (l.drop k)
   have hk2:(l.drop k).length=l.length - k:=by simp
   refine ⟨?_,by omega,⟨⟨Int.le_refl 0,(show (0:Int)≤ga by decide)⟩,λ q=>(by cases q),λ _=>⟨rfl,Nat.le_trans f2 (by decide),f3⟩⟩⟩
   have:=List.length_pos_iff.2 f1
   rw [List.length_take] at this; omega
  ·cases h
 unfold jA at h
 split at h
 ·unfold nH at h
  split at h
  ·split at h
   ·rename_i h0
    have hu:=y6 (s:=l.drop 1) (x:=(gq (l.drop 1)).1) (n:=(gq (l.drop 1)).2.1) (by rw [← h0])
    obtain ⟨rfl,rfl,h3⟩:=wS h (by omega)
    exact ⟨by omega,h3,⟨⟨Int.le_refl 0,(show (0:Int)≤ga by decide)⟩,λ q=>(by cases q),λ _=>⟨rfl,hu.1,hu.2.1⟩⟩⟩
   ·cases h
  ·split at h
   ·rename_i h0
    have hdn:=vm (l.drop 1)
    have hv:=AP (tR (l.drop 1)) (v:=(hZ ((l.drop 1).take (dN (l.drop 1)))).1) (by rw [← h0])
    obtain ⟨rfl,rfl,h3⟩:=wS h (by omega)
    exact ⟨by omega,h3,⟨hv,λ _=>rfl,λ q=>(by cases q)⟩⟩
   ·cases h
 ·split at h
  ·exact nam 0 (by omega) h
  ·split at h
   ·exact nam 1 (by omega) h
   ·cases h
def StR (q:Int⊕(aa×Nat))(i:Nat)(r:aa×Int×Int):Prop:=match q with
 | .inl e=>r.2.2=e∧e≠0
 | .inr (x,n)=>r=(x,((i+n:Nat):Int),0)
theorem Az (s:Bytes)(hs:s.length≤1000000000):∀ (k i:Nat),i+k=s.length→Ev2 (λ _ m=>bB s m (i:Int)) (·=((i+dN (s.drop i):Nat):Int)):=by
 intro k
 induction k with
 | zero =>
  intro i hi
  refine aA ?_
  simp only [bB]
  refine al false (ax (by omega) (ac rfl)) (ax (by simp) (ac ?_))
  rw [List.drop_eq_nil_of_le (by omega)]; rfl
 | succ k ih =>
  intro i hi
  refine aA ?_
  simp only [bB]
  rw [drop_at s (i:=i) (by omega),dN]
  have hb:byt s (i:Int)=((s.getD i 0).toNat:Int):=b9 s i
  refine al (eh (s.getD i 0)) (aw (by omega) (ai (by omega) ?_)) (ak (λ h=>?_) (λ h=>ac (by rw [if_neg h]; omega)))
  ·rw [hb]
   unfold eh
   exact ak (λ h=>ai (by omega) (ac (by rw [show decide (48≤(s.getD i 0).toNat)=true from decide_eq_true (by omega),Bool.true_and,decide_eq_decide]; omega))) (λ h=>ac (by rw [show decide (48≤(s.getD i 0).toNat)=false from decide_eq_false (by omega)]; rfl))
  ·rw [if_pos h]
   refine ai (aC (by omega) (by omega)) ?_
   have:=jK (P:=λ j=>Ev2 (λ _ m=>bB s m j) _) (ih (i+1) (by omega))
   rw [show i+(dN (s.drop (i+1))+1)=i+1+dN (s.drop (i+1)) by omega]
   exact this
theorem zO (t:Bytes):hasPrefix t [34]=decide (t≠[]∧(t.getD 0 0).toNat=34):=by
 cases t with
 | nil=>rfl
 | cons b r =>
  refine eqB ?_
  have:b.toNat=34↔b=34:=mn (by decide)
  simp only [hasPrefix,List.isPrefixOf,Bool.and_true,beq_iff_eq,decide_eq_true_eq]
  show 34=b↔_∧b.toNat=34
  rw [this]
  exact ⟨λ h=>⟨by simp,h.symm⟩,λ h=>h.2.symm⟩
theorem Ad (l:Bytes)(hl:l.length≤1000000000)(h0:0 < l.length):Ev2 (λ n _=>ei n l) (StR (nH l) 0):=by
 simp only [ei]
 have hd:(l.drop 1).length=l.length - 1:=by simp
 have hs:sub l 1 (l.length:Int)=l.drop 1:=by rw [iI]; rfl
 -- what is behind the bracket's content
 have fin:∀ (x:aa) (n:Nat),n≤l.length→Ev2 (λ _ _=>(
   if (n:Int)=(l.length:Int) then
    some true
   else
    ck ((0:Int)≤(n:Int)∧(n:Int) < (l.length:Int)) <|
    some (!decide (byt l (n:Int)=93))
   : Option Bool).bind λ t38 =>
  if t38=true then
   some (aa.mk x.fIndex x.fNum x.fName,(0:Int),(2:Int))
  else
   ck (inR ((n:Int)+1)) <|
   some (aa.mk x.fIndex x.fNum x.fName,(n:Int)+1,0)) (StR (kB l x n) 0):=by
  intro x n hn
  have hx:aa.mk x.fIndex x.fNum x.fName=x:=by cases x; rfl
  rw [hx]
  have hb:byt l (n:Int)=((l.getD n 0).toNat:Int):=b9 l n
  refine al (decide (n=l.length∨(l.getD n 0).toNat≠93)) ?_ ?_
  ·refine ak (λ h=>ac (by simp; omega)) (λ h=>ai (by omega) (ac ?_))
   rw [hb]
   refine eqB ?_
   simp only [Bool.not_eq_true',decide_eq_false_iff_not,decide_eq_true_eq]
   omega
  ·unfold kB
   refine ak (λ h=>ac ?_) (λ h=>ai (aC (by omega) (by omega)) (ac ?_))
   ·rw [if_pos (of_decide_eq_true h)]; exact ⟨rfl,by decide⟩
   ·rw [if_neg (λ q=>h (decide_eq_true q))]
    show _=(x,((0+(n+1):Nat):Int),(0:Int))
    rw [Nat.zero_add]; rfl
 have hp:strings_HasPrefix (l.drop 1) [34]=some (hasPrefix (l.drop 1) [34]):=rfl
 unfold nH
 by_cases hq:((l.drop 1).getD 0 0).toNat=34
 ·have hne:l.drop 1≠[]:=λ e=>by rw [e] at hq; exact absurd hq (by decide)
  have hpt:hasPrefix (l.drop 1) [34]=true:=by rw [zO]; exact decide_eq_true ⟨hne,hq⟩
  rw [if_pos hq]
  have hu:=vb (l.drop 1)
  by_cases he:(gq (l.drop 1)).2.2=0
  ·rw [if_pos he]
   refine cP (1+(gq (l.drop 1)).2.1,false,0,(gq (l.drop 1)).1) ?_ ?_
   ·refine ai (by omega) ?_
    rw [hs]
    refine al _ (aO hp rfl) (aw hpt (ai (by omega) (al _ (yj _ (by omega)) (aw he (ai (aC (by omega) (by omega)) (ac rfl))))))
   ·have:=fin (aa.mk false 0 (gq (l.drop 1)).1) (1+(gq (l.drop 1)).2.1.toNat) (by omega)
    rw [show ((1+(gq (l.drop 1)).2.1.toNat:Nat):Int)=1+(gq (l.drop 1)).2.1 by omega] at this
    exact this
  ·rw [if_neg he]
   refine dU (aa.mk false 0 [],0,(gq (l.drop 1)).2.2) ?_ ⟨rfl,he⟩
   refine ai (by omega) ?_
   rw [hs]
   exact al _ (aO hp rfl) (aw hpt (ai (by omega) (al _ (yj _ (by omega)) (ax he (ac rfl)))))
 ·have hpt:hasPrefix (l.drop 1) [34]=false:=by rw [zO]; exact decide_eq_false (λ h=>hq h.2)
  rw [if_neg hq]
  have hdn:=vm (l.drop 1)
  have hl1:=Az l hl (l.length - 1) 1 (by omega)
  have hsb:sub l 1 ((1+dN (l.drop 1):Nat):Int)=(l.drop 1).take (dN (l.drop 1)):=by
   have:=jp l 1 (dN (l.drop 1))
   rw [← this]; congr 1
  by_cases he:(hZ ((l.drop 1).take (dN (l.drop 1)))).2=0
  ·rw [if_pos he]
   refine cP (((1+dN (l.drop 1):Nat):Int),true,(hZ ((l.drop 1).take (dN (l.drop 1)))).1,([]:Bytes)) ?_ (fin (aa.mk true _ []) (1+dN (l.drop 1)) (by omega))
   refine ai (by omega) ?_
   rw [hs]
   refine al _ (aO hp rfl) (ax (by rw [hpt]; decide) (al _ (aT (f:=λ _ m=>bB l m 1) hl1) (ai (by omega) ?_)))
   rw [hsb]
   exact al _ (oT _ (by rw [List.length_take]; omega)) (aw he (ac rfl))
  ·rw [if_neg he]
   refine dU (aa.mk false 0 [],0,(hZ ((l.drop 1).take (dN (l.drop 1)))).2) ?_ ⟨rfl,he⟩
   refine ai (by omega) ?_
   rw [hs]
   refine al _ (aO hp rfl) (ax (by rw [hpt]; decide) (al _ (aT (f:=λ _ m=>bB l m 1) hl1) (ai (by omega) ?_)))
   rw [hsb]
   exact al _ (oT _ (by rw [List.length_take]; omega)) (ax he (ac rfl))
theorem yF (l:Bytes)(hl:l.length≤1000000000)(h0:0 < l.length)(first:Bool):Ev2 (λ n _=>gx n l first) (StR (jA first l) 0):=by
 simp only [gx]
 have hb:byt l 0=((l.getD 0 0).toNat:Int):=b9 l 0
 rw [hb]
 unfold jA
 -- a name,k bytes on
 have nam:∀ k:Nat,k≤1→Ev2 (λ n _=>ck ((0:Int)≤(k:Int)∧(k:Int)≤(l.length:Int)∧(l.length:Int)≤(l.length:Int)) <|
  (strings_IndexAny (sub l (k:Int) (l.length:Int)) ([46,91]:Bytes)).bind λ r10 =>
  (
   if r10 < 0 then
    ck (inR ((l.length:Int) - (k:Int))) <|
    some ((l.length:Int) - (k:Int))
   else
    some r10
   : Option Int).bind λ n14 =>
  ck (inR ((k:Int)+n14)) <|
  ck ((0:Int)≤(k:Int)∧(k:Int)≤(k:Int)+n14∧(k:Int)+n14≤(l.length:Int)) <|
  (co n (sub l (k:Int) ((k:Int)+n14))).bind λ r17 =>
  if (!r17)=true then
   some ((aa.mk false 0 ([]:Bytes)),(0:Int),(2:Int))
  else
   ck (inR ((k:Int)+n14)) <|
   some ((aa.mk false 0 (sub l (k:Int) ((k:Int)+n14))),(k:Int)+n14,0)) (StR (kK k l) 0):=by
  intro k hk
  have hs:sub l (k:Int) (l.length:Int)=l.drop k:=by rw [iI]; rfl
  have hkl:(l.drop k).length=l.length - k:=by simp
  have hx:strings_IndexAny (l.drop k) [46,91]=some (indexAny (l.drop k) [46,91]):=by
   unfold strings_IndexAny; exact bm ⟨rfl,by omega⟩
  have hw:=pI (l.drop k)
  have hle:=mY (l.drop k)
  refine ai (by omega) ?_
  rw [hs]
  refine al _ (aO hx rfl) (al (ff (l.drop k):Int) ?_ ?_)
  ·rw [← hw]
   exact ak (λ h=>ai (aC (by omega) (by omega)) (ac (by rw [if_pos h,hkl]; omega))) (λ h=>ac (by rw [if_neg h]))
  ·have hsb:sub l (k:Int) ((k:Int)+(ff (l.drop k):Int))=(l.drop k).take (ff (l.drop k)):=jp l k _
   refine ai (aC (by omega) (by omega)) (ai (by omega) ?_)
   rw [hsb]
   refine al _ (sZ _ (by rw [List.length_take]; omega)) ?_
   unfold kK
   refine ak (λ h=>ac ?_) (λ h=>ai (aC (by omega) (by omega)) (ac ?_))
   ·rw [if_neg (by simpa using h)]; exact ⟨rfl,by decide⟩
   ·rw [if_pos (by simpa using h)]
    show _=(_,((0+(k+ff (l.drop k)):Nat):Int),(0:Int))
    rw [Nat.zero_add,Int.natCast_add]
 refine ai (by omega) (ak (λ h=>?_) (λ h=>?_))
 ·rw [if_pos (show (l.getD 0 0).toNat=91 by omega)]
  exact bD _ (Ad l hl h0) (λ r hr=>ac hr)
 ·rw [if_neg (show ¬ (l.getD 0 0).toNat=91 by omega)]
  cases first with
  | true =>
   show Ev2 _ (StR (kK 0 l) 0)
   exact cP 0 (ax (by decide) (ac rfl)) (nam 0 (by omega))
  | false =>
   show Ev2 _ (StR (if (l.getD 0 0).toNat=46 then kK 1 l else .inl 2) 0)
   by_cases h46:(l.getD 0 0).toNat=46
   ·rw [if_pos h46]
    exact cP 1 (aw (by decide) (ai (by omega) (aw (by omega) (ac rfl)))) (nam 1 (by omega))
   ·rw [if_neg h46]
    exact dU (aa.mk false 0 [],0,2) (aw (by decide) (ai (by omega) (ax (by omega) (ac rfl)))) ⟨rfl,by decide⟩
def prs:Nat→List aa→Bytes→Int⊕List aa
 | 0,_,_=>.inl 1
 | f+1,acc,l=>if l=[] then .inr acc else if acc.length=32 then .inl 4 else match jA (decide (acc.length=0)) l with
  | .inl e=>.inl e
  | .inr (x,n)=>prs f (acc++[x]) (l.drop n)
def gi (s:Bytes):List aa×Int:=if 65536 < s.length then ([],3) else match prs (s.length+1) [] s with
 | .inl e=>([],e)
 | .inr p=>if fu true p=s then (p,0) else ([],2)
def ze (q:Int⊕List aa):(List aa)⊕((List aa)×Int):=match q with
 | .inl e=>.inr ([],e)
 | .inr p=>.inl p
theorem rH:∀ (f:Nat) (acc:List aa) (l:Bytes) (p:List aa),prs f acc l=.inr p→(∀ x∈acc,kw x)→acc.length≤32→(∀ x∈p,kw x)∧p.length≤32
 | 0,_,_,_,h,_,_=>by cases h
 | f+1,acc,l,p,h,ha,hl=>by
  rw [prs] at h
  split at h
  ·cases h; exact ⟨ha,hl⟩
  ·rename_i hne
   split at h
   ·cases h
   ·rename_i h32
    split at h
    ·cases h
    ·rename_i x n hs
     have:=nW hne hs
     refine rH f _ _ _ h (λ y hy=>?_) (by simp only [List.length_append,List.length_cons,List.length_nil]; omega)
     rcases List.mem_append.1 hy with hy | hy
     ·exact ha y hy
     ·rw [List.mem_singleton.1 hy]; exact this.2.2
theorem wT:∀ (f:Nat) (acc:List aa) (l:Bytes),l.length < f→l.length≤1000000000→acc.length≤32→Ev2 (λ n m=>cY n m acc l) (·=ze (prs f acc l))
 | 0,_,_,h,_,_=>absurd h (Nat.not_lt_zero _)
 | f+1,acc,l,hf,hl,ha=>by
  refine aA ?_
  simp only [cY]
  rw [prs]
  refine ak (λ h=>ac (by rw [if_pos h]; rfl)) (λ h=>?_)
  rw [if_neg h]
  refine ak (λ h2=>ac (by rw [if_pos (by omega)]; rfl)) (λ h2=>?_)
  rw [if_neg (by omega)]
  have hdec:decide ((acc.length:Int)=0)=decide (acc.length=0):=by rw [decide_eq_decide]; omega
  rw [hdec]
  refine bD _ (yF l hl (List.length_pos_iff.2 h) _) (λ r hr=>?_)
  cases hs:jA (decide (acc.length=0)) l with
  | inl e =>
   rw [hs] at hr
   exact ax (by rw [hr.1]; exact hr.2) (ac (by rw [hr.1]; rfl))
  | inr z =>
   obtain ⟨x,n⟩:=z
   rw [hs] at hr
   have hr:r=(x,((0+n:Nat):Int),0):=hr
   rw [Nat.zero_add] at hr
   obtain ⟨h1,h3,_⟩:=nW h hs
   rw [hr]
   refine aw rfl (ai (by simp only [List.length_cons,List.length_nil]; omega) (ai (by simp only; omega) ?_))
   have hsub:sub l (n:Int) (l.length:Int)=l.drop n:=by rw [iI]; rfl
   simp only
   rw [hsub]
   exact wT f _ _ (by rw [List.length_drop]; omega) (by rw [List.length_drop]; omega) (by simp only [List.length_append,List.length_cons,List.length_nil]; omega)
theorem qv (s:Bytes):Ev2 (λ n _=>d9 n s) (·=gi s):=by
 simp only [d9,gi]
 refine ak (λ h=>ac (by rw [if_pos (by omega)])) (λ h=>?_)
 rw [if_neg (by omega)]
 have l:=wT (s.length+1) [] s (by omega) (by omega) (by simp)
 cases hp:prs (s.length+1) [] s with
 | inl e=>rw [hp] at l; exact dU _ (aT l) rfl
 | inr p =>
  rw [hp] at l
  obtain ⟨k1,k2⟩:=rH _ _ _ _ hp (by simp) (by simp)
  refine cP p (aT l) (al _ (rR p (by omega) k1) ?_)
  exact ak (λ h=>ac (by simp only; rw [if_pos h])) (λ h=>ac (by simp only; rw [if_neg h]))
theorem zy (s:Bytes)(hs:s.length≤1000000000):∀ (k i:Nat),i+k=s.length→Ev2 (λ _ m=>bJ s m (i:Int)) (·=((i+dN (s.drop i):Nat):Int)):=by
 intro k
 induction k with
 | zero =>
  intro i hi
  refine aA ?_
  simp only [bJ]
  refine al false (ax (by omega) (ac rfl)) (ax (by simp) (ac ?_))
  rw [List.drop_eq_nil_of_le (by omega)]; rfl
 | succ k ih =>
  intro i hi
  refine aA ?_
  simp only [bJ]
  rw [drop_at s (i:=i) (by omega),dN]
  have hb:byt s (i:Int)=((s.getD i 0).toNat:Int):=b9 s i
  refine al (eh (s.getD i 0)) (aw (by omega) (ai (by omega) ?_)) (ak (λ h=>?_) (λ h=>ac (by rw [if_neg h]; omega)))
  ·rw [hb]
   unfold eh
   exact ak (λ h=>ai (by omega) (ac (by rw [show decide (48≤(s.getD i 0).toNat)=true from decide_eq_true (by omega),Bool.true_and,decide_eq_decide]; omega))) (λ h=>ac (by rw [show decide (48≤(s.getD i 0).toNat)=false from decide_eq_false (by omega)]; rfl))
  ·rw [if_pos h]
   refine ai (aC (by omega) (by omega)) ?_
   have:=jK (P:=λ j=>Ev2 (λ _ m=>bJ s m j) _) (ih (i+1) (by omega))
   rw [show i+(dN (s.drop (i+1))+1)=i+1+dN (s.drop (i+1)) by omega]
   exact this
theorem vE (s:Bytes)(hs:s.length≤1000000000)(i:Nat)(hi:i < s.length):Ev2 (λ n _=>fX n s (i:Int)) (StR (nH (s.drop i)) i):=by
 simp only [fX]
 obtain ⟨l,hl⟩:∃ l,l=s.drop i:=⟨_,rfl⟩
 rw [← hl]
 have hll:l.length=s.length - i:=by rw [hl,List.length_drop]
 have hd:(l.drop 1).length=l.length - 1:=by simp
 have hd1:s.drop (i+1)=l.drop 1:=by rw [hl,List.drop_drop]
 have hsb0:sub s ((i:Int)+1) (s.length:Int)=l.drop 1:=by
  rw [iI,← hd1]; congr 1
 have fin:∀ (x:aa) (n:Nat),n≤l.length→∀ z:Int,z=((i+n:Nat):Int)→Ev2 (λ _ _=>(
   if (s.length:Int)≤z then
    some true
   else
    ck ((0:Int)≤z∧z < (s.length:Int)) <|
    some (!decide (byt s z=93))
   : Option Bool).bind λ t40 =>
  if t40=true then
   some (aa.mk false 0 ([]:Bytes),(0:Int),(2:Int))
  else
   ck (inR (z+1)) <|
   some (aa.mk x.fIndex x.fNum x.fName,z+1,0)) (StR (kB l x n) i):=by
  intro x n hn z hz
  subst hz
  have hx:aa.mk x.fIndex x.fNum x.fName=x:=by cases x; rfl
  rw [hx]
  have hb:byt s ((i+n:Nat):Int)=((l.getD n 0).toNat:Int):=by rw [hl,getD_drop]; exact b9 s (i+n)
  refine al (decide (n=l.length∨(l.getD n 0).toNat≠93)) ?_ ?_
  ·refine ak (λ h=>ac (by simp; omega)) (λ h=>ai (by omega) (ac ?_))
   rw [hb]
   refine eqB ?_
   simp only [Bool.not_eq_true',decide_eq_false_iff_not,decide_eq_true_eq]
   omega
  ·unfold kB
   refine ak (λ h=>ac ?_) (λ h=>ai (aC (by omega) (by omega)) (ac ?_))
   ·rw [if_pos (of_decide_eq_true h)]; exact ⟨rfl,by decide⟩
   ·rw [if_neg (λ q=>h (decide_eq_true q))]
    show _=(x,((i+(n+1):Nat):Int),(0:Int))
    rw [← Nat.add_assoc]; rfl
 have hq1:Ev2 (λ _ _=>(if (i:Int)+1 < (s.length:Int) then ck ((0:Int)≤(i:Int)+1∧(i:Int)+1 < (s.length:Int)) <| some (decide (byt s ((i:Int)+1)=34)) else some false:Option Bool)) (·=decide (((l.drop 1).getD 0 0).toNat=34)):=by
  have e:(l.drop 1).getD 0 0=s.getD (i+1) 0:=by rw [← hd1,getD_drop]
  rw [e]
  have hb:byt s ((i:Int)+1)=((s.getD (i+1) 0).toNat:Int):=by
   have:=b9 s (i+1)
   rwa [Int.natCast_add,Int.natCast_one] at this
  refine ak (λ h=>ai (by omega) (ac ?_)) (λ h=>ac ?_)
  ·rw [hb,decide_eq_decide]; omega
  ·symm; rw [decide_eq_false_iff_not]
   intro q
   rw [List.getD_eq_getElem?_getD,List.getElem?_eq_none (by omega)] at q
   exact absurd q (by decide)
 refine ai (aC (by omega) (by omega)) ?_
 unfold nH
 by_cases hq:((l.drop 1).getD 0 0).toNat=34
 ·rw [if_pos hq]
  have hq2:decide (((l.drop 1).getD 0 0).toNat=34)=true:=decide_eq_true hq
  have hu:=vb (l.drop 1)
  by_cases he:(gq (l.drop 1)).2.2=0
  ·rw [if_pos he]
   refine cP (((i:Int)+1)+(gq (l.drop 1)).2.1,false,0,(gq (l.drop 1)).1) ?_ (fin (aa.mk false 0 (gq (l.drop 1)).1) (1+(gq (l.drop 1)).2.1.toNat) (by omega) _ (by simp only; omega))
   refine al _ hq1 (aw hq2 (ai (by omega) ?_))
   rw [hsb0]
   exact al _ (uZ _ (by omega)) (aw he (ai (aC (by omega) (by omega)) (ac rfl)))
  ·rw [if_neg he]
   refine dU (aa.mk false 0 [],0,(gq (l.drop 1)).2.2) ?_ ⟨rfl,he⟩
   refine al _ hq1 (aw hq2 (ai (by omega) ?_))
   rw [hsb0]
   exact al _ (uZ _ (by omega)) (ax he (ac rfl))
 ·rw [if_neg hq]
  have hq2:¬ decide (((l.drop 1).getD 0 0).toNat=34)=true:=λ h=>hq (of_decide_eq_true h)
  have hdn:=vm (l.drop 1)
  have hl1:=zy s hs (s.length - (i+1)) (i+1) (by omega)
  rw [hd1] at hl1
  have hl2:Ev2 (λ n _=>bJ s n ((i:Int)+1)) (·=((i+1+dN (l.drop 1):Nat):Int)):=aT (f:=λ _ m=>bJ s m ((i:Int)+1)) (jK (P:=λ j=>Ev2 (λ _ m=>bJ s m j) _) hl1)
  have hsb:sub s ((i:Int)+1) ((i+1+dN (l.drop 1):Nat):Int)=(l.drop 1).take (dN (l.drop 1)):=by
   have:=jp s (i+1) (dN (l.drop 1))
   rw [hd1] at this
   rw [← this]; congr 1
  have hdg:=tR (l.drop 1)
  have hnr:=xn hdg
  by_cases he:(hZ ((l.drop 1).take (dN (l.drop 1)))).2=0
  ·rw [if_pos he]
   refine cP (((i+1+dN (l.drop 1):Nat):Int),true,(hZ ((l.drop 1).take (dN (l.drop 1)))).1,([]:Bytes)) ?_ (fin (aa.mk true _ []) (1+dN (l.drop 1)) (by omega) _ (by simp only; omega))
   refine al _ hq1 (ax hq2 (al _ hl2 (ai (aC (by omega) (by omega)) (ai (by omega) ?_))))
   rw [hsb]
   have h:=vk _ (by rw [List.length_take]; omega) hdg
   rw [hnr] at h
   exact al _ h (aw he (ac rfl))
  ·rw [if_neg he]
   refine dU (aa.mk false 0 [],0,(hZ ((l.drop 1).take (dN (l.drop 1)))).2) ?_ ⟨rfl,he⟩
   refine al _ hq1 (ax hq2 (al _ hl2 (ai (aC (by omega) (by omega)) (ai (by omega) ?_))))
   rw [hsb]
   have h:=vk _ (by rw [List.length_take]; omega) hdg
   rw [hnr] at h
   exact al _ h (ax he (ac rfl))
theorem yA (s:Bytes)(hs:s.length≤1000000000):∀ (k i:Nat),i+k=s.length→Ev2 (λ _ m=>cg s m (i:Int)) (·=((i+ff (s.drop i):Nat):Int)):=by
 intro k
 induction k with
 | zero =>
  intro i hi
  refine aA ?_
  simp only [cg]
  refine al false (ax (by omega) (ac rfl)) (ax (by simp) (ac ?_))
  rw [List.drop_eq_nil_of_le (by omega)]; rfl
 | succ k ih =>
  intro i hi
  refine aA ?_
  simp only [cg]
  rw [drop_at s (i:=i) (by omega),ff]
  have hb:byt s (i:Int)=((s.getD i 0).toNat:Int):=b9 s i
  refine al (!kF (s.getD i 0)) (aw (by omega) (ai (by omega) ?_)) (ak (λ h=>?_) (λ h=>ac ?_))
  ·rw [hb]
   unfold kF
   refine ak (λ h=>ac ?_) (λ h=>ai (by omega) (ac ?_))
   ·rw [show decide ((s.getD i 0).toNat=46)=true from decide_eq_true (by omega)]; rfl
   ·rw [show decide ((s.getD i 0).toNat=46)=false from decide_eq_false (by omega),Bool.false_or]
    congr 1
    rw [decide_eq_decide]; omega
  ·rw [if_neg (by simpa using h)]
   refine ai (aC (by omega) (by omega)) ?_
   have:=jK (P:=λ j=>Ev2 (λ _ m=>cg s m j) _) (ih (i+1) (by omega))
   rw [show i+(ff (s.drop (i+1))+1)=i+1+ff (s.drop (i+1)) by omega]
   exact this
  ·rw [if_pos (by simpa using h)]; rfl
theorem vt (s:Bytes)(hs:s.length≤1000000000):∀ (f:Nat) (acc:List aa) (i:Nat),i≤s.length→s.length - i < f→acc.length≤32→Ev2 (λ n m=>ci n s m acc (i:Int)) (·=ze (prs f acc (s.drop i)))
 | 0,_,_,_,h,_=>absurd h (Nat.not_lt_zero _)
 | f+1,acc,i,hi,hf,ha=>by
  refine aA ?_
  simp only [ci]
  rw [prs]
  refine ak (λ h=>?_) (λ h=>ac (by rw [if_pos (List.drop_eq_nil_of_le (by omega))]; rfl))
  have hne:s.drop i≠[]:=λ e=>by have:=congrArg List.length e; simp at this; omega
  rw [if_neg hne]
  have hb:byt s (i:Int)=(((s.drop i).getD 0 0).toNat:Int):=by rw [getD_drop]; exact b9 s i
  by_cases h32:acc.length=32
  ·rw [if_pos h32]
   exact dU _ (aw (by omega) (ac rfl)) rfl
  rw [if_neg h32]
  -- behind a step
  have nxt:∀ (x:aa) (n:Nat),jA (decide (acc.length=0)) (s.drop i)=.inr (x,n)→∀ z:Int,z=((i+n:Nat):Int)→Ev2 (λ n m=>ci n s m (acc++[x]) z) (·=ze (prs f (acc++[x]) ((s.drop i).drop n))):=by
   intro x n hst z hz
   subst hz
   obtain ⟨h1,h2,_⟩:=nW hne hst
   rw [List.length_drop] at h2
   rw [List.drop_drop]
   exact vt s hs f _ (i+n) (by omega) (by omega) (by simp only [List.length_append,List.length_cons,List.length_nil]; omega)
  have hal:∀ x:aa,(acc.length+[x].length)*32≤140737488355328:=λ x=>by simp only [List.length_cons,List.length_nil]; omega
  by_cases h91:((s.drop i).getD 0 0).toNat=91
  ·have he:jA (decide (acc.length=0)) (s.drop i)=nH (s.drop i):=by unfold jA; rw [if_pos h91]
   rw [he]
   cases hbr:nH (s.drop i) with
   | inl e =>
    have hv:=vE s hs i (by omega)
    rw [hbr] at hv
    refine dU (.inr ([],e)) (ax (by omega) (ai (by omega) (aw (by omega) (bD _ hv (λ r hr=>?_))))) rfl
    exact ax (by rw [hr.1]; exact hr.2) (ac (by rw [hr.1]))
   | inr z =>
    obtain ⟨x,n⟩:=z
    have hv:=vE s hs i (by omega)
    rw [hbr] at hv
    refine cP (acc++[x],((i+n:Nat):Int)) (ax (by omega) (ai (by omega) (aw (by omega) (bD _ hv (λ r hr=>?_))))) (nxt x n (he.trans hbr) _ rfl)
    have hr:r=(x,((i+n:Nat):Int),0):=hr
    rw [hr]
    exact aw rfl (ai (hal x) (ac rfl))
  · -- a name,k bytes on
   have nam:∀ (k:Nat),k≤1→i+k≤s.length→jA (decide (acc.length=0)) (s.drop i)=kK k (s.drop i)→∀ z:Int,z=((i+k:Nat):Int)→Ev2 (λ n _=>(cg s n z).bind λ j75 =>
     ck ((0:Int)≤z∧z≤j75∧j75≤(s.length:Int)) <|
     (dr n (sub s z j75)).bind λ r77 =>
     if (!r77)=true then
      some ((.inr (.inr ([],2))):(List aa×Int)⊕((List aa)⊕((List aa)×Int)))
     else
      ck ((0:Int)≤z∧z≤j75∧j75≤(s.length:Int)) <|
      ck ((acc.length+[(aa.mk false 0 (sub s z j75))].length)*32≤140737488355328) <|
      some (.inl (acc++[(aa.mk false 0 (sub s z j75))],j75))) (·=match kK k (s.drop i) with | .inl e=>.inr (.inr ([],e)) | .inr (x,n)=>.inl (acc++[x],((i+n:Nat):Int))):=by
    intro k hk hik _ z hz
    subst hz
    have hl2:=yA s hs (s.length - (i+k)) (i+k) (by omega)
    have hle:=mY (s.drop (i+k))
    rw [List.length_drop] at hle
    have hsb:sub s ((i+k:Nat):Int) ((i+k+ff (s.drop (i+k)):Nat):Int)=(s.drop (i+k)).take (ff (s.drop (i+k))):=by
     have:=jp s (i+k) (ff (s.drop (i+k)))
     rw [← this]; congr 1
    have hdd:(s.drop i).drop k=s.drop (i+k):=List.drop_drop
    unfold kK
    rw [hdd]
    refine al _ (aT (f:=λ _ m=>cg s m ((i+k:Nat):Int)) hl2) (ai (by omega) ?_)
    rw [hsb]
    refine al _ (ri _ (by rw [List.length_take,List.length_drop]; omega)) (ak (λ h=>ac ?_) (λ h=>ai (by omega) (ai (hal _) (ac ?_))))
    ·rw [if_neg (by simpa using h)]
    ·rw [if_pos (by simpa using h)]
     show Sum.inl _=Sum.inl (_,((i+(k+ff (s.drop (i+k))):Nat):Int))
     rw [← Nat.add_assoc]
   have fin:∀ X:Nat→Nat→Option (((List aa)×Int)⊕((List aa)⊕((List aa)×Int))),Ev2 X (·=match jA (decide (acc.length=0)) (s.drop i) with | .inl e=>.inr (.inr ([],e)) | .inr (x,n)=>.inl (acc++[x],((i+n:Nat):Int))) →
     Ev2 (λ n m=>jn (X n m) λ q91=>ci n s m q91.1 q91.2) (·=ze (match jA (decide (acc.length=0)) (s.drop i) with | .inl e=>.inl e | .inr (x,n)=>prs f (acc++[x]) ((s.drop i).drop n))):=by
    intro X hX
    cases hst:jA (decide (acc.length=0)) (s.drop i) with
    | inl e=>rw [hst] at hX; exact dU (.inr ([],e)) hX rfl
    | inr z =>
     obtain ⟨x,n⟩:=z
     rw [hst] at hX
     exact cP (acc++[x],((i+n:Nat):Int)) hX (nxt x n hst _ rfl)
   refine fin _ (ax (by omega) (ai (by omega) (ax (by omega) ?_)))
   by_cases h0:acc.length=0
   ·have he:jA (decide (acc.length=0)) (s.drop i)=kK 0 (s.drop i):=by unfold jA; rw [if_neg h91,if_pos (decide_eq_true h0)]
    rw [he]
    exact cP (i:Int) (ax (by omega) (ac rfl)) (nam 0 (by omega) (by omega) he _ rfl)
   ·by_cases h46:((s.drop i).getD 0 0).toNat=46
    ·have he:jA (decide (acc.length=0)) (s.drop i)=kK 1 (s.drop i):=by unfold jA; rw [if_neg h91,if_neg (λ q=>h0 (of_decide_eq_true q)),if_pos h46]
     rw [he]
     exact cP ((i:Int)+1) (aw (by omega) (ai (by omega) (aw (by omega) (ai (aC (by omega) (by omega)) (ac rfl))))) (nam 1 (by omega) (by omega) he _ (by omega))
    ·have he:jA (decide (acc.length=0)) (s.drop i)=.inl 2:=by unfold jA; rw [if_neg h91,if_neg (λ q=>h0 (of_decide_eq_true q)),if_neg h46]
     rw [he]
     exact dU (.inr (.inr ([],2))) (aw (by omega) (ai (by omega) (ax (by omega) (ac rfl)))) rfl
theorem ws (s:Bytes):Ev2 (λ n _=>iO n s) (·=gi s):=by
 simp only [iO,gi]
 refine ak (λ h=>ac (by rw [if_pos (by omega)])) (λ h=>?_)
 rw [if_neg (by omega)]
 have l:=vt s (by omega) (s.length+1) [] 0 (by omega) (by omega) (by simp)
 rw [List.drop_zero] at l
 cases hp:prs (s.length+1) [] s with
 | inl e=>rw [hp] at l; exact dU _ (aT (f:=λ n m=>ci n s m [] 0) l) rfl
 | inr p =>
  rw [hp] at l
  obtain ⟨k1,k2⟩:=rH _ _ _ _ hp (by simp) (by simp)
  refine cP p (aT (f:=λ n m=>ci n s m [] 0) l) (al _ (u0 p (by omega) k1) ?_)
  exact ak (λ h=>ac (by simp only; rw [if_pos h])) (λ h=>ac (by simp only; rw [if_neg h]))
theorem nP (a:List aa)(ha:a.length≤1000000000000000):Ev2 (λ n _=>et n a a) (·=true):=by
 simp only [et]
 have loop:∀ (k i:Nat),i+k=a.length→Ev2 (λ _ m=>bN a a m (i:Int)) (·=.inl ()):=by
  intro k
  induction k with
  | zero =>
   intro i hi
   refine aA ?_
   simp only [bN]
   exact ax (by omega) (ac rfl)
  | succ k ih =>
   intro i hi
   refine aA ?_
   simp only [bN]
   refine aw (by omega) (ai (by omega) (ai (by omega) (aw (by simp) (ai (aC (by omega) (by omega)) ?_))))
   exact jK (P:=λ j=>Ev2 (λ _ m=>bN a a m j) _) (ih (i+1) (by omega))
 exact aw trivial (cP () (aT (f:=λ _ m=>bN a a m 0) (loop a.length 0 (by omega))) (ac rfl))
theorem oM (s:Bytes):(gi s).1.length≤32∧∀ x∈(gi s).1,kw x:=by
 unfold gi
 split
 ·exact ⟨by simp,by simp⟩
 ·split
  ·exact ⟨by simp,by simp⟩
  ·rename_i p hp
   obtain ⟨k1,k2⟩:=rH _ _ _ _ hp (by simp) (by simp)
   split
   ·exact ⟨k2,k1⟩
   ·exact ⟨by simp,by simp⟩
theorem us (s:Bytes):Ev2 (λ n _=>fL n s) (·=true):=by
 simp only [fL]
 refine ak (λ h=>al _ eR (ac rfl)) (λ h=>?_)
 have hl:=(oM s).1
 exact al _ (qv s) (al _ (ws s) (al true (al _ (nP _ (by omega)) (aw rfl (aw rfl (al _ eR (ac rfl))))) (ac rfl)))
end Go.Ab.R06
end
section
namespace Go.Ab.R06
open Go.Proofs Go.Ab Go.Ab.RB
attribute [local irreducible] awp eQ aU au bH AV.sub M cC
def dY (a_0:ab)(b_1:ab):Nat→Int→Option (Unit⊕Bool)
 | 0,_=>none
 | m+1,i14 =>
 if i14 < (a_0.fKeys.length:Int) then
  ck ((0:Int)≤i14∧i14 < (a_0.fKeys.length:Int)) <|
  ck ((0:Int)≤i14∧i14 < (b_1.fKeys.length:Int)) <|
  if lat a_0.fKeys i14=lat b_1.fKeys i14 then
   ck (inR (i14+1)) <|
   dY a_0 b_1 m (i14+1)
  else
   some (.inr false)
 else
  some (.inl ())
def jw (n:Nat)(a_0:ab)(b_1:ab):Option Bool :=
 (
   if a_0.fKind=b_1.fKind then
    if a_0.fKind=4 then
     if (a_0.fItems.length:Int)=(b_1.fItems.length:Int) then
      some (!decide ((a_0.fKeys.length:Int)=(b_1.fKeys.length:Int)))
     else
      some true
    else
     if a_0.fKind=5 then
      if (a_0.fItems.length:Int)=(b_1.fItems.length:Int) then
       some (!decide ((a_0.fKeys.length:Int)=(b_1.fKeys.length:Int)))
      else
       some true
     else
      some true
   else
    some true
  : Option Bool).bind λ t6 =>
 if t6=true then
  some false
 else
  jn (dY a_0 b_1 n 0) λ _q22 =>
  some true
theorem qK (n:Nat)(a_0:ab)(b_1:ab)(r:Bool)(h0:jw n a_0 b_1=some r):au Tryz.prog 87 [.agg (ab.cs a_0),.agg (ab.cs b_1)] (·=.p (eB r)):=by
 unfold jw at h0
 refine aH good Tryz.func87 rfl rfl rfl λ w0=>mP (λ v:Bool=>.p (eB v)) ?_
 refine nx 8 rfl (bd h0 λ o23 h1 h0=>?_)
 refine kN o23 (λ v24=>⟨[(2,.ptr 2 0),(3,.ptr 3 0),(38,.p (eB v24))],[(2,(ab.cs a_0).map .p),(3,(ab.cs b_1).map .p)]⟩) ?_ ?_
 ·refine nx 1 rfl (fB [38] h0 rfl (λ c7 h0=>?_) λ c7 h0=>?_)
  ·exact nx 6 rfl (mQ (oi h0) rfl (sr))
  refine nx 8 rfl ?_
  obtain ⟨o25,h1,hL0,hR0⟩:=cn h0
  refine kEx 0 (λ v26:Unit=>o25=.inl v26) (λ v26=>⟨[],[]⟩) (λ v26 hv=>?_) ?_
  ·have h0:=hL0 _ hv
   exact nx 6 rfl (mQ (oi h0) rfl (sr))
  refine lG (λ (q27:Int)=>⟨[(2,.ptr 2 0),(3,.ptr 3 0),(5,.p (eI q27))],[(2,(ab.cs a_0).map .p),(3,(ab.cs b_1).map .p)]⟩) (λ m (q27:Int)=>dY a_0 b_1 m q27) (λ _=>rfl) 0 h1 (gE rfl rfl) ?_
  rintro m i14 h1
  replace h1:dY a_0 b_1 (m+1) i14=some o25:=h1
  rw [dY] at h1
  refine nx 6 rfl (oLl (f:=eS) rfl rfl ?_)
  refine nx 2 rfl (fD [43] h1 rfl (λ c15 h1=>?_) λ c15 h1=>?_)
  ·refine nx 5 rfl (cc' h1 λ hk16 h1=>?_)
   refine cc' h1 λ hk17 h1=>mD [(2,.ptr 2 0),(3,.ptr 3 0),(5,.p (eI i14))] rfl ⟨rfl,rfl,rfl,trivial⟩ rfl (dR 3 rfl ?_)
   refine dq (.rptr [eS (lat a_0.fKeys i14)]) [47,48] rfl (λ _ e _ q=>af rfl (dQ (f:=eS) (l:=a_0.fKeys) (λ x=>[eS x]) rfl rfl rfl rfl rfl rfl (e _ _ rfl) rfl (e _ _ rfl) hk16 (λ _=>rfl) (λ _=>rfl) q)) rfl (dR 4 rfl ?_)
   refine dq (.rptr [eS (lat b_1.fKeys i14)]) [52,53] rfl (λ _ e _ q=>af rfl (dQ (f:=eS) (l:=b_1.fKeys) (λ x=>[eS x]) rfl rfl rfl rfl rfl rfl (e _ _ rfl) rfl (e _ _ rfl) hk17 (λ _=>rfl) (λ _=>rfl) q)) rfl (dR 1 rfl ?_)
   refine dq (.p (eB (!decide (lat a_0.fKeys i14=lat b_1.fKeys i14)))) [50,55] rfl (λ _ e _ q=>af rfl (lS rfl rfl rfl (e _ _ rfl) (e _ _ rfl) rfl q)) rfl (dE rfl ?_)
   refine nx 1 rfl (fN [56] h1 rfl (λ c18 h1=>?_) λ c18 h1=>?_)
   ·refine nx 4 rfl (oA h1 rfl rfl λ hk19 h1=>?_)
    exact nx 2 rfl (eX (i14+1) h1 (gE rfl rfl))
   exact nx 6 rfl (mQ (hR0 _ (oi h1).symm) rfl (sr))
  exact nx 2 rfl (eXi _ (oi h1).symm (gE rfl rfl))
 refine nx 7 rfl (fN [10,11] h1 rfl (λ c1 h1=>?_) λ c1 h1=>?_)
 ·refine nx 4 rfl (fN [14,15] h1 rfl (λ c2 h1=>?_) λ c2 h1=>?_)
  ·refine nx 8 rfl (oLl (f:=ah) rfl rfl ?_)
   refine nx 2 rfl (oLl (f:=ah) rfl rfl ?_)
   refine nx 3 rfl (fN [28,29,30] h1 rfl (λ c3 h1=>?_) λ c3 h1=>?_)
   ·refine nx 2 rfl (oLl (f:=eS) rfl rfl ?_)
    refine nx 2 rfl (oLl (f:=eS) rfl rfl ?_)
    exact nx 3 rfl (eX _ (oi h1).symm (gE rfl rfl))
   exact nx 9 rfl (eX _ (oi h1).symm (gE rfl rfl))
  refine nx 6 rfl (fN [18,19,20,21] h1 rfl (λ c4 h1=>?_) λ c4 h1=>?_)
  ·refine nx 2 rfl (oLl (f:=ah) rfl rfl ?_)
   refine nx 2 rfl (oLl (f:=ah) rfl rfl ?_)
   refine nx 3 rfl (fN [28,29,30] h1 rfl (λ c5 h1=>?_) λ c5 h1=>?_)
   ·refine nx 2 rfl (oLl (f:=eS) rfl rfl ?_)
    refine nx 2 rfl (oLl (f:=eS) rfl rfl ?_)
    exact nx 3 rfl (eX _ (oi h1).symm (gE rfl rfl))
   exact nx 9 rfl (eX _ (oi h1).symm (gE rfl rfl))
  exact nx 18 rfl (eX _ (oi h1).symm (gE rfl rfl))
 exact nx 28 rfl (eX _ (oi h1).symm (gE rfl rfl))
def fK (p_0:List aa)(v_1:ab)(i_2:Int):Option (List aa) :=
 ck (p_0.length*32≤140737488355328) <|
 if v_1.fKind=4 then
  ck ((p_0.length+([(aa.mk true i_2 ([]:Bytes))]).length)*32≤140737488355328) <|
  some (p_0++([(aa.mk true i_2 ([]:Bytes))]))
 else
  ck ((0:Int)≤i_2∧i_2 < (v_1.fKeys.length:Int)) <|
  ck ((p_0.length+[(aa.mk false 0 (lat v_1.fKeys i_2))].length)*32≤140737488355328) <|
  some (p_0++[(aa.mk false 0 (lat v_1.fKeys i_2))])
theorem gd (p_0:List aa)(v_1:ab)(i_2:Int)(r:(List aa))(h0:fK p_0 v_1 i_2=some r):au Tryz.prog 88 [eL ae p_0,.agg (ab.cs v_1),eI i_2] (·=.p (eL ae r)):=by
 unfold fK at h0
 refine aH good Tryz.func88 rfl rfl rfl λ w0=>mP (λ v:(List aa)=>.p (eL ae v)) ?_
 refine nx 13 rfl (cc' h0 λ hk1 h0=>?_)
 refine mO rfl (yW ae p_0 0 rfl rfl rfl rfl rfl rfl rfl rfl rfl rfl rfl (λ x=>congrArg List.length (aa.cells_eq x)) rfl rfl rfl rfl hk1 ?_)
 refine nx 9 rfl (fD [13] h0 rfl (λ c2 h0=>?_) λ c2 h0=>?_)
 ·refine nx 6 rfl (mO rfl (aV ae [(aa.mk true i_2 ([]:Bytes))] rfl rfl rfl rfl rfl rfl rfl rfl rfl rfl rfl rfl rfl (by first | rfl | (simp only [List.map_cons,List.map_nil,aa.agg_eq]; done) | (simp only [List.map_cons,List.map_nil,aa.agg_eq]; rfl)) ?_))
  refine cc' h0 λ hk3 h0=>mO rfl (dl ae p_0 ([(aa.mk true i_2 ([]:Bytes))]) rfl rfl rfl rfl rfl rfl rfl rfl rfl rfl rfl rfl rfl (λ x=>congrArg List.length (aa.cells_eq x)) rfl rfl rfl rfl hk3 ?_)
  exact nx 3 rfl (mQ (oi h0) rfl (AV.sub_vec _ _ _ _))
 refine nx 8 rfl (oE h0 (λ _=>rfl) rfl rfl (λ _=>rfl) λ hk4 h0=>?_)
 refine nx 2 rfl (mO rfl (aV ae [(aa.mk false 0 (lat v_1.fKeys i_2))] rfl rfl rfl rfl rfl rfl rfl rfl rfl rfl rfl rfl rfl (by first | rfl | (simp only [List.map_cons,List.map_nil,aa.agg_eq]; done) | (simp only [List.map_cons,List.map_nil,aa.agg_eq]; rfl)) ?_))
 refine cc' h0 λ hk5 h0=>mO rfl (dl ae p_0 [(aa.mk false 0 (lat v_1.fKeys i_2))] rfl rfl rfl rfl rfl rfl rfl rfl rfl rfl rfl rfl rfl (λ x=>congrArg List.length (aa.cells_eq x)) rfl rfl rfl rfl hk5 ?_)
 exact nx 3 rfl (mQ (oi h0) rfl (AV.sub_vec _ _ _ _))
def cU (r_ref08_diff:ab→ab→(List aa)→Option (List (List aa)))(a_0:ab)(b_1:ab)(p_2:List aa):Nat→(List (List aa))→Int→Option (List (List aa))
 | 0,_,_=>none
 | m+1,out18,i19 =>
 if i19 < (a_0.fItems.length:Int) then
  ck ((0:Int)≤i19∧i19 < (a_0.fItems.length:Int)) <|
  ck ((0:Int)≤i19∧i19 < (b_1.fItems.length:Int)) <|
  (fK p_2 a_0 i19).bind λ r23 =>
  (r_ref08_diff (lat a_0.fItems i19) (lat b_1.fItems i19) r23).bind λ r25 =>
  ck ((out18.length+r25.length)*24≤140737488355328) <|
  ck (inR (i19+1)) <|
  cU r_ref08_diff a_0 b_1 p_2 m (out18++r25) (i19+1)
 else
  some out18
def ec:Nat→ab→ab→(List aa)→Option (List (List aa))
 | 0,_,_,_=>none
 | n+1,a_0,b_1,p_2 =>
 (eq n a_0 b_1).bind λ r1 =>
 if r1=true then
  some []
 else
  (jw n a_0 b_1).bind λ r4 =>
  if (!r4)=true then
   some [p_2]
  else
   (cU (ec n) a_0 b_1 p_2 n [] 0).bind λ out31 =>
   some out31
theorem qM (n:Nat):∀ (a_0:ab) (b_1:ab) (p_2:List aa) (r:(List (List aa))),ec n a_0 b_1 p_2=some r→au Tryz.prog 63 [.agg (ab.cs a_0),.agg (ab.cs b_1),eL ae p_2] (·=.p (eL (eL ae) r)):=by
 induction n with
 | zero=>intro a_0 b_1 p_2 r h0; cases h0
 | succ n ih =>
 have ih_ref08_diff_ok:=ih
 intro a_0 b_1 p_2 r h0
 rw [ec] at h0
 refine aH good Tryz.func63 rfl rfl rfl λ w0=>mP (λ v:(List (List aa))=>.p (eL (eL ae) v)) ?_
 refine nx 11 rfl (bd h0 λ r1 e2 h0=>?_)
 refine oK (qf _ a_0 b_1 _ e2) rfl ⟨sr,sr,trivial⟩ Tryz.call22 rfl (nx 1 rfl ?_)
 refine fB [11] h0 rfl (λ c3 h0=>?_) λ c3 h0=>?_
 ·exact nx 6 rfl (mQ (oi h0) rfl (dm _))
 refine nx 7 rfl (bd h0 λ r4 e5 h0=>?_)
 refine oK (qK _ a_0 b_1 _ e5) rfl ⟨sr,sr,trivial⟩ Tryz.call87 rfl (nx 2 rfl ?_)
 refine fB [15] h0 rfl (λ c6 h0=>?_) λ c6 h0=>?_
 ·refine nx 4 rfl (mO rfl (aV (eL ae) [p_2] rfl rfl rfl rfl rfl rfl rfl rfl rfl rfl rfl rfl rfl rfl ?_))
  exact nx 3 rfl (mQ (oi h0) rfl (sr))
 refine nx 12 rfl (bd h0 λ o33 h1 h0=>?_)
 refine kE 0 o33 (λ v34=>⟨[(7,.vec 41 1 0 (v34.map (eL ae)))],[]⟩) ?_ ?_
 ·exact nx 7 rfl (mQ (oi h0) rfl (AV.sub_vec _ _ _ _))
 refine lG (λ (q35:(List (List aa))×Int)=>⟨[(2,.p (eL ae p_2)),(3,.ptr 3 0),(4,.ptr 4 0),(7,.vec 41 1 0 (q35.1.map (eL ae))),(8,.p (eI q35.2))],[(3,(ab.cs a_0).map .p),(4,(ab.cs b_1).map .p)]⟩) (λ m (q35:(List (List aa))×Int)=>cU (ec n) a_0 b_1 p_2 m q35.1 q35.2) (λ _=>rfl) ([],0) h1 (cj (gX ⟨er rfl,er rfl,er rfl,⟨_,rfl,AV.sub_nilvec _ _ _⟩,er rfl,trivial⟩ ⟨⟨_,rfl,⟨sr,sr,sr,sr,sr,trivial⟩⟩,⟨_,rfl,⟨sr,sr,sr,sr,sr,trivial⟩⟩,trivial⟩)) ?_
 rintro m ⟨out18,i19⟩ h1
 replace h1:cU (ec n) a_0 b_1 p_2 (m+1) out18 i19=some o33:=h1
 rw [cU] at h1
 refine nx 6 rfl (oLl (f:=ah) rfl rfl ?_)
 refine nx 2 rfl (fD [22] h1 rfl (λ c20 h1=>?_) λ c20 h1=>?_)
 ·refine nx 4 rfl (cc' h1 λ hk21 h1=>?_)
  refine cc' h1 λ hk22 h1=>bd h1 λ r23 e24 h1=>bd h1 λ r25 e26 h1=>cc' h1 λ hk27 h1=>mG (gE (t:=⟨[(2,.p (eL ae p_2)),(3,.ptr 3 0),(4,.ptr 4 0),(7,.vec 41 1 0 (out18.map (eL ae))),(8,.p (eI i19))],[(3,(ab.cs a_0).map .p),(4,(ab.cs b_1).map .p)]⟩) rfl rfl) (mS ⟨2,[16,17],(by3 (.some λ i=>Nat.beq i 41||Nat.beq i 41) .none .none),(by3 [(2,.p (eL ae p_2)),(3,.ptr 3 0),(4,.ptr 4 0),(7,.vec 41 1 0 (out18.map (eL ae))),(8,.p (eI i19))] [(2,.p (eL ae p_2)),(3,.ptr 3 0),(4,.ptr 4 0),(7,.p (eL (eL ae) out18)),(8,.p (eI i19))] [(2,.p (eL ae p_2)),(3,.ptr 3 0),(4,.ptr 4 0),(8,.p (eI i19))]),(λ _=>[(3,[.p (eI a_0.fKind),.p (eI a_0.fNum),.p (eS a_0.fStr),.p (eL ah a_0.fItems),.p (eL eS a_0.fKeys)]),(4,[.p (eI b_1.fKind),.p (eI b_1.fNum),.p (eS b_1.fStr),.p (eL ah b_1.fItems),.p (eL eS b_1.fKeys)])])⟩ rfl rfl rfl ⟨rfl,rfl,rfl,rfl,rfl,trivial⟩ (lt2 ⟨rfl,rfl,rfl,rfl,rfl,trivial⟩ ⟨rfl,rfl,rfl,rfl,trivial⟩) rfl rfl rfl rfl ?_)
  refine ap (by3 (.vec 41 1 0 (out18.map (eL ae))) (.p (eL (eL ae) out18)) (.p (eL (eL ae) out18))) rfl rfl rfl (bc rfl rfl (λ _=>rfl)) (lt2 rfl rfl) (ar rfl (ar rfl (ag [(7,_)] ⟨.inl rfl,trivial⟩ (λ sl hsl K hK=>af rfl (aI rfl rfl rfl (hsl _ _ rfl) hK)) ao))) (ap (λ _=>.ptr 3 3) rfl rfl rfl (bc rfl rfl (λ _=>rfl)) (lt2 rfl rfl) (ar rfl (ag [(3,_)] ⟨.inl rfl,trivial⟩ (λ sl hsl K hK=>af rfl (bs rfl rfl rfl rfl rfl rfl rfl rfl (hsl _ _ rfl) hK)) (ag [(3,_)] ⟨.inl rfl,trivial⟩ (λ sl hsl K hK=>af rfl (bs rfl rfl rfl rfl rfl rfl rfl rfl (hsl _ _ rfl) hK)) ao))) ?_)
  refine ap (λ _=>.p (eL ah a_0.fItems)) rfl rfl rfl (bc rfl rfl (λ _=>rfl)) (lt2 rfl rfl) (ar rfl (ag [(26,_)] ⟨.inr ⟨1,_,rfl,rfl,rfl⟩,trivial⟩ (λ sl hsl K hK=>af rfl (cD rfl rfl rfl rfl rfl (hsl _ _ rfl) rfl rfl hK)) (ag [(26,_)] ⟨.inr ⟨1,_,rfl,rfl,rfl⟩,trivial⟩ (λ sl hsl K hK=>af rfl (cD rfl rfl rfl rfl rfl (hsl _ _ rfl) rfl rfl hK)) ao))) (ap (λ _=>.p (eI i19)) rfl rfl rfl (bc rfl rfl (λ _=>rfl)) (lt2 rfl rfl) (ar rfl (ag [(8,_)] ⟨.inl rfl,trivial⟩ (λ sl hsl K hK=>af rfl (aI rfl rfl rfl (hsl _ _ rfl) hK)) (ag [(8,_)] ⟨.inl rfl,trivial⟩ (λ sl hsl K hK=>af rfl (aI rfl rfl rfl (hsl _ _ rfl) hK)) ao))) ?_)
  refine ap (λ _=>.rptr (ab.cs (lat a_0.fItems i19))) rfl rfl rfl (bc rfl rfl (λ _=>rfl)) (lt2 rfl rfl) (ar rfl (ag [(27,_),(28,_)] ⟨.inr ⟨2,_,rfl,rfl,rfl⟩,.inr ⟨3,_,rfl,rfl,rfl⟩,trivial⟩ (λ sl hsl K hK=>af rfl (dQ (f:=ah) (l:=a_0.fItems) ab.cs rfl rfl rfl rfl rfl rfl (hsl _ _ rfl) rfl (hsl _ _ rfl) hk21 ab.cells_eq (λ _=>rfl) hK)) (ag [(27,_),(28,_)] ⟨.inr ⟨2,_,rfl,rfl,rfl⟩,.inr ⟨3,_,rfl,rfl,rfl⟩,trivial⟩ (λ sl hsl K hK=>af rfl (dQ (f:=ah) (l:=a_0.fItems) ab.cs rfl rfl rfl rfl rfl rfl (hsl _ _ rfl) rfl (hsl _ _ rfl) hk21 ab.cells_eq (λ _=>rfl) hK)) ao))) (ap (λ _=>.p (.agg (ab.cs (lat a_0.fItems i19)))) rfl rfl rfl (bc rfl rfl (λ _=>rfl)) (lt2 rfl rfl) (ar rfl (ag [(29,_)] ⟨.inr ⟨4,_,rfl,rfl,rfl⟩,trivial⟩ (λ sl hsl K hK=>af rfl (dZ rfl rfl rfl rfl rfl (hsl _ _ rfl) rfl hK)) (ag [(29,_)] ⟨.inr ⟨4,_,rfl,rfl,rfl⟩,trivial⟩ (λ sl hsl K hK=>af rfl (dZ rfl rfl rfl rfl rfl (hsl _ _ rfl) rfl hK)) ao))) ?_)
  refine ap (λ _=>.ptr 4 3) rfl rfl rfl (bc rfl rfl (λ _=>rfl)) (lt2 rfl rfl) (ar rfl (ag [(4,_)] ⟨.inl rfl,trivial⟩ (λ sl hsl K hK=>af rfl (bs rfl rfl rfl rfl rfl rfl rfl rfl (hsl _ _ rfl) hK)) (ag [(4,_)] ⟨.inl rfl,trivial⟩ (λ sl hsl K hK=>af rfl (bs rfl rfl rfl rfl rfl rfl rfl rfl (hsl _ _ rfl) hK)) ao))) (ap (λ _=>.p (eL ah b_1.fItems)) rfl rfl rfl (bc rfl rfl (λ _=>rfl)) (lt2 rfl rfl) (ar rfl (ag [(31,_)] ⟨.inr ⟨6,_,rfl,rfl,rfl⟩,trivial⟩ (λ sl hsl K hK=>af rfl (cD rfl rfl rfl rfl rfl (hsl _ _ rfl) rfl rfl hK)) (ag [(31,_)] ⟨.inr ⟨6,_,rfl,rfl,rfl⟩,trivial⟩ (λ sl hsl K hK=>af rfl (cD rfl rfl rfl rfl rfl (hsl _ _ rfl) rfl rfl hK)) ao))) ?_)
  refine ap (λ _=>.p (eI i19)) rfl rfl rfl (bc rfl rfl (λ _=>rfl)) (lt2 rfl rfl) (ar rfl (ag [(8,_)] ⟨.inl rfl,trivial⟩ (λ sl hsl K hK=>af rfl (aI rfl rfl rfl (hsl _ _ rfl) hK)) (ag [(8,_)] ⟨.inl rfl,trivial⟩ (λ sl hsl K hK=>af rfl (aI rfl rfl rfl (hsl _ _ rfl) hK)) ao))) (ap (λ _=>.rptr (ab.cs (lat b_1.fItems i19))) rfl rfl rfl (bc rfl rfl (λ _=>rfl)) (lt2 rfl rfl) (ar rfl (ag [(32,_),(33,_)] ⟨.inr ⟨7,_,rfl,rfl,rfl⟩,.inr ⟨8,_,rfl,rfl,rfl⟩,trivial⟩ (λ sl hsl K hK=>af rfl (dQ (f:=ah) (l:=b_1.fItems) ab.cs rfl rfl rfl rfl rfl rfl (hsl _ _ rfl) rfl (hsl _ _ rfl) hk22 ab.cells_eq (λ _=>rfl) hK)) (ag [(32,_),(33,_)] ⟨.inr ⟨7,_,rfl,rfl,rfl⟩,.inr ⟨8,_,rfl,rfl,rfl⟩,trivial⟩ (λ sl hsl K hK=>af rfl (dQ (f:=ah) (l:=b_1.fItems) ab.cs rfl rfl rfl rfl rfl rfl (hsl _ _ rfl) rfl (hsl _ _ rfl) hk22 ab.cells_eq (λ _=>rfl) hK)) ao))) ?_)
  refine ap (λ _=>.p (.agg (ab.cs (lat b_1.fItems i19)))) rfl rfl rfl (bc rfl rfl (λ _=>rfl)) (lt2 rfl rfl) (ar rfl (ag [(34,_)] ⟨.inr ⟨9,_,rfl,rfl,rfl⟩,trivial⟩ (λ sl hsl K hK=>af rfl (dZ rfl rfl rfl rfl rfl (hsl _ _ rfl) rfl hK)) (ag [(34,_)] ⟨.inr ⟨9,_,rfl,rfl,rfl⟩,trivial⟩ (λ sl hsl K hK=>af rfl (dZ rfl rfl rfl rfl rfl (hsl _ _ rfl) rfl hK)) ao))) (ap (λ _=>.p (eL ae p_2)) rfl rfl rfl (bc rfl rfl (λ _=>rfl)) (lt2 rfl rfl) (ar rfl (ag [(2,_)] ⟨.inl rfl,trivial⟩ (λ sl hsl K hK=>af rfl (aI rfl rfl rfl (hsl _ _ rfl) hK)) (ag [(2,_)] ⟨.inl rfl,trivial⟩ (λ sl hsl K hK=>af rfl (aI rfl rfl rfl (hsl _ _ rfl) hK)) ao))) ?_)
  refine ap (λ _=>.p (.agg (ab.cs a_0))) rfl rfl rfl (bc rfl rfl (λ _=>rfl)) (lt2 rfl rfl) (ar rfl (ag [(3,_)] ⟨.inl rfl,trivial⟩ (λ sl hsl K hK=>af rfl (bg rfl rfl rfl rfl rfl (hsl _ _ rfl) rfl rfl rfl hK)) (ag [(3,_)] ⟨.inl rfl,trivial⟩ (λ sl hsl K hK=>af rfl (bg rfl rfl rfl rfl rfl (hsl _ _ rfl) rfl rfl rfl hK)) ao))) (ap (λ _=>.p (eI i19)) rfl rfl rfl (bc rfl rfl (λ _=>rfl)) (lt2 rfl rfl) (ar rfl (ag [(8,_)] ⟨.inl rfl,trivial⟩ (λ sl hsl K hK=>af rfl (aI rfl rfl rfl (hsl _ _ rfl) hK)) (ag [(8,_)] ⟨.inl rfl,trivial⟩ (λ sl hsl K hK=>af rfl (aI rfl rfl rfl (hsl _ _ rfl) hK)) ao))) ?_)
  refine ap (λ _=>.p (eL ae r23)) rfl rfl rfl (bc rfl rfl (λ _=>rfl)) (lt2 rfl rfl) (ar rfl (ag [(36,_),(37,_),(38,_)] ⟨.inr ⟨11,_,rfl,rfl,rfl⟩,.inr ⟨12,_,rfl,rfl,rfl⟩,.inr ⟨13,_,rfl,rfl,rfl⟩,trivial⟩ (λ sl hsl K hK=>af rfl (aF (gd p_2 a_0 i19 _ e24) rfl rfl rfl (aj (hsl _ _ rfl) (aj (hsl _ _ rfl) (aj (hsl _ _ rfl) aE))) ⟨sr,sr,sr,trivial⟩ Tryz.call88 rfl hK)) (ag [(36,_),(37,_),(38,_)] ⟨.inr ⟨11,_,rfl,rfl,rfl⟩,.inr ⟨12,_,rfl,rfl,rfl⟩,.inr ⟨13,_,rfl,rfl,rfl⟩,trivial⟩ (λ sl hsl K hK=>af rfl (aF (gd p_2 a_0 i19 _ e24) rfl rfl rfl (aj (hsl _ _ rfl) (aj (hsl _ _ rfl) (aj (hsl _ _ rfl) aE))) ⟨sr,sr,sr,trivial⟩ Tryz.call88 rfl hK)) ao))) (ap (λ _=>.p (eL (eL ae) r25)) rfl rfl rfl (bc rfl rfl (λ _=>rfl)) (lt2 rfl rfl) (ar rfl (ar rfl (ag [(30,_),(35,_),(39,_)] ⟨.inr ⟨5,_,rfl,rfl,rfl⟩,.inr ⟨10,_,rfl,rfl,rfl⟩,.inr ⟨14,_,rfl,rfl,rfl⟩,trivial⟩ (λ sl hsl K hK=>af rfl (aF (ih_ref08_diff_ok (lat a_0.fItems i19) (lat b_1.fItems i19) r23 _ e26) rfl rfl rfl (aj (hsl _ _ rfl) (aj (hsl _ _ rfl) (aj (hsl _ _ rfl) aE))) ⟨sr,sr,sr,trivial⟩ Tryz.call63 rfl hK)) ao))) ?_)
  refine fv (λ _=>.vec 41 1 0 ((out18++r25).map (eL ae))) [(25,_),(40,_)] rfl ⟨.inr ⟨0,_,rfl,rfl,rfl⟩,.inr ⟨15,_,rfl,rfl,rfl⟩,trivial⟩ rfl rfl (dV rfl (λ _=>rfl)) (lt2 (λ h=>absurd h (by decide)) (λ _=>rfl)) (λ sl hsl K hK=>af rfl (dl (eL ae) out18 r25 rfl rfl rfl rfl rfl rfl rfl rfl (hsl _ _ rfl) rfl rfl (hsl _ _ rfl) rfl (λ _=>rfl) rfl rfl rfl rfl hk27 hK)) (fv (λ _=>.vec 41 1 0 ((out18++r25).map (eL ae))) [(41,_)] rfl ⟨.inr ⟨16,_,rfl,rfl,rfl⟩,trivial⟩ rfl rfl (λ _=>rfl) (lt2 (λ h=>absurd h (by decide)) (λ h=>absurd h (by decide))) (λ sl hsl K hK=>af rfl (bw rfl rfl rfl (hsl _ _ rfl) hK)) ?_)
  refine hC (nx 3 rfl ?_)
  exact oA h1 rfl rfl λ hk28 h1=>nx 2 rfl (eX (out18++r25,i19+1) h1 (gE rfl rfl))
 exact nx 2 rfl (eXi _ (oi h1).symm (gE rfl rfl))
def jI (n:Nat)(a_0:ab)(b_1:ab):Option (List (List aa)) :=
 (ec n a_0 b_1 []).bind λ r1 =>
 some r1
theorem jR (n:Nat)(a_0:ab)(b_1:ab)(r:(List (List aa)))(h0:jI n a_0 b_1=some r):au Tryz.prog 33 [.agg (ab.cs a_0),.agg (ab.cs b_1)] (·=.p (eL (eL ae) r)):=by
 unfold jI at h0
 refine aH good Tryz.func33 rfl rfl rfl λ w0=>mP (λ v:(List (List aa))=>.p (eL (eL ae) v)) ?_
 refine nx 10 rfl (bd h0 λ r1 e2 h0=>?_)
 refine oK (qM _ a_0 b_1 [] _ e2) rfl ⟨sr,sr,dm _,trivial⟩ Tryz.call63 rfl (nx 3 rfl ?_)
 exact mQ (oi h0) rfl (sr)
def cq (r_ref08_leaves:ab→(List aa)→Option (List (List aa)))(v_0:ab)(p_1:List aa):Nat→(List (List aa))→Int→Option (List (List aa))
 | 0,_,_=>none
 | m+1,out12,i13 =>
 if i13 < (v_0.fItems.length:Int) then
  ck ((0:Int)≤i13∧i13 < (v_0.fItems.length:Int)) <|
  (fK p_1 v_0 i13).bind λ r16 =>
  (r_ref08_leaves (lat v_0.fItems i13) r16).bind λ r18 =>
  ck ((out12.length+r18.length)*24≤140737488355328) <|
  ck (inR (i13+1)) <|
  cq r_ref08_leaves v_0 p_1 m (out12++r18) (i13+1)
 else
  some out12
def de:Nat→ab→(List aa)→Option (List (List aa))
 | 0,_,_=>none
 | n+1,v_0,p_1 =>
 if (v_0.fItems.length:Int)=0 then
  some [p_1]
 else
  (cq (de n) v_0 p_1 n [] 0).bind λ out24 =>
  some out24
theorem pf (n:Nat):∀ (v_0:ab) (p_1:List aa) (r:(List (List aa))),de n v_0 p_1=some r→au Tryz.prog 64 [.agg (ab.cs v_0),eL ae p_1] (·=.p (eL (eL ae) r)):=by
 induction n with
 | zero=>intro v_0 p_1 r h0; cases h0
 | succ n ih =>
 have ih_ref08_leaves_ok:=ih
 intro v_0 p_1 r h0
 rw [de] at h0
 refine aH good Tryz.func64 rfl rfl rfl λ w0=>mP (λ v:(List (List aa))=>.p (eL (eL ae) v)) ?_
 refine nx 10 rfl (oLl (f:=ah) rfl rfl ?_)
 refine nx 2 rfl (fD [10] h0 rfl (λ c1 h0=>?_) λ c1 h0=>?_)
 ·refine nx 4 rfl (mO rfl (aV (eL ae) [p_1] rfl rfl rfl rfl rfl rfl rfl rfl rfl rfl rfl rfl rfl rfl ?_))
  exact nx 3 rfl (mQ (oi h0) rfl (sr))
 refine nx 12 rfl (bd h0 λ o26 h1 h0=>?_)
 refine kE 0 o26 (λ v27=>⟨[(5,.vec 31 1 0 (v27.map (eL ae)))],[]⟩) ?_ ?_
 ·exact nx 7 rfl (mQ (oi h0) rfl (AV.sub_vec _ _ _ _))
 refine lG (λ (q28:(List (List aa))×Int)=>⟨[(1,.p (eL ae p_1)),(2,.ptr 2 0),(5,.vec 31 1 0 (q28.1.map (eL ae))),(6,.p (eI q28.2))],[(2,(ab.cs v_0).map .p)]⟩) (λ m (q28:(List (List aa))×Int)=>cq (de n) v_0 p_1 m q28.1 q28.2) (λ _=>rfl) ([],0) h1 (cj (gX ⟨er rfl,er rfl,⟨_,rfl,AV.sub_nilvec _ _ _⟩,er rfl,trivial⟩ ⟨⟨_,rfl,⟨sr,sr,sr,sr,sr,trivial⟩⟩,trivial⟩)) ?_
 rintro m ⟨out12,i13⟩ h1
 replace h1:cq (de n) v_0 p_1 (m+1) out12 i13=some o26:=h1
 rw [cq] at h1
 refine nx 6 rfl (oLl (f:=ah) rfl rfl ?_)
 refine nx 2 rfl (fD [17] h1 rfl (λ c14 h1=>?_) λ c14 h1=>?_)
 ·refine nx 4 rfl (cc' h1 λ hk15 h1=>?_)
  refine bd h1 λ r16 e17 h1=>bd h1 λ r18 e19 h1=>cc' h1 λ hk20 h1=>mG (gE (t:=⟨[(1,.p (eL ae p_1)),(2,.ptr 2 0),(5,.vec 31 1 0 (out12.map (eL ae))),(6,.p (eI i13))],[(2,(ab.cs v_0).map .p)]⟩) rfl rfl) (mS ⟨2,[11,12],(by3 (.some λ i=>Nat.beq i 31||Nat.beq i 31) .none .none),(by3 [(1,.p (eL ae p_1)),(2,.ptr 2 0),(5,.vec 31 1 0 (out12.map (eL ae))),(6,.p (eI i13))] [(1,.p (eL ae p_1)),(2,.ptr 2 0),(5,.p (eL (eL ae) out12)),(6,.p (eI i13))] [(1,.p (eL ae p_1)),(2,.ptr 2 0),(6,.p (eI i13))]),(λ _=>[(2,[.p (eI v_0.fKind),.p (eI v_0.fNum),.p (eS v_0.fStr),.p (eL ah v_0.fItems),.p (eL eS v_0.fKeys)])])⟩ rfl rfl rfl ⟨rfl,rfl,rfl,rfl,trivial⟩ (lt2 ⟨rfl,rfl,rfl,rfl,trivial⟩ ⟨rfl,rfl,rfl,trivial⟩) rfl rfl rfl rfl ?_)
  refine ap (by3 (.vec 31 1 0 (out12.map (eL ae))) (.p (eL (eL ae) out12)) (.p (eL (eL ae) out12))) rfl rfl rfl (bc rfl rfl (λ _=>rfl)) (lt2 rfl rfl) (ar rfl (ar rfl (ag [(5,_)] ⟨.inl rfl,trivial⟩ (λ sl hsl K hK=>af rfl (aI rfl rfl rfl (hsl _ _ rfl) hK)) ao))) (ap (λ _=>.ptr 2 3) rfl rfl rfl (bc rfl rfl (λ _=>rfl)) (lt2 rfl rfl) (ar rfl (ag [(2,_)] ⟨.inl rfl,trivial⟩ (λ sl hsl K hK=>af rfl (bs rfl rfl rfl rfl rfl rfl rfl rfl (hsl _ _ rfl) hK)) (ag [(2,_)] ⟨.inl rfl,trivial⟩ (λ sl hsl K hK=>af rfl (bs rfl rfl rfl rfl rfl rfl rfl rfl (hsl _ _ rfl) hK)) ao))) ?_)
  refine ap (λ _=>.p (eL ah v_0.fItems)) rfl rfl rfl (bc rfl rfl (λ _=>rfl)) (lt2 rfl rfl) (ar rfl (ag [(21,_)] ⟨.inr ⟨1,_,rfl,rfl,rfl⟩,trivial⟩ (λ sl hsl K hK=>af rfl (cD rfl rfl rfl rfl rfl (hsl _ _ rfl) rfl rfl hK)) (ag [(21,_)] ⟨.inr ⟨1,_,rfl,rfl,rfl⟩,trivial⟩ (λ sl hsl K hK=>af rfl (cD rfl rfl rfl rfl rfl (hsl _ _ rfl) rfl rfl hK)) ao))) (ap (λ _=>.p (eI i13)) rfl rfl rfl (bc rfl rfl (λ _=>rfl)) (lt2 rfl rfl) (ar rfl (ag [(6,_)] ⟨.inl rfl,trivial⟩ (λ sl hsl K hK=>af rfl (aI rfl rfl rfl (hsl _ _ rfl) hK)) (ag [(6,_)] ⟨.inl rfl,trivial⟩ (λ sl hsl K hK=>af rfl (aI rfl rfl rfl (hsl _ _ rfl) hK)) ao))) ?_)
  refine ap (λ _=>.rptr (ab.cs (lat v_0.fItems i13))) rfl rfl rfl (bc rfl rfl (λ _=>rfl)) (lt2 rfl rfl) (ar rfl (ag [(22,_),(23,_)] ⟨.inr ⟨2,_,rfl,rfl,rfl⟩,.inr ⟨3,_,rfl,rfl,rfl⟩,trivial⟩ (λ sl hsl K hK=>af rfl (dQ (f:=ah) (l:=v_0.fItems) ab.cs rfl rfl rfl rfl rfl rfl (hsl _ _ rfl) rfl (hsl _ _ rfl) hk15 ab.cells_eq (λ _=>rfl) hK)) (ag [(22,_),(23,_)] ⟨.inr ⟨2,_,rfl,rfl,rfl⟩,.inr ⟨3,_,rfl,rfl,rfl⟩,trivial⟩ (λ sl hsl K hK=>af rfl (dQ (f:=ah) (l:=v_0.fItems) ab.cs rfl rfl rfl rfl rfl rfl (hsl _ _ rfl) rfl (hsl _ _ rfl) hk15 ab.cells_eq (λ _=>rfl) hK)) ao))) (ap (λ _=>.p (.agg (ab.cs (lat v_0.fItems i13)))) rfl rfl rfl (bc rfl rfl (λ _=>rfl)) (lt2 rfl rfl) (ar rfl (ag [(24,_)] ⟨.inr ⟨4,_,rfl,rfl,rfl⟩,trivial⟩ (λ sl hsl K hK=>af rfl (dZ rfl rfl rfl rfl rfl (hsl _ _ rfl) rfl hK)) (ag [(24,_)] ⟨.inr ⟨4,_,rfl,rfl,rfl⟩,trivial⟩ (λ sl hsl K hK=>af rfl (dZ rfl rfl rfl rfl rfl (hsl _ _ rfl) rfl hK)) ao))) ?_)
  refine ap (λ _=>.p (eL ae p_1)) rfl rfl rfl (bc rfl rfl (λ _=>rfl)) (lt2 rfl rfl) (ar rfl (ag [(1,_)] ⟨.inl rfl,trivial⟩ (λ sl hsl K hK=>af rfl (aI rfl rfl rfl (hsl _ _ rfl) hK)) (ag [(1,_)] ⟨.inl rfl,trivial⟩ (λ sl hsl K hK=>af rfl (aI rfl rfl rfl (hsl _ _ rfl) hK)) ao))) (ap (λ _=>.p (.agg (ab.cs v_0))) rfl rfl rfl (bc rfl rfl (λ _=>rfl)) (lt2 rfl rfl) (ar rfl (ag [(2,_)] ⟨.inl rfl,trivial⟩ (λ sl hsl K hK=>af rfl (bg rfl rfl rfl rfl rfl (hsl _ _ rfl) rfl rfl rfl hK)) (ag [(2,_)] ⟨.inl rfl,trivial⟩ (λ sl hsl K hK=>af rfl (bg rfl rfl rfl rfl rfl (hsl _ _ rfl) rfl rfl rfl hK)) ao))) ?_)
  refine ap (λ _=>.p (eI i13)) rfl rfl rfl (bc rfl rfl (λ _=>rfl)) (lt2 rfl rfl) (ar rfl (ag [(6,_)] ⟨.inl rfl,trivial⟩ (λ sl hsl K hK=>af rfl (aI rfl rfl rfl (hsl _ _ rfl) hK)) (ag [(6,_)] ⟨.inl rfl,trivial⟩ (λ sl hsl K hK=>af rfl (aI rfl rfl rfl (hsl _ _ rfl) hK)) ao))) (ap (λ _=>.p (eL ae r16)) rfl rfl rfl (bc rfl rfl (λ _=>rfl)) (lt2 rfl rfl) (ar rfl (ag [(26,_),(27,_),(28,_)] ⟨.inr ⟨6,_,rfl,rfl,rfl⟩,.inr ⟨7,_,rfl,rfl,rfl⟩,.inr ⟨8,_,rfl,rfl,rfl⟩,trivial⟩ (λ sl hsl K hK=>af rfl (aF (gd p_1 v_0 i13 _ e17) rfl rfl rfl (aj (hsl _ _ rfl) (aj (hsl _ _ rfl) (aj (hsl _ _ rfl) aE))) ⟨sr,sr,sr,trivial⟩ Tryz.call88 rfl hK)) (ag [(26,_),(27,_),(28,_)] ⟨.inr ⟨6,_,rfl,rfl,rfl⟩,.inr ⟨7,_,rfl,rfl,rfl⟩,.inr ⟨8,_,rfl,rfl,rfl⟩,trivial⟩ (λ sl hsl K hK=>af rfl (aF (gd p_1 v_0 i13 _ e17) rfl rfl rfl (aj (hsl _ _ rfl) (aj (hsl _ _ rfl) (aj (hsl _ _ rfl) aE))) ⟨sr,sr,sr,trivial⟩ Tryz.call88 rfl hK)) ao))) ?_)
  refine ap (λ _=>.p (eL (eL ae) r18)) rfl rfl rfl (bc rfl rfl (λ _=>rfl)) (lt2 rfl rfl) (ar rfl (ar rfl (ag [(25,_),(29,_)] ⟨.inr ⟨5,_,rfl,rfl,rfl⟩,.inr ⟨9,_,rfl,rfl,rfl⟩,trivial⟩ (λ sl hsl K hK=>af rfl (aF (ih_ref08_leaves_ok (lat v_0.fItems i13) r16 _ e19) rfl rfl rfl (aj (hsl _ _ rfl) (aj (hsl _ _ rfl) aE)) ⟨sr,sr,trivial⟩ Tryz.call64 rfl hK)) ao))) (fv (λ _=>.vec 31 1 0 ((out12++r18).map (eL ae))) [(20,_),(30,_)] rfl ⟨.inr ⟨0,_,rfl,rfl,rfl⟩,.inr ⟨10,_,rfl,rfl,rfl⟩,trivial⟩ rfl rfl (dV rfl (λ _=>rfl)) (lt2 (λ h=>absurd h (by decide)) (λ _=>rfl)) (λ sl hsl K hK=>af rfl (dl (eL ae) out12 r18 rfl rfl rfl rfl rfl rfl rfl rfl (hsl _ _ rfl) rfl rfl (hsl _ _ rfl) rfl (λ _=>rfl) rfl rfl rfl rfl hk20 hK)) ?_)
  refine fv (λ _=>.vec 31 1 0 ((out12++r18).map (eL ae))) [(31,_)] rfl ⟨.inr ⟨11,_,rfl,rfl,rfl⟩,trivial⟩ rfl rfl (λ _=>rfl) (lt2 (λ h=>absurd h (by decide)) (λ h=>absurd h (by decide))) (λ sl hsl K hK=>af rfl (bw rfl rfl rfl (hsl _ _ rfl) hK)) (hC ?_)
  refine nx 3 rfl (oA h1 rfl rfl λ hk21 h1=>?_)
  exact nx 2 rfl (eX (out12++r18,i13+1) h1 (gE rfl rfl))
 exact nx 2 rfl (eXi _ (oi h1).symm (gE rfl rfl))
def g7 (n:Nat)(v_0:ab):Option (List (List aa)) :=
 (de n v_0 []).bind λ r1 =>
 some r1
theorem kG (n:Nat)(v_0:ab)(r:(List (List aa)))(h0:g7 n v_0=some r):au Tryz.prog 34 [.agg (ab.cs v_0)] (·=.p (eL (eL ae) r)):=by
 unfold g7 at h0
 refine aH good Tryz.func34 rfl rfl rfl λ w0=>mP (λ v:(List (List aa))=>.p (eL (eL ae) v)) ?_
 refine nx 8 rfl (bd h0 λ r1 e2 h0=>?_)
 refine oK (pf _ v_0 [] _ e2) rfl ⟨sr,dm _,trivial⟩ Tryz.call64 rfl (nx 3 rfl ?_)
 exact mQ (oi h0) rfl (sr)
def ia (p_0:List aa)(v_1:ab)(n_2:Int):Option (List aa) :=
 (
   if v_1.fKind=5 then
    ck ((0:Int)≤n_2∧n_2 < (v_1.fKeys.length:Int)) <|
    some (false,0,lat v_1.fKeys n_2)
   else
    some (true,n_2,([]:Bytes))
  : Option (Bool×Int×Bytes)).bind λ q9 =>
 (aZ p_0).bind λ r6 =>
 ck ((r6.length+[(aa.mk q9.1 q9.2.1 q9.2.2)].length)*32≤140737488355328) <|
 some (r6++[(aa.mk q9.1 q9.2.1 q9.2.2)])
theorem iA (p_0:List aa)(v_1:ab)(n_2:Int)(r:(List aa))(h0:ia p_0 v_1 n_2=some r):au Tryz.prog 86 [eL ae p_0,.agg (ab.cs v_1),eI n_2] (·=.p (eL ae r)):=by
 unfold ia at h0
 refine aH good Tryz.func86 rfl rfl rfl λ w0=>mP (λ v:(List aa)=>.p (eL ae v)) ?_
 refine nx 13 rfl (bd h0 λ o10 h1 h0=>?_)
 refine kN o10 (λ v11=>⟨[(0,.p (eL ae p_0)),(7,.ptr 7 0)],[(7,[.p (eB v11.1),.p (eI v11.2.1),.p (eS v11.2.2)])]⟩) ?_ ?_
 ·refine nx 2 rfl (bd h0 λ r6 e7 h0=>?_)
  refine cc' h0 λ hk8 h0=>mG (gE (t:=⟨[(0,.p (eL ae p_0)),(7,.ptr 7 0)],[(7,[.p (eB o10.1),.p (eI o10.2.1),.p (eS o10.2.2)])]⟩) rfl rfl) (mS ⟨2,[1,4],(by3 (.some (cz [] 101000 101001)) (.some λ i=>Nat.beq i 101000||Nat.beq i 23) .none),(λ _=>[(0,.p (eL ae p_0)),(7,.ptr 7 0)]),(λ _=>[(7,[.p (eB o10.1),.p (eI o10.2.1),.p (eS o10.2.2)])])⟩ rfl rfl rfl ⟨rfl,rfl,trivial⟩ (lt2 ⟨rfl,rfl,trivial⟩ ⟨rfl,rfl,trivial⟩) rfl rfl rfl rfl ?_)
  refine ap (λ _=>.p (eL ae p_0)) rfl rfl rfl (bc rfl rfl (λ _=>rfl)) (lt2 rfl rfl) (ar rfl (ar rfl (ag [(0,_)] ⟨.inl rfl,trivial⟩ (λ sl hsl K hK=>af rfl (aI rfl rfl rfl (hsl _ _ rfl) hK)) ao))) (fv (by3 (.vec 101000 3 0 (r6.map ae)) (.vec 101000 3 0 (r6.map ae)) (.p (eL ae r6))) [(19,_)] rfl ⟨.inr ⟨0,_,rfl,rfl,rfl⟩,trivial⟩ rfl rfl (dV rfl (λ _=>rfl)) (lt2 (λ h=>absurd h (by decide)) (λ _=>rfl)) (λ sl hsl K hK=>af rfl (br [] [] 101000 101001 (bX p_0 _ e7) rfl rfl rfl (aj (hsl _ _ rfl) aE) rfl ⟨sr,trivial⟩ rfl rfl trivial rfl rfl rfl rfl rfl rfl rfl rfl Tryz.call85 rfl rfl hK)) ?_)
  refine ap (λ _=>.p (.agg [eB o10.1,eI o10.2.1,eS o10.2.2])) rfl rfl rfl (bc rfl rfl (λ _=>rfl)) (lt2 rfl rfl) (ag [(7,_)] ⟨.inl rfl,trivial⟩ (λ sl hsl K hK=>af rfl (bg rfl rfl rfl rfl rfl (hsl _ _ rfl) rfl rfl rfl hK)) (ag [(7,_)] ⟨.inl rfl,trivial⟩ (λ sl hsl K hK=>af rfl (bg rfl rfl rfl rfl rfl (hsl _ _ rfl) rfl rfl rfl hK)) (ag [(7,_)] ⟨.inl rfl,trivial⟩ (λ sl hsl K hK=>af rfl (bg rfl rfl rfl rfl rfl (hsl _ _ rfl) rfl rfl rfl hK)) ao))) (ap (λ _=>.p (eL ae [(aa.mk o10.1 o10.2.1 o10.2.2)])) rfl rfl rfl (bc rfl rfl (λ _=>rfl)) (lt2 rfl rfl) (ar rfl (ag [(21,_)] ⟨.inr ⟨2,_,rfl,rfl,rfl⟩,trivial⟩ (λ sl hsl K hK=>af rfl (aV ae [(aa.mk o10.1 o10.2.1 o10.2.2)] rfl rfl rfl rfl rfl rfl (dO (hsl _ _ rfl) rfl gH) rfl rfl rfl rfl rfl rfl (by first | rfl | (simp only [List.map_cons,List.map_nil,aa.agg_eq]; done) | (simp only [List.map_cons,List.map_nil,aa.agg_eq]; rfl)) hK)) (ag [(21,_)] ⟨.inr ⟨2,_,rfl,rfl,rfl⟩,trivial⟩ (λ sl hsl K hK=>af rfl (aV ae [(aa.mk o10.1 o10.2.1 o10.2.2)] rfl rfl rfl rfl rfl rfl (dO (hsl _ _ rfl) rfl gH) rfl rfl rfl rfl rfl rfl (by first | rfl | (simp only [List.map_cons,List.map_nil,aa.agg_eq]; done) | (simp only [List.map_cons,List.map_nil,aa.agg_eq]; rfl)) hK)) ao))) ?_)
  refine fv (λ _=>.vec 23 3 0 ((r6++[(aa.mk o10.1 o10.2.1 o10.2.2)]).map ae)) [(20,_),(22,_)] rfl ⟨.inr ⟨1,_,rfl,rfl,rfl⟩,.inr ⟨3,_,rfl,rfl,rfl⟩,trivial⟩ rfl rfl (λ _=>rfl) (lt2 (λ h=>absurd h (by decide)) (λ h=>absurd h (by decide))) (λ sl hsl K hK=>af rfl (dl ae r6 [(aa.mk o10.1 o10.2.1 o10.2.2)] rfl rfl rfl rfl rfl rfl rfl rfl (hsl _ _ rfl) rfl rfl (hsl _ _ rfl) rfl (λ x=>congrArg List.length (aa.cells_eq x)) rfl rfl rfl rfl hk8 hK)) (xj (λ _=>.vec 23 3 0 ((r6++[(aa.mk o10.1 o10.2.1 o10.2.2)]).map ae)) rfl rfl rfl (bc rfl rfl (λ _=>rfl)) (lt2 (λ _=>rfl) (nl rfl)) (ag [(23,_)] ⟨.inr ⟨4,_,rfl,rfl,rfl⟩,trivial⟩ (λ sl hsl K hK=>af rfl (bw rfl rfl rfl (hsl _ _ rfl) hK)) (ar rfl (ar rfl ao))) ?_)
  refine hC (nx 2 rfl ?_)
  exact mQ (oi h0) rfl (AV.sub_vec _ _ _ _)
 refine nx 6 rfl (fD [12] h1 rfl (λ c1 h1=>?_) λ c1 h1=>?_)
 ·refine nx 5 rfl (oE h1 (λ _=>rfl) rfl rfl (λ _=>rfl) λ hk2 h1=>?_)
  exact nx 4 rfl (eX _ (oi h1).symm (gE rfl rfl))
 exact nx 2 rfl (eX _ (oi h1).symm (gE rfl rfl))
def bE (r_path_differences:(List aa)→ab→ab→Option (List (List aa)))(p_0:List aa)(a_1:ab)(b_2:ab):Nat→(List (List aa))→Int→Option (List (List aa))
 | 0,_,_=>none
 | m+1,out28,t29 =>
 if t29 < (a_1.fItems.length:Int) then
  (ia p_0 a_1 t29).bind λ r31 =>
  ck ((0:Int)≤t29∧t29 < (a_1.fItems.length:Int)) <|
  ck ((0:Int)≤t29∧t29 < (b_2.fItems.length:Int)) <|
  (r_path_differences r31 (lat a_1.fItems t29) (lat b_2.fItems t29)).bind λ r35 =>
  ck ((out28.length+r35.length)*24≤140737488355328) <|
  ck (inR (t29+1)) <|
  bE r_path_differences p_0 a_1 b_2 m (out28++r35) (t29+1)
 else
  some out28
def bR:Nat→(List aa)→ab→ab→Option (List (List aa))
 | 0,_,_,_=>none
 | n+1,p_0,a_1,b_2 =>
 (eG n a_1 b_2).bind λ r1 =>
 if r1=true then
  some []
 else
  (
    if a_1.fKind=b_2.fKind then
     if a_1.fKind=4 then
      if (a_1.fItems.length:Int)=(b_2.fItems.length:Int) then
       (ba n a_1.fKeys b_2.fKeys).bind λ r7 =>
       some r7
      else
       some false
     else
      if a_1.fKind=5 then
       if (a_1.fItems.length:Int)=(b_2.fItems.length:Int) then
        (ba n a_1.fKeys b_2.fKeys).bind λ r11 =>
        some r11
       else
        some false
      else
       some false
    else
     some false
   : Option Bool).bind λ inner13 =>
  if (!inner13)=true then
   (aZ p_0).bind λ r15 =>
   some [r15]
  else
   (bE (bR n) p_0 a_1 b_2 n [] 0).bind λ out41 =>
   some out41
theorem l8 (n:Nat):∀ (p_0:List aa) (a_1:ab) (b_2:ab) (r:(List (List aa))),bR n p_0 a_1 b_2=some r→au Tryz.prog 62 [eL ae p_0,.agg (ab.cs a_1),.agg (ab.cs b_2)] (·=.p (eL (eL ae) r)):=by
 induction n with
 | zero=>intro p_0 a_1 b_2 r h0; cases h0
 | succ n ih =>
 have ih_path_differences_ok:=ih
 intro p_0 a_1 b_2 r h0
 rw [bR] at h0
 refine aH good Tryz.func62 rfl rfl rfl λ w0=>mP (λ v:(List (List aa))=>.p (eL (eL ae) v)) ?_
 refine nx 11 rfl (bd h0 λ r1 e2 h0=>?_)
 refine oK (qk _ a_1 b_2 _ e2) rfl ⟨sr,sr,trivial⟩ Tryz.call29 rfl (nx 1 rfl ?_)
 refine fB [12] h0 rfl (λ c3 h0=>?_) λ c3 h0=>?_
 ·exact nx 6 rfl (mQ (oi h0) rfl (dm _))
 refine nx 3 rfl (bd h0 λ o44 h1 h0=>?_)
 refine kN o44 (λ v45=>⟨[(0,.p (eL ae p_0)),(4,.ptr 4 0),(5,.ptr 5 0),(7,.p (eB v45))],[(4,(ab.cs a_1).map .p),(5,(ab.cs b_2).map .p)]⟩) ?_ ?_
 ·refine nx 7 rfl (fB [45] h0 rfl (λ c14 h0=>?_) λ c14 h0=>?_)
  ·refine nx 4 rfl (bd h0 λ r15 e16 h0=>?_)
   refine mO rfl (br [] [] 101000 101001 (bX p_0 _ e16) rfl rfl rfl rfl rfl ⟨sr,trivial⟩ rfl rfl trivial rfl rfl rfl rfl rfl rfl rfl rfl Tryz.call85 rfl rfl ?_)
   refine mG (ii 47 (y:=.p (eL ae r15)) rfl (AV.sub_vec _ _ _ _)) (mO rfl (aV (eL ae) [r15] rfl rfl rfl rfl rfl rfl rfl rfl rfl rfl rfl rfl rfl rfl ?_))
   exact nx 3 rfl (mQ (oi h0) rfl (sr))
  refine nx 11 rfl (oLl (f:=ah) rfl rfl ?_)
  refine nx 3 rfl (bd h0 λ o46 h1 h0=>?_)
  refine kE 0 o46 (λ v47=>⟨[(8,.vec 71 1 0 (v47.map (eL ae)))],[]⟩) ?_ ?_
  ·exact nx 7 rfl (mQ (oi h0) rfl (AV.sub_vec _ _ _ _))
  refine lG (λ (q48:(List (List aa))×Int)=>⟨[(0,.p (eL ae p_0)),(4,.ptr 4 0),(5,.ptr 5 0),(8,.vec 71 1 0 (q48.1.map (eL ae))),(51,.p (eI (a_1.fItems.length:Int))),(52,.p (eI q48.2))],[(4,(ab.cs a_1).map .p),(5,(ab.cs b_2).map .p)]⟩) (λ m (q48:(List (List aa))×Int)=>bE (bR n) p_0 a_1 b_2 m q48.1 q48.2) (λ _=>rfl) ([],0) h1 (cj (gX ⟨er rfl,er rfl,er rfl,⟨_,rfl,AV.sub_nilvec _ _ _⟩,er rfl,er rfl,trivial⟩ ⟨⟨_,rfl,⟨sr,sr,sr,sr,sr,trivial⟩⟩,⟨_,rfl,⟨sr,sr,sr,sr,sr,trivial⟩⟩,trivial⟩)) ?_
  rintro m ⟨out28,t29⟩ h1
  replace h1:bE (bR n) p_0 a_1 b_2 (m+1) out28 t29=some o46:=h1
  rw [bE] at h1
  refine nx 5 rfl (fD [53] h1 rfl (λ c30 h1=>?_) λ c30 h1=>?_)
  ·refine nx 9 rfl (bd h1 λ r31 e32 h1=>?_)
   refine cc' h1 λ hk33 h1=>cc' h1 λ hk34 h1=>bd h1 λ r35 e36 h1=>cc' h1 λ hk37 h1=>mG (gE (t:=⟨[(0,.p (eL ae p_0)),(4,.ptr 4 0),(5,.ptr 5 0),(8,.vec 71 1 0 (out28.map (eL ae))),(9,.p (eI t29)),(51,.p (eI (a_1.fItems.length:Int))),(52,.p (eI t29))],[(4,(ab.cs a_1).map .p),(5,(ab.cs b_2).map .p)]⟩) rfl rfl) (mS ⟨2,[16,17],(by3 (.some λ i=>Nat.beq i 71||Nat.beq i 71) .none .none),(by3 [(0,.p (eL ae p_0)),(4,.ptr 4 0),(5,.ptr 5 0),(8,.vec 71 1 0 (out28.map (eL ae))),(9,.p (eI t29)),(51,.p (eI (a_1.fItems.length:Int))),(52,.p (eI t29))] [(0,.p (eL ae p_0)),(4,.ptr 4 0),(5,.ptr 5 0),(8,.p (eL (eL ae) out28)),(9,.p (eI t29)),(51,.p (eI (a_1.fItems.length:Int))),(52,.p (eI t29))] [(0,.p (eL ae p_0)),(4,.ptr 4 0),(5,.ptr 5 0),(9,.p (eI t29)),(51,.p (eI (a_1.fItems.length:Int))),(52,.p (eI t29))]),(λ _=>[(4,[.p (eI a_1.fKind),.p (eI a_1.fNum),.p (eS a_1.fStr),.p (eL ah a_1.fItems),.p (eL eS a_1.fKeys)]),(5,[.p (eI b_2.fKind),.p (eI b_2.fNum),.p (eS b_2.fStr),.p (eL ah b_2.fItems),.p (eL eS b_2.fKeys)])])⟩ rfl rfl rfl ⟨rfl,rfl,rfl,rfl,rfl,rfl,rfl,trivial⟩ (lt2 ⟨rfl,rfl,rfl,rfl,rfl,rfl,rfl,trivial⟩ ⟨rfl,rfl,rfl,rfl,rfl,rfl,trivial⟩) rfl rfl rfl rfl ?_)
   refine ap (by3 (.vec 71 1 0 (out28.map (eL ae))) (.p (eL (eL ae) out28)) (.p (eL (eL ae) out28))) rfl rfl rfl (bc rfl rfl (λ _=>rfl)) (lt2 rfl rfl) (ar rfl (ar rfl (ag [(8,_)] ⟨.inl rfl,trivial⟩ (λ sl hsl K hK=>af rfl (aI rfl rfl rfl (hsl _ _ rfl) hK)) ao))) (ap (λ _=>.p (eL ae p_0)) rfl rfl rfl (bc rfl rfl (λ _=>rfl)) (lt2 rfl rfl) (ar rfl (ag [(0,_)] ⟨.inl rfl,trivial⟩ (λ sl hsl K hK=>af rfl (aI rfl rfl rfl (hsl _ _ rfl) hK)) (ag [(0,_)] ⟨.inl rfl,trivial⟩ (λ sl hsl K hK=>af rfl (aI rfl rfl rfl (hsl _ _ rfl) hK)) ao))) ?_)
   refine ap (λ _=>.p (.agg (ab.cs a_1))) rfl rfl rfl (bc rfl rfl (λ _=>rfl)) (lt2 rfl rfl) (ar rfl (ag [(4,_)] ⟨.inl rfl,trivial⟩ (λ sl hsl K hK=>af rfl (bg rfl rfl rfl rfl rfl (hsl _ _ rfl) rfl rfl rfl hK)) (ag [(4,_)] ⟨.inl rfl,trivial⟩ (λ sl hsl K hK=>af rfl (bg rfl rfl rfl rfl rfl (hsl _ _ rfl) rfl rfl rfl hK)) ao))) (ap (λ _=>.p (eI t29)) rfl rfl rfl (bc rfl rfl (λ _=>rfl)) (lt2 rfl rfl) (ar rfl (ag [(9,_)] ⟨.inl rfl,trivial⟩ (λ sl hsl K hK=>af rfl (aI rfl rfl rfl (hsl _ _ rfl) hK)) (ag [(9,_)] ⟨.inl rfl,trivial⟩ (λ sl hsl K hK=>af rfl (aI rfl rfl rfl (hsl _ _ rfl) hK)) ao))) ?_)
   refine ap (λ _=>.p (eL ae r31)) rfl rfl rfl (bc rfl rfl (λ _=>rfl)) (lt2 rfl rfl) (ar rfl (ag [(56,_),(57,_),(58,_)] ⟨.inr ⟨1,_,rfl,rfl,rfl⟩,.inr ⟨2,_,rfl,rfl,rfl⟩,.inr ⟨3,_,rfl,rfl,rfl⟩,trivial⟩ (λ sl hsl K hK=>af rfl (aF (iA p_0 a_1 t29 _ e32) rfl rfl rfl (aj (hsl _ _ rfl) (aj (hsl _ _ rfl) (aj (hsl _ _ rfl) aE))) ⟨sr,sr,sr,trivial⟩ Tryz.call86 rfl hK)) (ag [(56,_),(57,_),(58,_)] ⟨.inr ⟨1,_,rfl,rfl,rfl⟩,.inr ⟨2,_,rfl,rfl,rfl⟩,.inr ⟨3,_,rfl,rfl,rfl⟩,trivial⟩ (λ sl hsl K hK=>af rfl (aF (iA p_0 a_1 t29 _ e32) rfl rfl rfl (aj (hsl _ _ rfl) (aj (hsl _ _ rfl) (aj (hsl _ _ rfl) aE))) ⟨sr,sr,sr,trivial⟩ Tryz.call86 rfl hK)) ao))) (ap (λ _=>.ptr 4 3) rfl rfl rfl (bc rfl rfl (λ _=>rfl)) (lt2 rfl rfl) (ar rfl (ag [(4,_)] ⟨.inl rfl,trivial⟩ (λ sl hsl K hK=>af rfl (bs rfl rfl rfl rfl rfl rfl rfl rfl (hsl _ _ rfl) hK)) (ag [(4,_)] ⟨.inl rfl,trivial⟩ (λ sl hsl K hK=>af rfl (bs rfl rfl rfl rfl rfl rfl rfl rfl (hsl _ _ rfl) hK)) ao))) ?_)
   refine ap (λ _=>.p (eL ah a_1.fItems)) rfl rfl rfl (bc rfl rfl (λ _=>rfl)) (lt2 rfl rfl) (ar rfl (ag [(60,_)] ⟨.inr ⟨5,_,rfl,rfl,rfl⟩,trivial⟩ (λ sl hsl K hK=>af rfl (cD rfl rfl rfl rfl rfl (hsl _ _ rfl) rfl rfl hK)) (ag [(60,_)] ⟨.inr ⟨5,_,rfl,rfl,rfl⟩,trivial⟩ (λ sl hsl K hK=>af rfl (cD rfl rfl rfl rfl rfl (hsl _ _ rfl) rfl rfl hK)) ao))) (ap (λ _=>.p (eI t29)) rfl rfl rfl (bc rfl rfl (λ _=>rfl)) (lt2 rfl rfl) (ar rfl (ag [(9,_)] ⟨.inl rfl,trivial⟩ (λ sl hsl K hK=>af rfl (aI rfl rfl rfl (hsl _ _ rfl) hK)) (ag [(9,_)] ⟨.inl rfl,trivial⟩ (λ sl hsl K hK=>af rfl (aI rfl rfl rfl (hsl _ _ rfl) hK)) ao))) ?_)
   refine ap (λ _=>.rptr (ab.cs (lat a_1.fItems t29))) rfl rfl rfl (bc rfl rfl (λ _=>rfl)) (lt2 rfl rfl) (ar rfl (ag [(61,_),(62,_)] ⟨.inr ⟨6,_,rfl,rfl,rfl⟩,.inr ⟨7,_,rfl,rfl,rfl⟩,trivial⟩ (λ sl hsl K hK=>af rfl (dQ (f:=ah) (l:=a_1.fItems) ab.cs rfl rfl rfl rfl rfl rfl (hsl _ _ rfl) rfl (hsl _ _ rfl) hk33 ab.cells_eq (λ _=>rfl) hK)) (ag [(61,_),(62,_)] ⟨.inr ⟨6,_,rfl,rfl,rfl⟩,.inr ⟨7,_,rfl,rfl,rfl⟩,trivial⟩ (λ sl hsl K hK=>af rfl (dQ (f:=ah) (l:=a_1.fItems) ab.cs rfl rfl rfl rfl rfl rfl (hsl _ _ rfl) rfl (hsl _ _ rfl) hk33 ab.cells_eq (λ _=>rfl) hK)) ao))) (ap (λ _=>.p (.agg (ab.cs (lat a_1.fItems t29)))) rfl rfl rfl (bc rfl rfl (λ _=>rfl)) (lt2 rfl rfl) (ar rfl (ag [(63,_)] ⟨.inr ⟨8,_,rfl,rfl,rfl⟩,trivial⟩ (λ sl hsl K hK=>af rfl (dZ rfl rfl rfl rfl rfl (hsl _ _ rfl) rfl hK)) (ag [(63,_)] ⟨.inr ⟨8,_,rfl,rfl,rfl⟩,trivial⟩ (λ sl hsl K hK=>af rfl (dZ rfl rfl rfl rfl rfl (hsl _ _ rfl) rfl hK)) ao))) ?_)
   refine ap (λ _=>.ptr 5 3) rfl rfl rfl (bc rfl rfl (λ _=>rfl)) (lt2 rfl rfl) (ar rfl (ag [(5,_)] ⟨.inl rfl,trivial⟩ (λ sl hsl K hK=>af rfl (bs rfl rfl rfl rfl rfl rfl rfl rfl (hsl _ _ rfl) hK)) (ag [(5,_)] ⟨.inl rfl,trivial⟩ (λ sl hsl K hK=>af rfl (bs rfl rfl rfl rfl rfl rfl rfl rfl (hsl _ _ rfl) hK)) ao))) (ap (λ _=>.p (eL ah b_2.fItems)) rfl rfl rfl (bc rfl rfl (λ _=>rfl)) (lt2 rfl rfl) (ar rfl (ag [(65,_)] ⟨.inr ⟨10,_,rfl,rfl,rfl⟩,trivial⟩ (λ sl hsl K hK=>af rfl (cD rfl rfl rfl rfl rfl (hsl _ _ rfl) rfl rfl hK)) (ag [(65,_)] ⟨.inr ⟨10,_,rfl,rfl,rfl⟩,trivial⟩ (λ sl hsl K hK=>af rfl (cD rfl rfl rfl rfl rfl (hsl _ _ rfl) rfl rfl hK)) ao))) ?_)
   refine ap (λ _=>.p (eI t29)) rfl rfl rfl (bc rfl rfl (λ _=>rfl)) (lt2 rfl rfl) (ar rfl (ag [(9,_)] ⟨.inl rfl,trivial⟩ (λ sl hsl K hK=>af rfl (aI rfl rfl rfl (hsl _ _ rfl) hK)) (ag [(9,_)] ⟨.inl rfl,trivial⟩ (λ sl hsl K hK=>af rfl (aI rfl rfl rfl (hsl _ _ rfl) hK)) ao))) (ap (λ _=>.rptr (ab.cs (lat b_2.fItems t29))) rfl rfl rfl (bc rfl rfl (λ _=>rfl)) (lt2 rfl rfl) (ar rfl (ag [(66,_),(67,_)] ⟨.inr ⟨11,_,rfl,rfl,rfl⟩,.inr ⟨12,_,rfl,rfl,rfl⟩,trivial⟩ (λ sl hsl K hK=>af rfl (dQ (f:=ah) (l:=b_2.fItems) ab.cs rfl rfl rfl rfl rfl rfl (hsl _ _ rfl) rfl (hsl _ _ rfl) hk34 ab.cells_eq (λ _=>rfl) hK)) (ag [(66,_),(67,_)] ⟨.inr ⟨11,_,rfl,rfl,rfl⟩,.inr ⟨12,_,rfl,rfl,rfl⟩,trivial⟩ (λ sl hsl K hK=>af rfl (dQ (f:=ah) (l:=b_2.fItems) ab.cs rfl rfl rfl rfl rfl rfl (hsl _ _ rfl) rfl (hsl _ _ rfl) hk34 ab.cells_eq (λ _=>rfl) hK)) ao))) ?_)
   refine ap (λ _=>.p (.agg (ab.cs (lat b_2.fItems t29)))) rfl rfl rfl (bc rfl rfl (λ _=>rfl)) (lt2 rfl rfl) (ar rfl (ag [(68,_)] ⟨.inr ⟨13,_,rfl,rfl,rfl⟩,trivial⟩ (λ sl hsl K hK=>af rfl (dZ rfl rfl rfl rfl rfl (hsl _ _ rfl) rfl hK)) (ag [(68,_)] ⟨.inr ⟨13,_,rfl,rfl,rfl⟩,trivial⟩ (λ sl hsl K hK=>af rfl (dZ rfl rfl rfl rfl rfl (hsl _ _ rfl) rfl hK)) ao))) (ap (λ _=>.p (eL (eL ae) r35)) rfl rfl rfl (bc rfl rfl (λ _=>rfl)) (lt2 rfl rfl) (ar rfl (ar rfl (ag [(59,_),(64,_),(69,_)] ⟨.inr ⟨4,_,rfl,rfl,rfl⟩,.inr ⟨9,_,rfl,rfl,rfl⟩,.inr ⟨14,_,rfl,rfl,rfl⟩,trivial⟩ (λ sl hsl K hK=>af rfl (aF (ih_path_differences_ok r31 (lat a_1.fItems t29) (lat b_2.fItems t29) _ e36) rfl rfl rfl (aj (hsl _ _ rfl) (aj (hsl _ _ rfl) (aj (hsl _ _ rfl) aE))) ⟨sr,sr,sr,trivial⟩ Tryz.call62 rfl hK)) ao))) ?_)
   refine fv (λ _=>.vec 71 1 0 ((out28++r35).map (eL ae))) [(55,_),(70,_)] rfl ⟨.inr ⟨0,_,rfl,rfl,rfl⟩,.inr ⟨15,_,rfl,rfl,rfl⟩,trivial⟩ rfl rfl (dV rfl (λ _=>rfl)) (lt2 (λ h=>absurd h (by decide)) (λ _=>rfl)) (λ sl hsl K hK=>af rfl (dl (eL ae) out28 r35 rfl rfl rfl rfl rfl rfl rfl rfl (hsl _ _ rfl) rfl rfl (hsl _ _ rfl) rfl (λ _=>rfl) rfl rfl rfl rfl hk37 hK)) (fv (λ _=>.vec 71 1 0 ((out28++r35).map (eL ae))) [(71,_)] rfl ⟨.inr ⟨16,_,rfl,rfl,rfl⟩,trivial⟩ rfl rfl (λ _=>rfl) (lt2 (λ h=>absurd h (by decide)) (λ h=>absurd h (by decide))) (λ sl hsl K hK=>af rfl (bw rfl rfl rfl (hsl _ _ rfl) hK)) ?_)
   refine hC (nx 2 rfl ?_)
   exact oA h1 rfl rfl λ hk38 h1=>nx 2 rfl (eX (out28++r35,t29+1) h1 (gE rfl rfl))
  exact nx 2 rfl (eXi _ (oi h1).symm (gE rfl rfl))
 refine nx 7 rfl (fD [17,18] h1 rfl (λ c4 h1=>?_) λ c4 h1=>?_)
 ·refine nx 4 rfl (fD [21,22] h1 rfl (λ c5 h1=>?_) λ c5 h1=>?_)
  ·refine nx 8 rfl (oLl (f:=ah) rfl rfl ?_)
   refine nx 2 rfl (oLl (f:=ah) rfl rfl ?_)
   refine nx 3 rfl (fD [35,36,37] h1 rfl (λ c6 h1=>?_) λ c6 h1=>?_)
   ·refine nx 4 rfl (bd h1 λ r7 e8 h1=>?_)
    refine oK (dC _ a_1.fKeys b_2.fKeys _ e8) rfl ⟨sr,sr,trivial⟩ Tryz.call60 rfl (nx 3 rfl ?_)
    exact eX _ (oi h1).symm (gE rfl rfl)
   exact nx 8 rfl (eX _ (oi h1).symm (gE rfl rfl))
  refine nx 6 rfl (fD [25,26,27,28] h1 rfl (λ c9 h1=>?_) λ c9 h1=>?_)
  ·refine nx 2 rfl (oLl (f:=ah) rfl rfl ?_)
   refine nx 2 rfl (oLl (f:=ah) rfl rfl ?_)
   refine nx 3 rfl (fD [35,36,37] h1 rfl (λ c10 h1=>?_) λ c10 h1=>?_)
   ·refine nx 4 rfl (bd h1 λ r11 e12 h1=>?_)
    refine oK (dC _ a_1.fKeys b_2.fKeys _ e12) rfl ⟨sr,sr,trivial⟩ Tryz.call60 rfl (nx 3 rfl ?_)
    exact eX _ (oi h1).symm (gE rfl rfl)
   exact nx 8 rfl (eX _ (oi h1).symm (gE rfl rfl))
  exact nx 17 rfl (eX _ (oi h1).symm (gE rfl rfl))
 exact nx 27 rfl (eX _ (oi h1).symm (gE rfl rfl))
def j8 (n:Nat)(a_0:ab)(b_1:ab):Option (List (List aa)) :=
 (bR n [] a_0 b_1).bind λ r1 =>
 some r1
theorem kj (n:Nat)(a_0:ab)(b_1:ab)(r:(List (List aa)))(h0:j8 n a_0 b_1=some r):au Tryz.prog 31 [.agg (ab.cs a_0),.agg (ab.cs b_1)] (·=.p (eL (eL ae) r)):=by
 unfold j8 at h0
 refine aH good Tryz.func31 rfl rfl rfl λ w0=>mP (λ v:(List (List aa))=>.p (eL (eL ae) v)) ?_
 refine nx 10 rfl (bd h0 λ r1 e2 h0=>?_)
 refine oK (l8 _ [] a_0 b_1 _ e2) rfl ⟨dm _,sr,sr,trivial⟩ Tryz.call62 rfl (nx 3 rfl ?_)
 exact mQ (oi h0) rfl (sr)
def cG (r_path_leaves:(List aa)→ab→Option (List (List aa)))(p_0:List aa)(v_1:ab):Nat→(List (List aa))→Int→Option (List (List aa))
 | 0,_,_=>none
 | m+1,out14,t15 =>
 if t15 < (v_1.fItems.length:Int) then
  ck ((0:Int)≤t15∧t15 < (v_1.fItems.length:Int)) <|
  (ia p_0 v_1 t15).bind λ r18 =>
  (r_path_leaves r18 (lat v_1.fItems t15)).bind λ r20 =>
  ck ((out14.length+r20.length)*24≤140737488355328) <|
  ck (inR (t15+1)) <|
  cG r_path_leaves p_0 v_1 m (out14++r20) (t15+1)
 else
  some out14
def dD:Nat→(List aa)→ab→Option (List (List aa))
 | 0,_,_=>none
 | n+1,p_0,v_1 =>
 if (v_1.fItems.length:Int)=0 then
  (aZ p_0).bind λ r2 =>
  some [r2]
 else
  (cG (dD n) p_0 v_1 n [] 0).bind λ out26 =>
  some out26
theorem qc (n:Nat):∀ (p_0:List aa) (v_1:ab) (r:(List (List aa))),dD n p_0 v_1=some r→au Tryz.prog 59 [eL ae p_0,.agg (ab.cs v_1)] (·=.p (eL (eL ae) r)):=by
 induction n with
 | zero=>intro p_0 v_1 r h0; cases h0
 | succ n ih =>
 have ih_path_leaves_ok:=ih
 intro p_0 v_1 r h0
 rw [dD] at h0
 refine aH good Tryz.func59 rfl rfl rfl λ w0=>mP (λ v:(List (List aa))=>.p (eL (eL ae) v)) ?_
 refine nx 10 rfl (oLl (f:=ah) rfl rfl ?_)
 refine nx 2 rfl (fD [11] h0 rfl (λ c1 h0=>?_) λ c1 h0=>?_)
 ·refine nx 4 rfl (bd h0 λ r2 e3 h0=>?_)
  refine mO rfl (br [] [] 101000 101001 (bX p_0 _ e3) rfl rfl rfl rfl rfl ⟨sr,trivial⟩ rfl rfl trivial rfl rfl rfl rfl rfl rfl rfl rfl Tryz.call85 rfl rfl ?_)
  refine mG (ii 13 (y:=.p (eL ae r2)) rfl (AV.sub_vec _ _ _ _)) (mO rfl (aV (eL ae) [r2] rfl rfl rfl rfl rfl rfl rfl rfl rfl rfl rfl rfl rfl rfl ?_))
  exact nx 3 rfl (mQ (oi h0) rfl (sr))
 refine nx 11 rfl (oLl (f:=ah) rfl rfl ?_)
 refine nx 3 rfl (bd h0 λ o28 h1 h0=>?_)
 refine kE 0 o28 (λ v29=>⟨[(5,.vec 30 1 0 (v29.map (eL ae)))],[]⟩) ?_ ?_
 ·exact nx 7 rfl (mQ (oi h0) rfl (AV.sub_vec _ _ _ _))
 refine lG (λ (q30:(List (List aa))×Int)=>⟨[(0,.p (eL ae p_0)),(3,.ptr 3 0),(5,.vec 30 1 0 (q30.1.map (eL ae))),(16,.p (eL ah v_1.fItems)),(17,.p (eI (v_1.fItems.length:Int))),(18,.p (eI q30.2))],[(3,(ab.cs v_1).map .p)]⟩) (λ m (q30:(List (List aa))×Int)=>cG (dD n) p_0 v_1 m q30.1 q30.2) (λ _=>rfl) ([],0) h1 (cj (gX ⟨er rfl,er rfl,⟨_,rfl,AV.sub_nilvec _ _ _⟩,er rfl,er rfl,er rfl,trivial⟩ ⟨⟨_,rfl,⟨sr,sr,sr,sr,sr,trivial⟩⟩,trivial⟩)) ?_
 rintro m ⟨out14,t15⟩ h1
 replace h1:cG (dD n) p_0 v_1 (m+1) out14 t15=some o28:=h1
 rw [cG] at h1
 refine nx 5 rfl (fD [19] h1 rfl (λ c16 h1=>?_) λ c16 h1=>?_)
 ·refine nx 7 rfl (oE h1 ab.cells_eq rfl rfl (λ _=>rfl) λ hk17 h1=>?_)
  refine nx 5 rfl (bd h1 λ r18 e19 h1=>?_)
  refine bd h1 λ r20 e21 h1=>cc' h1 λ hk22 h1=>mG (gE (t:=⟨[(0,.p (eL ae p_0)),(3,.ptr 3 0),(5,.vec 30 1 0 (out14.map (eL ae))),(6,.p (eI t15)),(7,.ptr 7 0),(16,.p (eL ah v_1.fItems)),(17,.p (eI (v_1.fItems.length:Int))),(18,.p (eI t15))],[(3,(ab.cs v_1).map .p),(7,(ab.cs (lat v_1.fItems t15)).map .p)]⟩) rfl rfl) (mS ⟨2,[7,8],(by3 (.some λ i=>Nat.beq i 30||Nat.beq i 30) .none .none),(by3 [(0,.p (eL ae p_0)),(3,.ptr 3 0),(5,.vec 30 1 0 (out14.map (eL ae))),(6,.p (eI t15)),(7,.ptr 7 0),(16,.p (eL ah v_1.fItems)),(17,.p (eI (v_1.fItems.length:Int))),(18,.p (eI t15))] [(0,.p (eL ae p_0)),(3,.ptr 3 0),(5,.p (eL (eL ae) out14)),(6,.p (eI t15)),(7,.ptr 7 0),(16,.p (eL ah v_1.fItems)),(17,.p (eI (v_1.fItems.length:Int))),(18,.p (eI t15))] [(0,.p (eL ae p_0)),(3,.ptr 3 0),(6,.p (eI t15)),(7,.ptr 7 0),(16,.p (eL ah v_1.fItems)),(17,.p (eI (v_1.fItems.length:Int))),(18,.p (eI t15))]),(λ _=>[(3,[.p (eI v_1.fKind),.p (eI v_1.fNum),.p (eS v_1.fStr),.p (eL ah v_1.fItems),.p (eL eS v_1.fKeys)]),(7,[.p (eI ((lat v_1.fItems t15).fKind)),.p (eI ((lat v_1.fItems t15).fNum)),.p (eS ((lat v_1.fItems t15).fStr)),.p (eL ah ((lat v_1.fItems t15).fItems)),.p (eL eS ((lat v_1.fItems t15).fKeys))])])⟩ rfl rfl rfl ⟨rfl,rfl,rfl,rfl,rfl,rfl,rfl,rfl,trivial⟩ (lt2 ⟨rfl,rfl,rfl,rfl,rfl,rfl,rfl,rfl,trivial⟩ ⟨rfl,rfl,rfl,rfl,rfl,rfl,rfl,trivial⟩) rfl rfl rfl rfl ?_)
  refine ap (by3 (.vec 30 1 0 (out14.map (eL ae))) (.p (eL (eL ae) out14)) (.p (eL (eL ae) out14))) rfl rfl rfl (bc rfl rfl (λ _=>rfl)) (lt2 rfl rfl) (ar rfl (ar rfl (ag [(5,_)] ⟨.inl rfl,trivial⟩ (λ sl hsl K hK=>af rfl (aI rfl rfl rfl (hsl _ _ rfl) hK)) ao))) (ap (λ _=>.p (eL ae p_0)) rfl rfl rfl (bc rfl rfl (λ _=>rfl)) (lt2 rfl rfl) (ar rfl (ag [(0,_)] ⟨.inl rfl,trivial⟩ (λ sl hsl K hK=>af rfl (aI rfl rfl rfl (hsl _ _ rfl) hK)) (ag [(0,_)] ⟨.inl rfl,trivial⟩ (λ sl hsl K hK=>af rfl (aI rfl rfl rfl (hsl _ _ rfl) hK)) ao))) ?_)
  refine ap (λ _=>.p (.agg (ab.cs v_1))) rfl rfl rfl (bc rfl rfl (λ _=>rfl)) (lt2 rfl rfl) (ar rfl (ag [(3,_)] ⟨.inl rfl,trivial⟩ (λ sl hsl K hK=>af rfl (bg rfl rfl rfl rfl rfl (hsl _ _ rfl) rfl rfl rfl hK)) (ag [(3,_)] ⟨.inl rfl,trivial⟩ (λ sl hsl K hK=>af rfl (bg rfl rfl rfl rfl rfl (hsl _ _ rfl) rfl rfl rfl hK)) ao))) (ap (λ _=>.p (eI t15)) rfl rfl rfl (bc rfl rfl (λ _=>rfl)) (lt2 rfl rfl) (ar rfl (ag [(6,_)] ⟨.inl rfl,trivial⟩ (λ sl hsl K hK=>af rfl (aI rfl rfl rfl (hsl _ _ rfl) hK)) (ag [(6,_)] ⟨.inl rfl,trivial⟩ (λ sl hsl K hK=>af rfl (aI rfl rfl rfl (hsl _ _ rfl) hK)) ao))) ?_)
  refine ap (λ _=>.p (eL ae r18)) rfl rfl rfl (bc rfl rfl (λ _=>rfl)) (lt2 rfl rfl) (ar rfl (ag [(24,_),(25,_),(26,_)] ⟨.inr ⟨1,_,rfl,rfl,rfl⟩,.inr ⟨2,_,rfl,rfl,rfl⟩,.inr ⟨3,_,rfl,rfl,rfl⟩,trivial⟩ (λ sl hsl K hK=>af rfl (aF (iA p_0 v_1 t15 _ e19) rfl rfl rfl (aj (hsl _ _ rfl) (aj (hsl _ _ rfl) (aj (hsl _ _ rfl) aE))) ⟨sr,sr,sr,trivial⟩ Tryz.call86 rfl hK)) (ag [(24,_),(25,_),(26,_)] ⟨.inr ⟨1,_,rfl,rfl,rfl⟩,.inr ⟨2,_,rfl,rfl,rfl⟩,.inr ⟨3,_,rfl,rfl,rfl⟩,trivial⟩ (λ sl hsl K hK=>af rfl (aF (iA p_0 v_1 t15 _ e19) rfl rfl rfl (aj (hsl _ _ rfl) (aj (hsl _ _ rfl) (aj (hsl _ _ rfl) aE))) ⟨sr,sr,sr,trivial⟩ Tryz.call86 rfl hK)) ao))) (ap (λ _=>.p (.agg (ab.cs (lat v_1.fItems t15)))) rfl rfl rfl (bc rfl rfl (λ _=>rfl)) (lt2 rfl rfl) (ar rfl (ag [(7,_)] ⟨.inl rfl,trivial⟩ (λ sl hsl K hK=>af rfl (bg rfl rfl rfl rfl rfl (hsl _ _ rfl) rfl rfl rfl hK)) (ag [(7,_)] ⟨.inl rfl,trivial⟩ (λ sl hsl K hK=>af rfl (bg rfl rfl rfl rfl rfl (hsl _ _ rfl) rfl rfl rfl hK)) ao))) ?_)
  refine ap (λ _=>.p (eL (eL ae) r20)) rfl rfl rfl (bc rfl rfl (λ _=>rfl)) (lt2 rfl rfl) (ar rfl (ar rfl (ag [(27,_),(28,_)] ⟨.inr ⟨4,_,rfl,rfl,rfl⟩,.inr ⟨5,_,rfl,rfl,rfl⟩,trivial⟩ (λ sl hsl K hK=>af rfl (aF (ih_path_leaves_ok r18 (lat v_1.fItems t15) _ e21) rfl rfl rfl (aj (hsl _ _ rfl) (aj (hsl _ _ rfl) aE)) ⟨sr,sr,trivial⟩ Tryz.call59 rfl hK)) ao))) (fv (λ _=>.vec 30 1 0 ((out14++r20).map (eL ae))) [(23,_),(29,_)] rfl ⟨.inr ⟨0,_,rfl,rfl,rfl⟩,.inr ⟨6,_,rfl,rfl,rfl⟩,trivial⟩ rfl rfl (dV rfl (λ _=>rfl)) (lt2 (λ h=>absurd h (by decide)) (λ _=>rfl)) (λ sl hsl K hK=>af rfl (dl (eL ae) out14 r20 rfl rfl rfl rfl rfl rfl rfl rfl (hsl _ _ rfl) rfl rfl (hsl _ _ rfl) rfl (λ _=>rfl) rfl rfl rfl rfl hk22 hK)) ?_)
  refine fv (λ _=>.vec 30 1 0 ((out14++r20).map (eL ae))) [(30,_)] rfl ⟨.inr ⟨7,_,rfl,rfl,rfl⟩,trivial⟩ rfl rfl (λ _=>rfl) (lt2 (λ h=>absurd h (by decide)) (λ h=>absurd h (by decide))) (λ sl hsl K hK=>af rfl (bw rfl rfl rfl (hsl _ _ rfl) hK)) (hC ?_)
  refine nx 2 rfl (oA h1 rfl rfl λ hk23 h1=>?_)
  exact nx 2 rfl (eX (out14++r20,t15+1) h1 (gE rfl rfl))
 exact nx 2 rfl (eXi _ (oi h1).symm (gE rfl rfl))
def eM (n:Nat)(v_0:ab):Option (List (List aa)) :=
 (dD n [] v_0).bind λ r1 =>
 some r1
theorem jz (n:Nat)(v_0:ab)(r:(List (List aa)))(h0:eM n v_0=some r):au Tryz.prog 28 [.agg (ab.cs v_0)] (·=.p (eL (eL ae) r)):=by
 unfold eM at h0
 refine aH good Tryz.func28 rfl rfl rfl λ w0=>mP (λ v:(List (List aa))=>.p (eL (eL ae) v)) ?_
 refine nx 8 rfl (bd h0 λ r1 e2 h0=>?_)
 refine oK (qc _ [] v_0 _ e2) rfl ⟨dm _,sr,trivial⟩ Tryz.call59 rfl (nx 3 rfl ?_)
 exact mQ (oi h0) rfl (sr)
def gg (n:Nat)(a_0:ab)(b_1:ab):Option Bool :=
 (
   (gA n a_0).bind λ r1 =>
   if (!r1)=true then
    some true
   else
    (gA n b_1).bind λ r4 =>
    some (!r4)
  : Option Bool).bind λ t6 =>
 if t6=true then
  (bK n).bind λ r8 =>
  some r8
 else
  (
    (j8 n a_0 b_1).bind λ r10 =>
    (jI n a_0 b_1).bind λ r12 =>
    (jh n r10 r12).bind λ r14 =>
    if r14=true then
     (eM n a_0).bind λ r17 =>
     (g7 n a_0).bind λ r19 =>
     (jh n r17 r19).bind λ r21 =>
     if r21=true then
      (bK n).bind λ r24 =>
      some r24
     else
      some false
    else
     some false
   : Option Bool).bind λ t26 =>
  some t26
theorem mH (n:Nat)(a_0:ab)(b_1:ab)(r:Bool)(h0:gg n a_0 b_1=some r):au Tryz.prog 10 [.agg (ab.cs a_0),.agg (ab.cs b_1)] (·=.p (eB r)):=by
 unfold gg at h0
 refine aH good Tryz.func10 rfl rfl rfl λ w0=>mP (λ v:Bool=>.p (eB v)) ?_
 refine nx 8 rfl (bd h0 λ o29 h1 h0=>?_)
 refine kN o29 (λ v30=>⟨[(2,.ptr 2 0),(3,.ptr 3 0),(12,.p (eB v30))],[(2,(ab.cs a_0).map .p),(3,(ab.cs b_1).map .p)]⟩) ?_ ?_
 ·refine nx 1 rfl (fB [12] h0 rfl (λ c7 h0=>?_) λ c7 h0=>?_)
  ·refine nx 3 rfl (bd h0 λ r8 e9 h0=>?_)
   refine oK (bZ _  _ e9) rfl trivial Tryz.call11 rfl (nx 3 rfl ?_)
   exact mQ (oi h0) rfl (sr)
  refine nx 3 rfl (bd h0 λ o31 h1 h0=>?_)
  refine kN o31 (λ v32=>⟨[(4,.p (eB v32))],[]⟩) ?_ ?_
  ·exact nx 2 rfl (mQ (oi h0) rfl (sr))
  refine bd h1 λ r10 e11 h1=>bd h1 λ r12 e13 h1=>bd h1 λ r14 e15 h1=>fB (p:=r14) [] h1 rfl (λ c16 h1=>?_) λ c16 h1=>?_
  ·refine bd h1 λ r17 e18 h1=>bd h1 λ r19 e20 h1=>bd h1 λ r21 e22 h1=>fB (p:=r21) [] h1 rfl (λ c23 h1=>?_) λ c23 h1=>?_
   ·refine bd h1 λ r24 e25 h1=>mD [(2,.ptr 2 0),(3,.ptr 3 0)] rfl ⟨rfl,rfl,trivial⟩ rfl (dR 2 rfl ?_)
    refine dq (.p (eL (eL ae) r10)) [14,15] rfl (λ _ e _ q=>af rfl (aF (kj _ a_0 b_1 _ e11) rfl rfl rfl (aj (e _ _ rfl) (aj (e _ _ rfl) aE)) ⟨sr,sr,trivial⟩ Tryz.call31 rfl q)) rfl (dR 2 rfl ?_)
    refine dq (.p (eL (eL ae) r12)) [17,18] rfl (λ _ e _ q=>af rfl (aF (jR _ a_0 b_1 _ e13) rfl rfl rfl (aj (e _ _ rfl) (aj (e _ _ rfl) aE)) ⟨sr,sr,trivial⟩ Tryz.call33 rfl q)) rfl (dq (.p (eB r14)) [16,19] rfl (λ _ e _ q=>af rfl (aF (gZ _ r10 r12 _ e15) rfl rfl rfl (aj (e _ _ rfl) (aj (e _ _ rfl) aE)) ⟨sr,sr,trivial⟩ Tryz.call32 rfl q)) rfl ?_)
    refine dL (c16) rfl (dR 1 rfl ?_)
    refine dq (.p (eL (eL ae) r17)) [21,22] rfl (λ _ e _ q=>ge (aF (jz _ a_0 _ e18) rfl rfl rfl (aj (e _ _ rfl) aE) ⟨sr,trivial⟩ Tryz.call28 rfl q) rfl rfl (e _ _ rfl) (rfl)) rfl (dR 1 rfl ?_)
    refine dq (.p (eL (eL ae) r19)) [21,24] rfl (λ _ e _ q=>ge (aF (kG _ a_0 _ e20) rfl rfl rfl (aj (e _ _ rfl) aE) ⟨sr,trivial⟩ Tryz.call34 rfl q) rfl rfl (e _ _ rfl) (rfl)) rfl (dq (.p (eB r21)) [21,23,25] rfl (λ _ e _ q=>ge (aF (gZ _ r17 r19 _ e22) rfl rfl rfl (aj (e _ _ rfl) (aj (e _ _ rfl) aE)) ⟨sr,sr,trivial⟩ Tryz.call32 rfl q) rfl rfl (e _ _ rfl) (rfl)) rfl ?_)
    refine dL (c23) rfl (dR 1 rfl ?_)
    refine dq (.p (eB r24)) [28] rfl (λ _ e _ q=>ge (aF (bZ _  _ e25) rfl rfl rfl aE trivial Tryz.call11 rfl q) rfl rfl (e _ _ rfl) (rfl)) rfl (dR 2 rfl ?_)
    refine dE rfl (nx 1 rfl ?_)
    exact eX _ (oi h1).symm (gE rfl rfl)
   refine mD [(2,.ptr 2 0),(3,.ptr 3 0)] rfl ⟨rfl,rfl,trivial⟩ rfl (dR 2 rfl ?_)
   refine dq (.p (eL (eL ae) r10)) [14,15] rfl (λ _ e _ q=>af rfl (aF (kj _ a_0 b_1 _ e11) rfl rfl rfl (aj (e _ _ rfl) (aj (e _ _ rfl) aE)) ⟨sr,sr,trivial⟩ Tryz.call31 rfl q)) rfl (dR 2 rfl ?_)
   refine dq (.p (eL (eL ae) r12)) [17,18] rfl (λ _ e _ q=>af rfl (aF (jR _ a_0 b_1 _ e13) rfl rfl rfl (aj (e _ _ rfl) (aj (e _ _ rfl) aE)) ⟨sr,sr,trivial⟩ Tryz.call33 rfl q)) rfl (dq (.p (eB r14)) [16,19] rfl (λ _ e _ q=>af rfl (aF (gZ _ r10 r12 _ e15) rfl rfl rfl (aj (e _ _ rfl) (aj (e _ _ rfl) aE)) ⟨sr,sr,trivial⟩ Tryz.call32 rfl q)) rfl ?_)
   refine dL (c16) rfl (dR 1 rfl ?_)
   refine dq (.p (eL (eL ae) r17)) [21,22] rfl (λ _ e _ q=>ge (aF (jz _ a_0 _ e18) rfl rfl rfl (aj (e _ _ rfl) aE) ⟨sr,trivial⟩ Tryz.call28 rfl q) rfl rfl (e _ _ rfl) (rfl)) rfl (dR 1 rfl ?_)
   refine dq (.p (eL (eL ae) r19)) [21,24] rfl (λ _ e _ q=>ge (aF (kG _ a_0 _ e20) rfl rfl rfl (aj (e _ _ rfl) aE) ⟨sr,trivial⟩ Tryz.call34 rfl q) rfl rfl (e _ _ rfl) (rfl)) rfl (dq (.p (eB r21)) [21,23,25] rfl (λ _ e _ q=>ge (aF (gZ _ r17 r19 _ e22) rfl rfl rfl (aj (e _ _ rfl) (aj (e _ _ rfl) aE)) ⟨sr,sr,trivial⟩ Tryz.call32 rfl q) rfl rfl (e _ _ rfl) (rfl)) rfl ?_)
   refine dL (c23) rfl (dR 4 rfl ?_)
   refine dE rfl (nx 1 rfl ?_)
   exact eX _ (oi h1).symm (gE rfl rfl)
  refine mD [(2,.ptr 2 0),(3,.ptr 3 0)] rfl ⟨rfl,rfl,trivial⟩ rfl (dR 2 rfl ?_)
  refine dq (.p (eL (eL ae) r10)) [14,15] rfl (λ _ e _ q=>af rfl (aF (kj _ a_0 b_1 _ e11) rfl rfl rfl (aj (e _ _ rfl) (aj (e _ _ rfl) aE)) ⟨sr,sr,trivial⟩ Tryz.call31 rfl q)) rfl (dR 2 rfl ?_)
  refine dq (.p (eL (eL ae) r12)) [17,18] rfl (λ _ e _ q=>af rfl (aF (jR _ a_0 b_1 _ e13) rfl rfl rfl (aj (e _ _ rfl) (aj (e _ _ rfl) aE)) ⟨sr,sr,trivial⟩ Tryz.call33 rfl q)) rfl (dq (.p (eB r14)) [16,19] rfl (λ _ e _ q=>af rfl (aF (gZ _ r10 r12 _ e15) rfl rfl rfl (aj (e _ _ rfl) (aj (e _ _ rfl) aE)) ⟨sr,sr,trivial⟩ Tryz.call32 rfl q)) rfl ?_)
  refine dL (c16) rfl (dR 10 rfl ?_)
  refine dE rfl (nx 1 rfl ?_)
  exact eX _ (oi h1).symm (gE rfl rfl)
 refine nx 2 rfl (bd h1 λ r1 e2 h1=>?_)
 refine oK (ls _ a_0 _ e2) rfl ⟨sr,trivial⟩ Tryz.call15 rfl (nx 2 rfl ?_)
 refine fB [7,8] h1 rfl (λ c3 h1=>?_) λ c3 h1=>?_
 ·exact nx 5 rfl (eX _ (oi h1).symm (gE rfl rfl))
 refine nx 1 rfl (bd h1 λ r4 e5 h1=>?_)
 refine oK (ls _ b_1 _ e5) rfl ⟨sr,trivial⟩ Tryz.call15 rfl (nx 3 rfl ?_)
 exact eX _ (oi h1).symm (gE rfl rfl)
end Go.Ab.R06
end
section
namespace Go.Ab.R06
open Go.Ab Go.Ab.RB Go.Lib
def dVq {α:Type}(p:α→α→Bool):List α→List α→Bool
  | [],[]=>true
  | x::r,y::q=>p x y&&dVq p r q
  | _,_=>false
theorem p7 (p:Nat→Bool):∀ (k i:Nat),eC p (i+1) k=eC (λ j=>p (j+1)) i k
  | 0,_=>rfl
  | k+1,i=>by simp only [eC]; rw [p7 p k (i+1)]
theorem lQ {α:Type} [Inhabited α] (p:α→α→Bool):∀ a b:List α,dVq p a b=(decide (a.length=b.length)&&eC (λ i=>p (a.getD i default) (b.getD i default)) 0 a.length)
  | [],[]=>rfl
  | [],y::q=>by simp [dVq]
  | x::r,[]=>by simp [dVq]
  | x::r,y::q=>by
    simp only [dVq,List.length_cons,eC,List.getD_cons_zero,Nat.zero_add]
    rw [lQ p r q,p7]
    simp only [List.getD_cons_succ,Nat.add_right_cancel_iff]
    cases p x y <;> cases decide (r.length=q.length) <;> simp
theorem li {f:Nat→Nat→Int→Option (Unit⊕Bool)}(len:Nat)(p:Nat→Bool)(h0:Ev2 (λ n m=>f n m (len:Int)) (·=.inl ()))
    (hs:∀ i:Nat,i < len→∀ P:Unit⊕Bool→Prop,(p i=true→Ev2 (λ n m=>f n m ((i:Int)+1)) P)→(p i=false→P (.inr false))→Ev2 (λ n m=>f n m (i:Int)) P) :
    ∀ k i,i+k=len→Ev2 (λ n m=>f n m (i:Int)) (·=if eC p i k=true then .inl () else .inr false):=by
  intro k
  induction k with
  | zero=>intro i hi; obtain rfl:i=len:=(by omega);exact h0
  | succ k ih =>
    intro i hi
    refine hs i (by omega) _ (λ h=>?_) (λ h=>?_)
    · have:=ih (i+1) (by omega)
      rw [Int.natCast_add,Int.natCast_one] at this
      simpa only [eC,h,Bool.true_and] using this
    · simp [eC,h]
theorem pN {f:Nat→Nat→Int→Option (Unit⊕Bool)}{len:Nat}{p:Nat→Bool}{k:Nat→Nat→Option Bool}{q:Bool}(h:Ev2 (λ n m=>f n m 0) (·=if eC p 0 len=true then .inl () else .inr false))
    (hk:Ev2 k (·=q)):Ev2 (λ n m=>jn (f n n 0) (λ _=>k n m)) (·=(eC p 0 len&&q)):=by
  refine oD (eZ (aT (f:=λ n m=>f n m 0) h) (λ s hs=>?_))
  subst hs
  cases eC p 0 len with
  | true=>exact hk
  | false=>rfl
theorem nt {x:Bool}(h:(!x)=true):x=false:=by simpa using h
theorem nf {x:Bool}(h:¬ (!x)=true):x=true:=by simpa using h
def eqS (a b:Bytes):Bool:=decide (a=b)
theorem uX (a b:List Bytes)(ha:a.length*16≤fS):Ev2 (λ n _=>ba n a b) (·=dVq eqS a b):=by
  unfold fS at ha
  simp only [ba]
  rw [lQ]
  refine ak (λ h=>?_) (λ h=>ac (by simp; omega))
  have h:a.length=b.length:=by omega
  rw [decide_eq_true h,Bool.true_and]
  rw [← Bool.and_true (eC _ 0 a.length)]
  refine pN (f:=λ n m i=>a8 a b m i) (li a.length _ ?_ (λ i hi P h1 h2=>?_) a.length 0 (by omega)) (ac rfl)
  · refine aA ?_
    simp only [a8]
    exact ax (by omega) (ac rfl)
  · refine aA ?_
    simp only [a8]
    refine aw (by omega) (ai (by omega) (ai (by omega) (ak (λ h=>ai (aC (by omega) (by omega)) (h1 (decide_eq_true h))) (λ h=>ac (h2 (decide_eq_false h))))))
mutual
def eqV:ab→ab→Bool
  | .mk k n s l ks,.mk k' n' s' l' ks'=>decide (k=k')&&decide (n=n')&&eqS s s'&&dVq eqS ks ks'&&uj l l'
def uj:List ab→List ab→Bool
  | [],[]=>true
  | x::r,y::q=>eqV x y&&uj r q
  | _,_=>false
end
theorem va:∀ a b,uj a b=dVq eqV a b
  | [],[]=>by simp only [uj,dVq]
  | [],_::_=>by simp only [uj,dVq]
  | _::_,[]=>by simp only [uj,dVq]
  | x::r,y::q=>by simp only [uj,dVq]; rw [va r q]
theorem xc (a b:ab):eqV a b=(decide (a.fKind=b.fKind)&&decide (a.fNum=b.fNum)&&eqS a.fStr b.fStr&&dVq eqS a.fKeys b.fKeys&&dVq eqV a.fItems b.fItems):=by
  cases a; cases b
  simp only [eqV,va,ab.fKind,ab.fNum,ab.fStr,ab.fKeys,ab.fItems]
  rfl
theorem zj (a b:List ab)(ha:a.length*80≤fS)(e:Nat→ab→ab→Option Bool)(he:∀ x∈a,∀ y,Ev2 (λ n _=>e n x y) (·=eqV x y)) :
    Ev2 (λ n _=>aL n a b (e n)) (·=dVq eqV a b):=by
  unfold fS at ha
  simp only [aL]
  rw [lQ]
  refine ak (λ h=>?_) (λ h=>ac (by simp; omega))
  have h:a.length=b.length:=by omega
  rw [decide_eq_true h,Bool.true_and]
  rw [← Bool.and_true (eC _ 0 a.length)]
  refine pN (f:=λ n m i=>ay a b (e n) m i) (li a.length _ ?_ (λ i hi P h1 h2=>?_) a.length 0 (by omega)) (ac rfl)
  · refine aA ?_
    simp only [ay]
    exact ax (by omega) (ac rfl)
  · refine aA ?_
    simp only [ay]
    refine aw (by omega) (ai (by omega) (ai (by omega) (al _ (he _ (jN (by omega)) _) ?_)))
    exact ak (λ h=>ac (h2 (nt h))) (λ h=>ai (aC (by omega) (by omega)) (h1 (nf h)))
theorem uA {a:ab}(hb:ab.Bd a):∀ b,Ev2 (λ n _=>eG n a b) (·=eqV a b):=by
  induction hb with
  | @mk x bKind bNum bStr bItems eItems bKeys eKeys ih =>
    intro b
    refine fe ?_
    simp only [eG]
    rw [xc]
    refine bD (·=(decide (x.fKind=b.fKind)&&decide (x.fNum=b.fNum)&&eqS x.fStr b.fStr&&dVq eqS x.fKeys b.fKeys&&dVq eqV x.fItems b.fItems)) ?_ (λ t ht=>ac ht)
    refine ak (λ h1=>?_) (λ h1=>ac (by simp [h1]))
    refine ak (λ h2=>?_) (λ h2=>ac (by simp [h2]))
    refine ak (λ h3=>?_) (λ h3=>ac (by simp [h3,eqS]))
    refine al _ (uX _ _ bKeys) ?_
    simp only [h1,h2,h3,eqS,decide_true,Bool.true_and]
    refine ak (λ h4=>?_) (λ h4=>ac (by simp [Bool.eq_false_iff.2 h4]))
    exact al _ (zj _ _ bItems (λ n x0 x1=>eG n x0 x1) (λ x hx y=>ih x hx y)) (ac (by simp [h4]))
theorem sU {a:ab}(hb:ab.Bd a):∀ b,Ev2 (λ n _=>eq n a b) (·=eqV a b):=by
  induction hb with
  | @mk x bKind bNum bStr bItems eItems bKeys eKeys ih =>
    intro b
    have l1:=bItems
    have l2:=bKeys
    unfold fS at l1 l2
    refine fe ?_
    simp only [eq]
    rw [xc]
    refine al (!(decide (x.fKind=b.fKind)&&decide (x.fNum=b.fNum)&&eqS x.fStr b.fStr&&decide (x.fItems.length=b.fItems.length)&&decide (x.fKeys.length=b.fKeys.length))) ?_ ?_
    · refine ak (λ h1=>?_) (λ h1=>ac (by simp [h1]))
      refine ak (λ h2=>?_) (λ h2=>ac (by simp [h2]))
      refine ak (λ h3=>?_) (λ h3=>ac (by simp [h3,eqS]))
      refine ak (λ h4=>ac ?_) (λ h4=>ac ?_)
      · have h4:x.fItems.length=b.fItems.length:=by omega
        simp [h1,h2,h3,h4,eqS]; omega
      · have h4:¬ x.fItems.length=b.fItems.length:=by omega
        simp [h4]
    · rw [lQ eqS,lQ eqV]
      refine ak (λ h=>ac ?_) (λ h=>?_)
      · simp only [Bool.not_eq_true',Bool.and_eq_false_iff] at h
        rcases h with (((h | h) | h) | h) | h <;> simp [h]
      · simp only [Bool.not_eq_true',Bool.not_eq_false,Bool.and_eq_true] at h
        obtain ⟨⟨⟨⟨h1,h2⟩,h3⟩,h4⟩,h5⟩:=h
        have h4':=of_decide_eq_true h4
        have h5':=of_decide_eq_true h5
        rw [h1,h2,h3,h4,h5]
        simp only [Bool.true_and]
        refine pN (f:=λ n m i=>dA x b m i) (li x.fKeys.length _ ?_ (λ i hi P h1 h2=>?_) x.fKeys.length 0 (by omega)) ?_
        · refine aA ?_
          simp only [dA]
          exact ax (by omega) (ac rfl)
        · refine aA ?_
          simp only [dA]
          refine aw (by omega) (ai (by omega) (ai (by omega) (ak (λ h=>ai (aC (by omega) (by omega)) (h1 (decide_eq_true h))) (λ h=>ac (h2 (decide_eq_false h))))))
        · rw [← Bool.and_true (eC _ 0 x.fItems.length)]
          refine pN (f:=λ n m i=>dI (eq n) x b m i) (li x.fItems.length _ ?_ (λ i hi P h1 h2=>?_) x.fItems.length 0 (by omega)) (ac rfl)
          · refine aA ?_
            simp only [dI]
            exact ax (by omega) (ac rfl)
          · refine aA ?_
            simp only [dI]
            refine aw (by omega) (ai (by omega) (ai (by omega) (al _ (ih _ (jN (by omega)) _) ?_)))
            exact ak (λ h=>ac (h2 (nt h))) (λ h=>ai (aC (by omega) (by omega)) (h1 (nf h)))
theorem cz {α:Type} [Inhabited α] (l:List α){i:Nat}(h:i < l.length):l.drop i=lat l (i:Int)::l.drop (i+1):=by
 rw [rX,List.getD_eq_getElem?_getD,List.getElem?_eq_getElem h,Option.getD_some]
 exact List.drop_eq_getElem_cons h
mutual
def cI:ab→Nat
 | .mk _ _ _ l _=>1+bV l
def bV:List ab→Nat
 | []=>0
 | x::r=>cI x+bV r
end
theorem dh (v:ab):cI v=1+bV v.fItems:=by cases v; simp only [cI,ab.fItems]
theorem iT:∀ l:List ab,l.length≤bV l
 | []=>Nat.le_refl _
 | x::r=>by
  have:=iT r
  have h1:=dh x
  simp only [bV,List.length_cons]; omega
theorem mx:∀ {l:List ab} {x:ab},x∈l→cI x≤bV l
 | y::r,x,h=>by
  rcases List.mem_cons.1 h with rfl | h
  ·simp only [bV]; omega
  ·have:=mx h; simp only [bV]; omega
theorem yx {v:ab}(hb:ab.Bd v):∀ (nodes levels:Int),0≤nodes→nodes≤1000000→-1000000≤levels→levels≤1000000 →
  Ev2 (λ n _=>d5 n v nodes levels) (λ r=>-1≤r∧r≤nodes∧(0≤r→r=nodes - (cI v:Int))):=by
 induction hb with
 | @mk x bKind bNum bStr bItems eItems bKeys eKeys ih =>
  intro nodes levels h1 h2 h3 h4
  have hl:=bItems
  unfold fS at hl
  refine fe ?_
  simp only [d5]
  refine al (decide (nodes < 1∨levels < 1)) (ak (λ h=>ac (by simp [h])) (λ h=>ac (by simp [h]))) (ak (λ _=>ac ⟨by omega,by omega,by omega⟩) (λ h=>?_))
  have h:¬ (nodes < 1∨levels < 1):=λ q=>h (decide_eq_true q)
  refine ai (aC (by omega) (by omega)) ?_
  have loop:∀ (k i:Nat) (c:Int),i+k=x.fItems.length→-1≤c→c≤1000000→Ev2 (λ n m=>cX (d5 n) x levels m c (i:Int)) (λ s=>-1≤s∧s≤c∧(0≤s→s=c - (bV (x.fItems.drop i):Int))):=by
   intro k
   induction k with
   | zero =>
    intro i c hi h6 h7
    refine aA ?_
    simp only [cX]
    refine al false (ax (by omega) (ac rfl)) (ax (by simp) (ac ⟨h6,by omega,λ _=>?_⟩))
    rw [List.drop_eq_nil_of_le (by omega)]; simp [bV]
   | succ k ihk =>
    intro i c hi h6 h7
    refine aA ?_
    simp only [cX]
    refine al (decide (0≤c)) (aw (by omega) (ac rfl)) (ak (λ h8=>?_) (λ h8=>ac ⟨h6,by omega,λ h=>absurd (by simpa using h) h8⟩))
    have h8:0≤c:=by simpa using h8
    refine ai (by omega) (ai (aC (by omega) (by omega)) ?_)
    refine bD _ (ih _ (Go.Ab.jN (by omega)) c (levels - 1) h8 h7 (by omega) (by omega)) (λ q hq=>?_)
    refine ai (aC (by omega) (by omega)) ?_
    refine eZ (jK (P:=λ j=>Ev2 (λ n m=>cX (d5 n) x levels m q j) _) (ihk (i+1) q (by omega) hq.1 (by omega))) (λ s hs=>⟨hs.1,by omega,λ h=>?_⟩)
    rw [cz _ (by omega)]
    have a1:=hs.2.2 h
    have a2:=hq.2.2 (by omega)
    simp only [bV]
    omega
  refine bD _ (aT (f:=λ n m=>cX (d5 n) x levels m (nodes - 1) 0) (loop x.fItems.length 0 (nodes - 1) (by omega) (by omega) (by omega))) (λ s hs=>ac ⟨hs.1,by omega,λ h=>?_⟩)
  have:=hs.2.2 h
  rw [dh]
  simp only [List.drop_zero] at this
  omega
theorem yZ {v:ab}(hb:ab.Bd v):cI v≤100000→Ev2 (λ n _=>d8 n v) (λ r=>0≤r∧r≤(cI v:Int)*9000000000000):=by
 induction hb with
 | @mk x bKind bNum bStr bItems eItems bKeys eKeys ih =>
  intro hn
  have hl:=bItems
  have hk:=bKeys
  unfold fS at hl hk
  rw [dh] at hn ⊢
  refine fe ?_
  simp only [d8]
  have loop:∀ (k i:Nat) (c:Int),i+k=x.fItems.length→0≤c→c+(bV (x.fItems.drop i):Int)*9000000000000≤((1+bV x.fItems:Nat):Int)*9000000000000→Ev2 (λ n m=>cT (d8 n) x m c (i:Int)) (λ s=>0≤s∧s≤((1+bV x.fItems:Nat):Int)*9000000000000):=by
   intro k
   induction k with
   | zero =>
    intro i c hi h6 h7
    refine aA ?_
    simp only [cT]
    exact ax (by omega) (ac ⟨h6,by omega⟩)
   | succ k ihk =>
    intro i c hi h6 h7
    have hd:=cz x.fItems (i:=i) (by omega)
    have hm:lat x.fItems (i:Int)∈x.fItems:=List.mem_of_mem_drop (hd ▸ List.mem_cons_self)
    have hle:=mx hm
    rw [hd] at h7
    simp only [bV] at h7
    refine aA ?_
    simp only [cT]
    refine aw (by omega) (ai (by omega) (bD _ (ih _ hm (by omega)) (λ q hq=>?_)))
    refine ai (aC (by omega) (by omega)) (ai (aC (by omega) (by omega)) ?_)
    exact jK (P:=λ j=>Ev2 (λ n m=>cT (d8 n) x m (c+q) j) _) (ihk (i+1) (c+q) (by omega) (by omega) (by omega))
  refine bD _ (aT (f:=λ n m=>cT (d8 n) x m (x.fKeys.length:Int) 0) (loop x.fItems.length 0 (x.fKeys.length:Int) (by omega) (by omega) (by simp only [List.drop_zero]; omega))) (λ s hs=>ac hs)
theorem sQ {v:ab}(hb:ab.Bd v)(nodes:Int)(h1:0≤nodes)(h2:nodes≤100000):Ev2 (λ n _=>gC n v nodes) (λ r=>r=true→(cI v:Int)≤nodes):=by
 simp only [gC]
 refine bD (λ r=>r=true→(cI v:Int)≤nodes) ?_ (λ r hr=>ac hr)
 refine bD _ (yx hb nodes 40 h1 (by omega) (by decide) (by decide)) (λ r hr=>ak (λ h=>?_) (λ h=>ac (λ q=>by cases q)))
 have:=hr.2.2 h
 exact bD _ (yZ hb (by omega)) (λ q hq=>ai (aC (by omega) (by omega)) (ac (λ _=>by omega)))
def Inc:List Bytes→Prop
 | []=>True
 | [_]=>True
 | x::y::r=>Op.bytesLess x y=true∧Inc (y::r)
structure p9 (v:ab):Prop where
 its:v.fKind≠4→v.fKind≠5→v.fItems=[]
 kys:v.fKind≠5→v.fKeys=[]
 len:v.fKind=5→v.fKeys.length=v.fItems.length
 inc:Inc v.fKeys
 txt:∀ k∈v.fKeys,k.length≤4096∧validD k=true
inductive GV:ab→Prop where
 | mk {v:ab} (h:p9 v) (l:∀ x∈v.fItems,GV x):GV v
theorem GV.node {v:ab}(h:GV v):p9 v:=by cases h; assumption
theorem GV.its {v:ab}(h:GV v):∀ x∈v.fItems,GV x:=by cases h; assumption
theorem tb (s:Bytes):Ev2 (λ n _=>ib n s) (λ r=>r=0→s.length≤4096∧validD s=true):=by
 simp only [ib]
 refine ak (λ h=>ac (λ q=>absurd q (by decide))) (λ h=>?_)
 refine al _ (rj s (by omega)) (ak (λ h2=>ac (λ q=>absurd q (by decide))) (λ h2=>ac (λ _=>?_)))
 exact ⟨by omega,by simpa [show s.length≤4096 by omega] using h2⟩
theorem tS (v:ab):Ev2 (λ _ _=>hG v) (λ r=>r=true→(v.fKind≠4→v.fKind≠5→v.fItems=[])∧(v.fKind≠5→v.fKeys=[])∧(v.fKind=5→v.fKeys.length=v.fItems.length)):=by
 unfold hG
 refine bD (λ _=>True) (by repeat' (first | exact ac trivial | refine ak (λ _=>?_) (λ _=>?_))) (λ b1 _=>?_)
 refine bD (λ _=>True) (by repeat' (first | exact ac trivial | refine ak (λ _=>?_) (λ _=>?_))) (λ b2 _=>?_)
 refine bD (λ r=>r=true→v.fKind≠4→v.fKind≠5→v.fItems=[]) (ak (λ h=>ac (λ _ q=>absurd h q)) (λ _=>ak (λ h=>ac (λ _ _ q=>absurd h q)) (λ _=>ac (λ q _ _=>by simpa using q)))) (λ b3 h3=>?_)
 refine bD (λ r=>r=true→(v.fKind≠5→v.fKeys=[])∧(v.fKind=5→v.fKeys.length=v.fItems.length)) (ak (λ h=>ak (λ q=>ac (λ _=>⟨λ p=>absurd h p,λ _=>by omega⟩)) (λ _=>ac (λ q=>by cases q))) (λ h=>ac (λ q=>⟨λ _=>by simpa using q,λ p=>absurd p h⟩))) (λ b4 h4=>?_)
 refine bD (λ r=>r=true→b3=true∧b4=true) ?_ (λ b hb=>ac (λ q=>⟨h3 (hb q).1,(h4 (hb q).2).1,(h4 (hb q).2).2⟩))
 refine ak (λ _=>ak (λ _=>ak (λ _=>ak (λ _=>ak (λ q=>ac (λ p=>⟨q,p⟩)) (λ _=>ac (λ q=>by cases q))) (λ _=>ac (λ q=>by cases q))) (λ _=>ac (λ q=>by cases q))) (λ _=>ac (λ q=>by cases q))) (λ _=>ac (λ q=>by cases q))
theorem xZ {x:Bytes}{l:List Bytes}(h:Inc l)(hx:∀ y∈l.head?,Op.bytesLess x y=true):Inc (x::l):=by
 cases l with
 | nil=>trivial
 | cons y r=>exact ⟨hx y rfl,h⟩
theorem xp {v:ab}(hb:ab.Bd v):Ev2 (λ n _=>jx n v) (λ r=>r=0→p9 v):=by
 have hk:=hb.bKeys
 unfold fS at hk
 simp only [jx]
 refine bD _ (tS v) (λ b hs=>ak (λ _=>ac (λ q=>absurd q (by decide))) (λ h=>?_))
 obtain ⟨s1,s2,s3⟩:=hs (by simpa using h)
 refine bD (λ _=>True) (ak (λ _=>bD (λ _=>True) (by unfold gv; repeat' (first | exact ac trivial | refine ak (λ _=>?_) (λ _=>?_) | refine bD (λ _=>True) ?_ (λ _ _=>?_))) (λ _ _=>ac trivial)) (λ _=>ac trivial)) (λ b5 _=>ak (λ _=>ac (λ q=>absurd q (by decide))) (λ _=>?_))
 refine bD _ (tb v.fStr) (λ r hr=>ak (λ _=>?_) (λ h=>ac (λ q=>absurd q h)))
 have loop:∀ (k i:Nat),i+k=v.fKeys.length→Ev2 (λ n m=>cZ n v m (i:Int)) (λ r=>(∀ e,r=.inr e→e≠0)∧(r=.inl ()→Inc (v.fKeys.drop i)∧(0 < i→∀ y∈(v.fKeys.drop i).head?,Op.bytesLess (lat v.fKeys ((i:Int) - 1)) y=true)∧∀ k∈v.fKeys.drop i,k.length≤4096∧validD k=true)):=by
  intro k
  induction k with
  | zero =>
   intro i hi
   refine aA ?_
   simp only [cZ]
   refine ax (by omega) (ac ⟨λ e q=>(by cases q),λ _=>?_⟩)
   rw [List.drop_eq_nil_of_le (by omega)]
   exact ⟨trivial,λ _ y hy=>(by cases hy),λ k hk=>(by cases hk)⟩
  | succ k ih =>
   intro i hi
   refine aA ?_
   simp only [cZ]
   refine aw (by omega) (ai (by omega) (bD _ (tb _) (λ r hr=>ak (λ h0=>?_) (λ h0=>ac ⟨λ e q=>(by cases q; exact h0),λ q=>(by cases q)⟩))))
   refine bD (λ t=>t=false→0 < i→Op.bytesLess (lat v.fKeys ((i:Int) - 1)) (lat v.fKeys (i:Int))=true) (ak (λ h1=>ai (aC (by omega) (by omega)) (ai (by omega) (ai (by omega) (ac (λ q _=>by simpa using q))))) (λ h1=>ac (λ _ q=>absurd q (by omega)))) (λ t ht=>ak (λ _=>ac ⟨λ e q=>(by cases q; decide),λ q=>(by cases q)⟩) (λ h1=>?_))
   refine ai (aC (by omega) (by omega)) ?_
   refine eZ (jK (P:=λ j=>Ev2 (λ n m=>cZ n v m j) _) (ih (i+1) (by omega))) (λ r hr2=>⟨hr2.1,λ q=>?_⟩)
   obtain ⟨a1,a2,a3⟩:=hr2.2 q
   rw [cz _ (by omega)]
   refine ⟨xZ a1 (λ y hy=>?_),λ h y hy=>?_,λ y hy=>?_⟩
   ·have:=a2 (by omega) y hy
    rwa [show ((i+1:Nat):Int) - 1=(i:Int) by omega] at this
   ·cases hy; exact ht (by simpa using h1) h
   ·rcases List.mem_cons.1 hy with rfl | hy
    ·exact hr h0
    ·exact a3 y hy
 obtain ⟨r,hr1,N,hN⟩:=aT (f:=λ n m=>cZ n v m 0) (loop v.fKeys.length 0 (by omega))
 cases r with
 | inl u =>
  obtain ⟨a1,_,a3⟩:=hr1.2 rfl
  exact cP () ⟨.inl (),rfl,N,hN⟩ (ac (λ _=>⟨s1,s2,s3,by simpa using a1,by simpa using a3⟩))
 | inr e=>exact dU e ⟨.inr e,rfl,N,hN⟩ (λ q=>absurd q (hr1.1 e rfl))
theorem wo {v:ab}(hb:ab.Bd v):∀ (level before:Int),0≤level→level≤33→0≤before→before≤4096→Ev2 (λ n _=>dB n v level before) (λ r=>0≤r.2∧r.2≤4096∧(r.1=0→GV v)):=by
 have hb0:=hb
 induction hb with
 | @mk x bKind bNum bStr bItems eItems bKeys eKeys ih =>
  intro level before h1 h2 h3 h4
  have hl:=bItems
  unfold fS at hl
  refine fe ?_
  simp only [dB]
  refine ak (λ _=>ac ⟨h3,h4,λ q=>absurd (Int.ofNat.inj q) (by decide)⟩) (λ h5=>ak (λ _=>ac ⟨h3,h4,λ q=>absurd (Int.ofNat.inj q) (by decide)⟩) (λ h6=>?_))
  refine bD _ (xp hb0) (λ r hr=>ak (λ h0=>?_) (λ h0=>ac ⟨h3,h4,λ q=>absurd q h0⟩))
  have hnode:=hr h0
  refine ai (aC (by omega) (by omega)) ?_
  have loop:∀ (k i:Nat) (c:Int),i+k=x.fItems.length→0≤c→c≤4096→Ev2 (λ n m=>cF (dB n) x level m c (i:Int)) (λ r=>(∀ e,r=.inr e→0≤e.2∧e.2≤4096∧e.1≠0)∧(∀ c',r=.inl c'→0≤c'∧c'≤4096∧∀ y∈x.fItems.drop i,GV y)):=by
   intro k
   induction k with
   | zero =>
    intro i c hi h7 h8
    refine aA ?_
    simp only [cF]
    refine ax (by omega) (ac ⟨λ e q=>(by cases q),λ c' q=>?_⟩)
    cases q
    rw [List.drop_eq_nil_of_le (by omega)]
    exact ⟨h7,h8,λ y hy=>by cases hy⟩
   | succ k ihk =>
    intro i c hi h7 h8
    have hd:=cz x.fItems (i:=i) (by omega)
    have hm:lat x.fItems (i:Int)∈x.fItems:=List.mem_of_mem_drop (hd ▸ List.mem_cons_self)
    refine aA ?_
    simp only [cF]
    refine aw (by omega) (ai (by omega) (ai (aC (by omega) (by omega)) (bD _ (ih _ hm (eItems _ hm) (level+1) c (by omega) (by omega) h7 h8) (λ q hq=>ak (λ hq0=>?_) (λ hq0=>ac ⟨λ e p=>(by cases p; exact ⟨hq.1,hq.2.1,hq0⟩),λ c' p=>(by cases p)⟩)))))
    refine ai (aC (by omega) (by omega)) ?_
    refine eZ (jK (P:=λ j=>Ev2 (λ n m=>cF (dB n) x level m q.2 j) _) (ihk (i+1) q.2 (by omega) hq.1 hq.2.1)) (λ r hr2=>⟨hr2.1,λ c' p=>?_⟩)
    obtain ⟨a1,a2,a3⟩:=hr2.2 c' p
    rw [hd]
    refine ⟨a1,a2,λ y hy=>?_⟩
    rcases List.mem_cons.1 hy with rfl | hy
    ·exact hq.2.2 hq0
    ·exact a3 y hy
  obtain ⟨r,hr1,N,hN⟩:=aT (f:=λ n m=>cF (dB n) x level m (before+1) 0) (loop x.fItems.length 0 (before+1) (by omega) (by omega) (by omega))
  cases r with
  | inl c =>
   obtain ⟨a1,a2,a3⟩:=hr1.2 c rfl
   exact cP c ⟨.inl c,rfl,N,hN⟩ (ac ⟨a1,a2,λ _=>.mk hnode (by simpa using a3)⟩)
  | inr e =>
   obtain ⟨a1,a2,a3⟩:=hr1.1 e rfl
   exact dU e ⟨.inr e,rfl,N,hN⟩ ⟨a1,a2,λ q=>absurd q a3⟩
theorem rz {v:ab}(hb:ab.Bd v):Ev2 (λ n _=>gJ n v) (λ r=>r=0→GV v):=by
 simp only [gJ]
 exact bD _ (wo hb 1 0 (by decide) (by decide) (by decide) (by decide)) (λ r hr=>ac hr.2.2)
theorem sX {v:ab}(hb:ab.Bd v):Ev2 (λ n _=>gA n v) (λ r=>r=true→GV v∧cI v≤200):=by
 simp only [gA]
 refine bD (λ r=>r=true→GV v∧cI v≤200) ?_ (λ r hr=>ac hr)
 refine bD _ (sQ hb 200 (by decide) (by decide)) (λ r hr=>ak (λ h=>?_) (λ _=>ac (λ q=>by cases q)))
 refine bD _ (rz hb) (λ q hq=>ac (λ p=>⟨hq (of_decide_eq_true p),by have:=hr h; omega⟩))
def eA (k:Int)(ks:List Bytes)(i:Nat):aa:=if k=5 then aa.mk false 0 (lat ks (i:Int)) else aa.mk true (i:Int) []
mutual
def lvs:ab→List aa→List (List aa)
 | .mk k _ _ l ks,p=>if l.isEmpty then [p] else gN k ks 0 l p
def gN (k:Int)(ks:List Bytes):Nat→List ab→List aa→List (List aa)
 | _,[],_=>[]
 | i,x::r,p=>lvs x (p++[eA k ks i])++gN k ks (i+1) r p
end
theorem lu (v:ab)(p:List aa):lvs v p=if v.fItems.isEmpty then [p] else gN v.fKind v.fKeys 0 v.fItems p:=by cases v; simp only [lvs,ab.fItems,ab.fKind,ab.fKeys]; rfl
def sv (a b:ab):Bool:=decide (a.fKind=b.fKind)&&(decide (a.fKind=4)||decide (a.fKind=5))&&decide (a.fItems.length=b.fItems.length)&&dVq eqS a.fKeys b.fKeys
mutual
def dfs:ab→ab→List aa→List (List aa)
 | .mk k n s l ks,b,p=>if eqV (.mk k n s l ks) b then [] else if sv (.mk k n s l ks) b then lc k ks 0 l b.fItems p else [p]
def lc (k:Int)(ks:List Bytes):Nat→List ab→List ab→List aa→List (List aa)
 | i,x::r,y::q,p=>dfs x y (p++[eA k ks i])++lc k ks (i+1) r q p
 | _,_,_,_=>[]
end
theorem sy (a b:ab)(p:List aa):dfs a b p=if eqV a b then [] else if sv a b then lc a.fKind a.fKeys 0 a.fItems b.fItems p else [p]:=by cases a; simp only [dfs,ab.fItems,ab.fKind,ab.fKeys]
theorem ns:∀ (N:Nat) (v:ab) (p:List aa),cI v≤N→(lvs v p).length≤cI v
 | 0,v,p,h=>absurd h (by rw [dh]; omega)
 | N+1,v,p,h=>by
  rw [dh] at h ⊢
  rw [lu]
  split
  ·simp
  ·have:∀ (l:List ab) (i:Nat),bV l≤N→(gN v.fKind v.fKeys i l p).length≤bV l:=by
    intro l
    induction l with
    | nil=>intro i _; simp [gN]
    | cons x r ih =>
     intro i hl
     simp only [bV] at hl
     have:=ns N x (p++[eA v.fKind v.fKeys i]) (by omega)
     have:=ih (i+1) (by omega)
     simp only [gN,bV,List.length_append]; omega
   have:=this v.fItems 0 (by omega)
   omega
theorem pD:∀ (N:Nat) (v w:ab) (p:List aa),cI v≤N→(dfs v w p).length≤cI v
 | 0,v,w,p,h=>absurd h (by rw [dh]; omega)
 | N+1,v,w,p,h=>by
  rw [dh] at h ⊢
  rw [sy]
  split
  ·simp
  ·split
   ·have:∀ (l q:List ab) (i:Nat),bV l≤N→(lc v.fKind v.fKeys i l q p).length≤bV l:=by
     intro l
     induction l with
     | nil=>intro q i _; simp [lc]
     | cons x r ih =>
      intro q i hl
      simp only [bV] at hl
      cases q with
      | nil=>simp [lc]
      | cons y q =>
       have:=pD N x y (p++[eA v.fKind v.fKeys i]) (by omega)
       have:=ih q (i+1) (by omega)
       simp only [lc,bV,List.length_append]; omega
    have:=this v.fItems w.fItems 0 (by omega)
    omega
   ·simp
theorem mZ (p:List aa)(h:p.length≤1000000):aZ p=some p:=by
 unfold aZ
 exact bm (by omega)
theorem tc {v:ab}(hv:p9 v)(p:List aa)(hp:p.length≤100000){i:Nat}(hi:i < v.fItems.length):Ev2 (λ _ _=>ia p v (i:Int)) (·=p++[eA v.fKind v.fKeys i]):=by
 simp only [ia]
 by_cases h5:v.fKind=5
 ·have:=hv.len h5
  rw [show eA v.fKind v.fKeys i=aa.mk false 0 (lat v.fKeys (i:Int)) by unfold eA; rw [if_pos h5]]
  refine al (false,0,lat v.fKeys (i:Int)) (aw h5 (ai (by omega) (ac rfl))) ?_
  exact al _ (aO (mZ p (by omega)) rfl) (ai (by simp only [List.length_cons,List.length_nil]; omega) (ac rfl))
 ·rw [show eA v.fKind v.fKeys i=aa.mk true (i:Int) [] by unfold eA; rw [if_neg h5]]
  refine al (true,(i:Int),[]) (ax h5 (ac rfl)) ?_
  exact al _ (aO (mZ p (by omega)) rfl) (ai (by simp only [List.length_cons,List.length_nil]; omega) (ac rfl))
theorem rB {v:ab}(hv:p9 v)(p:List aa)(hp:p.length≤100000){i:Nat}(hi:i < v.fItems.length):Ev2 (λ _ _=>fK p v (i:Int)) (·=p++[eA v.fKind v.fKeys i]):=by
 simp only [fK]
 refine ai (by omega) (ak (λ h4=>?_) (λ h4=>?_))
 ·rw [show eA v.fKind v.fKeys i=aa.mk true (i:Int) [] by unfold eA; rw [if_neg (by omega)]]
  exact ai (by simp only [List.length_cons,List.length_nil]; omega) (ac rfl)
 ·have h5:v.fKind=5:=by
   by_cases h5:v.fKind=5
   ·exact h5
   ·have:=hv.its h4 h5; rw [this] at hi; simp at hi
  have:=hv.len h5
  rw [show eA v.fKind v.fKeys i=aa.mk false 0 (lat v.fKeys (i:Int)) by unfold eA; rw [if_pos h5]]
  exact ai (by omega) (ai (by simp only [List.length_cons,List.length_nil]; omega) (ac rfl))
theorem eF {v x:ab}(h:x∈v.fItems):cI x < cI v:=by
 have:=mx h
 rw [dh v]; omega
theorem isE {α:Type}(l:List α):l.isEmpty=true↔l.length=0:=by cases l <;> simp
theorem rA {v:ab}(hv:GV v):∀ (p:List aa),p.length+cI v≤1000→Ev2 (λ n _=>dD n p v) (·=lvs v p):=by
 induction hv with
 | @mk v hn hl ih =>
  intro p hp
  have hlen:=iT v.fItems
  have hne:=dh v
  refine fe ?_
  simp only [dD]
  rw [lu]
  refine ak (λ h=>?_) (λ h=>?_)
  ·rw [if_pos ((isE _).2 (by omega))]
   exact al _ (aO (mZ p (by omega)) rfl) (ac rfl)
  ·rw [if_neg (λ q=>h (by have:=(isE _).1 q; omega))]
   have loop:∀ (k i:Nat) (o:List (List aa)),i+k=v.fItems.length→o.length+bV (v.fItems.drop i)≤1000→Ev2 (λ n m=>cG (dD n) p v m o (i:Int)) (·=o++gN v.fKind v.fKeys i (v.fItems.drop i) p):=by
    intro k
    induction k with
    | zero =>
     intro i o hi ho
     refine aA ?_
     simp only [cG]
     refine ax (by omega) (ac ?_)
     rw [List.drop_eq_nil_of_le (by omega)]; simp [gN]
    | succ k ihk =>
     intro i o hi ho
     have hd:=cz v.fItems (i:=i) (by omega)
     have hm:lat v.fItems (i:Int)∈v.fItems:=List.mem_of_mem_drop (hd ▸ List.mem_cons_self)
     have hc:=eF hm
     have hll:=ns _ (lat v.fItems (i:Int)) (p++[eA v.fKind v.fKeys i]) (Nat.le_refl _)
     rw [hd] at ho ⊢
     simp only [bV] at ho
     refine aA ?_
     simp only [cG,gN]
     refine aw (by omega) (ai (by omega) (al _ (tc hn p (by omega) (by omega)) (al _ (ih _ hm _ (by simp only [List.length_append,List.length_cons,List.length_nil]; omega)) (ai (by omega) (ai (aC (by omega) (by omega)) ?_)))))
     have:=jK (P:=λ j=>Ev2 (λ n m=>cG (dD n) p v m (o++lvs (lat v.fItems (i:Int)) (p++[eA v.fKind v.fKeys i])) j) _) (ihk (i+1) (o++lvs (lat v.fItems (i:Int)) (p++[eA v.fKind v.fKeys i])) (by omega) (by rw [List.length_append]; omega))
     rw [← List.append_assoc]; exact this
   refine al _ (aT (f:=λ n m=>cG (dD n) p v m [] 0) (loop v.fItems.length 0 [] (by omega) (by simp only [List.length_nil,List.drop_zero]; omega))) (ac (by simp))
theorem uc {v:ab}(hv:GV v):∀ (p:List aa),p.length+cI v≤1000→Ev2 (λ n _=>de n v p) (·=lvs v p):=by
 induction hv with
 | @mk v hn hl ih =>
  intro p hp
  have hlen:=iT v.fItems
  have hne:=dh v
  refine fe ?_
  simp only [de]
  rw [lu]
  refine ak (λ h=>?_) (λ h=>?_)
  ·rw [if_pos ((isE _).2 (by omega))]
   exact ac rfl
  ·rw [if_neg (λ q=>h (by have:=(isE _).1 q; omega))]
   have loop:∀ (k i:Nat) (o:List (List aa)),i+k=v.fItems.length→o.length+bV (v.fItems.drop i)≤1000→Ev2 (λ n m=>cq (de n) v p m o (i:Int)) (·=o++gN v.fKind v.fKeys i (v.fItems.drop i) p):=by
    intro k
    induction k with
    | zero =>
     intro i o hi ho
     refine aA ?_
     simp only [cq]
     refine ax (by omega) (ac ?_)
     rw [List.drop_eq_nil_of_le (by omega)]; simp [gN]
    | succ k ihk =>
     intro i o hi ho
     have hd:=cz v.fItems (i:=i) (by omega)
     have hm:lat v.fItems (i:Int)∈v.fItems:=List.mem_of_mem_drop (hd ▸ List.mem_cons_self)
     have hc:=eF hm
     have hll:=ns _ (lat v.fItems (i:Int)) (p++[eA v.fKind v.fKeys i]) (Nat.le_refl _)
     rw [hd] at ho ⊢
     simp only [bV] at ho
     refine aA ?_
     simp only [cq,gN]
     refine aw (by omega) (ai (by omega) (al _ (rB hn p (by omega) (by omega)) (al _ (ih _ hm _ (by simp only [List.length_append,List.length_cons,List.length_nil]; omega)) (ai (by omega) (ai (aC (by omega) (by omega)) ?_)))))
     have:=jK (P:=λ j=>Ev2 (λ n m=>cq (de n) v p m (o++lvs (lat v.fItems (i:Int)) (p++[eA v.fKind v.fKeys i])) j) _) (ihk (i+1) (o++lvs (lat v.fItems (i:Int)) (p++[eA v.fKind v.fKeys i])) (by omega) (by rw [List.length_append]; omega))
     rw [← List.append_assoc]; exact this
   refine al _ (aT (f:=λ n m=>cq (de n) v p m [] 0) (loop v.fItems.length 0 [] (by omega) (by simp only [List.length_nil,List.drop_zero]; omega))) (ac (by simp))
theorem Ac {a:ab}(ha:ab.Bd a)(b:ab):Ev2 (λ n _ =>
  if a.fKind=b.fKind then
   if a.fKind=4 then
   if (a.fItems.length:Int)=(b.fItems.length:Int) then
    (ba n a.fKeys b.fKeys).bind λ r7 =>
    some r7
   else
    some false
   else
   if a.fKind=5 then
    if (a.fItems.length:Int)=(b.fItems.length:Int) then
    (ba n a.fKeys b.fKeys).bind λ r11 =>
    some r11
    else
    some false
   else
    some false
  else
   some false) (·=sv a b):=by
 unfold sv
 refine ak (λ h1=>ak (λ h4=>ak (λ hl=>?_) (λ hl=>ac ?_)) (λ h4=>ak (λ h5=>ak (λ hl=>?_) (λ hl=>ac ?_)) (λ h5=>ac ?_))) (λ h1=>ac ?_)
 ·have hl:a.fItems.length=b.fItems.length:=by omega
  exact al _ (uX _ _ ha.bKeys) (ac (by simp [h1 ▸ h4,h1,hl]))
 ·have hl:¬ a.fItems.length=b.fItems.length:=by omega
  simp [hl]
 ·have hl:a.fItems.length=b.fItems.length:=by omega
  exact al _ (uX _ _ ha.bKeys) (ac (by simp [h1 ▸ h5,h1,hl]))
 ·have hl:¬ a.fItems.length=b.fItems.length:=by omega
  simp [hl]
 ·simp [h4,h5]
 ·simp [h1]
theorem yK {a:ab}(ha:ab.Bd a)(b:ab):Ev2 (λ n _=>jw n a b) (·=sv a b):=by
 have hk:=ha.bKeys
 unfold fS at hk
 simp only [jw]
 refine al (!(decide (a.fKind=b.fKind)&&(decide (a.fKind=4)||decide (a.fKind=5))&&decide (a.fItems.length=b.fItems.length)&&decide (a.fKeys.length=b.fKeys.length))) ?_ ?_
 ·refine ak (λ h1=>ak (λ h4=>ak (λ hl=>ac ?_) (λ hl=>ac ?_)) (λ h4=>ak (λ h5=>ak (λ hl=>ac ?_) (λ hl=>ac ?_)) (λ h5=>ac ?_))) (λ h1=>ac ?_)
  ·have hl:a.fItems.length=b.fItems.length:=by omega
   simp [h1 ▸ h4,h1,hl]; omega
  ·have hl:¬ a.fItems.length=b.fItems.length:=by omega
   simp [hl]
  ·have hl:a.fItems.length=b.fItems.length:=by omega
   simp [h1 ▸ h5,h1,hl]; omega
  ·have hl:¬ a.fItems.length=b.fItems.length:=by omega
   simp [hl]
  ·simp [h4,h5]
  ·simp [h1]
 ·have ht:sv a b=((decide (a.fKind=b.fKind)&&(decide (a.fKind=4)||decide (a.fKind=5))&&decide (a.fItems.length=b.fItems.length)&&decide (a.fKeys.length=b.fKeys.length))&&eC (λ i=>eqS (a.fKeys.getD i default) (b.fKeys.getD i default)) 0 a.fKeys.length):=by
   unfold sv
   rw [lQ eqS]
   simp only [Bool.and_assoc]
  refine ak (λ h=>ac ?_) (λ h=>?_)
  ·rw [ht,nt h]; rfl
  ·rw [ht,nf h,Bool.true_and,← Bool.and_true (eC _ 0 a.fKeys.length)]
   have hl:a.fKeys.length=b.fKeys.length:=by
    have:=nf h
    simp only [Bool.and_eq_true,decide_eq_true_eq] at this
    exact this.2
   refine pN (f:=λ n m i=>dY a b m i) (li a.fKeys.length _ ?_ (λ i hi P h1 h2=>?_) a.fKeys.length 0 (by omega)) (ac rfl)
   ·refine aA ?_
    simp only [dY]
    exact ax (by omega) (ac rfl)
   ·refine aA ?_
    simp only [dY]
    refine aw (by omega) (ai (by omega) (ai (by omega) ?_))
    exact ak (λ h=>ai (aC (by omega) (by omega)) (h1 (decide_eq_true h))) (λ h=>ac (h2 (decide_eq_false h)))
theorem vF {a b:ab}(h:sv a b=true):a.fItems.length=b.fItems.length:=by
 unfold sv at h
 simp only [Bool.and_eq_true,decide_eq_true_eq] at h
 exact h.1.2
theorem xG {a:ab}(ha:GV a):ab.Bd a→∀ (b:ab) (p:List aa),p.length+cI a≤1000→Ev2 (λ n _=>bR n p a b) (·=dfs a b p):=by
 induction ha with
 | @mk v hn hl ih =>
  intro hb w p hp
  have hlen:=iT v.fItems
  have hne:=dh v
  refine fe ?_
  simp only [bR]
  rw [sy]
  refine al _ (uA hb w) (ak (λ h=>ac (by rw [if_pos h])) (λ h=>?_))
  rw [if_neg h]
  refine al _ (Ac hb w) (ak (λ h2=>?_) (λ h2=>?_))
  ·rw [if_neg (by rw [nt h2]; decide)]
   exact al _ (aO (mZ p (by omega)) rfl) (ac rfl)
  ·have h2:=nf h2
   have hw:=vF h2
   rw [if_pos h2]
   have loop:∀ (k i:Nat) (o:List (List aa)),i+k=v.fItems.length→o.length+bV (v.fItems.drop i)≤1000→Ev2 (λ n m=>bE (bR n) p v w m o (i:Int)) (·=o++lc v.fKind v.fKeys i (v.fItems.drop i) (w.fItems.drop i) p):=by
    intro k
    induction k with
    | zero =>
     intro i o hi ho
     refine aA ?_
     simp only [bE]
     refine ax (by omega) (ac ?_)
     rw [List.drop_eq_nil_of_le (by omega)]; simp [lc]
    | succ k ihk =>
     intro i o hi ho
     have hd:=cz v.fItems (i:=i) (by omega)
     have hd2:=cz w.fItems (i:=i) (by omega)
     have hm:lat v.fItems (i:Int)∈v.fItems:=List.mem_of_mem_drop (hd ▸ List.mem_cons_self)
     have hc:=eF hm
     have hll:=pD _ (lat v.fItems (i:Int)) (lat w.fItems (i:Int)) (p++[eA v.fKind v.fKeys i]) (Nat.le_refl _)
     rw [hd] at ho
     rw [hd,hd2]
     simp only [bV] at ho
     refine aA ?_
     simp only [bE,lc]
     refine aw (by omega) (al _ (tc hn p (by omega) (by omega)) (ai (by omega) (ai (by omega) (al _ (ih _ hm (hb.eItems _ hm) _ _ (by simp only [List.length_append,List.length_cons,List.length_nil]; omega)) (ai (by omega) (ai (aC (by omega) (by omega)) ?_))))))
     have:=jK (P:=λ j=>Ev2 (λ n m=>bE (bR n) p v w m (o++dfs (lat v.fItems (i:Int)) (lat w.fItems (i:Int)) (p++[eA v.fKind v.fKeys i])) j) _) (ihk (i+1) (o++dfs (lat v.fItems (i:Int)) (lat w.fItems (i:Int)) (p++[eA v.fKind v.fKeys i])) (by omega) (by rw [List.length_append]; omega))
     rw [← List.append_assoc]; exact this
   refine al _ (aT (f:=λ n m=>bE (bR n) p v w m [] 0) (loop v.fItems.length 0 [] (by omega) (by simp only [List.length_nil,List.drop_zero]; omega))) (ac (by simp))
theorem wq {a:ab}(ha:GV a):ab.Bd a→∀ (b:ab) (p:List aa),p.length+cI a≤1000→Ev2 (λ n _=>ec n a b p) (·=dfs a b p):=by
 induction ha with
 | @mk v hn hl ih =>
  intro hb w p hp
  have hlen:=iT v.fItems
  have hne:=dh v
  refine fe ?_
  simp only [ec]
  rw [sy]
  refine al _ (sU hb w) (ak (λ h=>ac (by rw [if_pos h])) (λ h=>?_))
  rw [if_neg h]
  refine al _ (yK hb w) (ak (λ h2=>?_) (λ h2=>?_))
  ·rw [if_neg (by rw [nt h2]; decide)]
   exact ac rfl
  ·have h2:=nf h2
   have hw:=vF h2
   rw [if_pos h2]
   have loop:∀ (k i:Nat) (o:List (List aa)),i+k=v.fItems.length→o.length+bV (v.fItems.drop i)≤1000→Ev2 (λ n m=>cU (ec n) v w p m o (i:Int)) (·=o++lc v.fKind v.fKeys i (v.fItems.drop i) (w.fItems.drop i) p):=by
    intro k
    induction k with
    | zero =>
     intro i o hi ho
     refine aA ?_
     simp only [cU]
     refine ax (by omega) (ac ?_)
     rw [List.drop_eq_nil_of_le (by omega)]; simp [lc]
    | succ k ihk =>
     intro i o hi ho
     have hd:=cz v.fItems (i:=i) (by omega)
     have hd2:=cz w.fItems (i:=i) (by omega)
     have hm:lat v.fItems (i:Int)∈v.fItems:=List.mem_of_mem_drop (hd ▸ List.mem_cons_self)
     have hc:=eF hm
     have hll:=pD _ (lat v.fItems (i:Int)) (lat w.fItems (i:Int)) (p++[eA v.fKind v.fKeys i]) (Nat.le_refl _)
     rw [hd] at ho
     rw [hd,hd2]
     simp only [bV] at ho
     refine aA ?_
     simp only [cU,lc]
     refine aw (by omega) (ai (by omega) (ai (by omega) (al _ (rB hn p (by omega) (by omega)) (al _ (ih _ hm (hb.eItems _ hm) _ _ (by simp only [List.length_append,List.length_cons,List.length_nil]; omega)) (ai (by omega) (ai (aC (by omega) (by omega)) ?_))))))
     have:=jK (P:=λ j=>Ev2 (λ n m=>cU (ec n) v w p m (o++dfs (lat v.fItems (i:Int)) (lat w.fItems (i:Int)) (p++[eA v.fKind v.fKeys i])) j) _) (ihk (i+1) (o++dfs (lat v.fItems (i:Int)) (lat w.fItems (i:Int)) (p++[eA v.fKind v.fKeys i])) (by omega) (by rw [List.length_append]; omega))
     rw [← List.append_assoc]; exact this
   refine al _ (aT (f:=λ n m=>cU (ec n) v w p m [] 0) (loop v.fItems.length 0 [] (by omega) (by simp only [List.length_nil,List.drop_zero]; omega))) (ac (by simp))
theorem lw:∀ (N:Nat) (v:ab) (p:List aa),cI v≤N→∀ q∈lvs v p,q.length≤p.length+cI v
 | 0,v,p,h=>absurd h (by rw [dh]; omega)
 | N+1,v,p,h=>by
  intro q hq
  rw [lu] at hq
  split at hq
  ·rw [List.mem_singleton.1 hq]; omega
  ·have:∀ (l:List ab) (i:Nat),(∀ x∈l,x∈v.fItems)→q∈gN v.fKind v.fKeys i l p→q.length≤p.length+cI v:=by
    intro l
    induction l with
    | nil=>intro i _ hq; simp [gN] at hq
    | cons x r ih =>
     intro i hl hq
     simp only [gN,List.mem_append] at hq
     rcases hq with hq | hq
     ·have hc:=eF (hl x List.mem_cons_self)
      have:=lw N x _ (by omega) q hq
      simp only [List.length_append,List.length_cons,List.length_nil] at this; omega
     ·exact ih (i+1) (λ y hy=>hl y (List.mem_cons_of_mem _ hy)) hq
   exact this v.fItems 0 (λ x hx=>hx) hq
theorem mV:∀ (N:Nat) (v w:ab) (p:List aa),cI v≤N→∀ q∈dfs v w p,q.length≤p.length+cI v
 | 0,v,w,p,h=>absurd h (by rw [dh]; omega)
 | N+1,v,w,p,h=>by
  intro q hq
  rw [sy] at hq
  split at hq
  ·simp at hq
  ·split at hq
   ·have:∀ (l z:List ab) (i:Nat),(∀ x∈l,x∈v.fItems)→q∈lc v.fKind v.fKeys i l z p→q.length≤p.length+cI v:=by
     intro l
     induction l with
     | nil=>intro z i _ hq; simp [lc] at hq
     | cons x r ih =>
      intro z i hl hq
      cases z with
      | nil=>simp [lc] at hq
      | cons y z =>
       simp only [lc,List.mem_append] at hq
       rcases hq with hq | hq
       ·have hc:=eF (hl x List.mem_cons_self)
        have:=mV N x y _ (by omega) q hq
        simp only [List.length_append,List.length_cons,List.length_nil] at this; omega
       ·exact ih z (i+1) (λ y hy=>hl y (List.mem_cons_of_mem _ hy)) hq
    exact this v.fItems w.fItems 0 (λ x hx=>hx) hq
   ·rw [List.mem_singleton.1 hq]; omega
theorem sN (a:List (List aa))(ha:a.length≤1000000)(hp:∀ q∈a,q.length≤1000000):Ev2 (λ n _=>jh n a a) (·=true):=by
 simp only [jh]
 have loop:∀ (k i:Nat),i+k=a.length→Ev2 (λ n m=>dw n a a m (i:Int)) (·=.inl ()):=by
  intro k
  induction k with
  | zero =>
   intro i hi
   refine aA ?_
   simp only [dw]
   exact ax (by omega) (ac rfl)
  | succ k ih =>
   intro i hi
   have hd:=cz a (i:=i) (by omega)
   have hm:lat a (i:Int)∈a:=List.mem_of_mem_drop (hd ▸ List.mem_cons_self)
   refine aA ?_
   simp only [dw]
   refine aw (by omega) (ai (by omega) (ai (by omega) (al _ (nP _ (by have:=hp _ hm; omega)) (ax (by decide) (ai (aC (by omega) (by omega)) ?_)))))
   exact jK (P:=λ j=>Ev2 (λ n m=>dw n a a m j) _) (ih (i+1) (by omega))
 exact aw trivial (cP () (aT (f:=λ n m=>dw n a a m 0) (loop a.length 0 (by omega))) (ac rfl))
theorem wI {a b:ab}(ha:ab.Bd a)(hb:ab.Bd b):Ev2 (λ n _=>gg n a b) (·=true):=by
 simp only [gg]
 refine bD (λ t=>t=false→GV a∧cI a≤200) ?_ (λ t ht=>?_)
 ·refine bD _ (sX ha) (λ r hr=>ak (λ _=>ac (λ q=>by cases q)) (λ h=>?_))
  exact bD _ (sX hb) (λ _ _=>ac (λ _=>hr (by simpa using h)))
 ·refine ak (λ _=>al _ eR (ac rfl)) (λ h=>?_)
  obtain ⟨g,hn⟩:=ht (by simpa using h)
  have d1:=xG g ha b [] (by simp only [List.length_nil]; omega)
  have d2:=wq g ha b [] (by simp only [List.length_nil]; omega)
  have l1:=rA g [] (by simp only [List.length_nil]; omega)
  have l2:=uc g [] (by simp only [List.length_nil]; omega)
  refine al true ?_ (ac rfl)
  have e1:Ev2 (λ n _=>j8 n a b) (·=dfs a b []):=by simp only [j8]; exact al _ d1 (ac rfl)
  have e2:Ev2 (λ n _=>jI n a b) (·=dfs a b []):=by simp only [jI]; exact al _ d2 (ac rfl)
  have e3:Ev2 (λ n _=>eM n a) (·=lvs a []):=by simp only [eM]; exact al _ l1 (ac rfl)
  have e4:Ev2 (λ n _=>g7 n a) (·=lvs a []):=by simp only [g7]; exact al _ l2 (ac rfl)
  have n1:=pD _ a b [] (Nat.le_refl _)
  have n2:=ns _ a [] (Nat.le_refl _)
  have p1:=sN (dfs a b []) (by omega) (λ q hq=>by have:=mV _ a b [] (Nat.le_refl _) q hq; simp only [List.length_nil] at this; omega)
  have p2:=sN (lvs a []) (by omega) (λ q hq=>by have:=lw _ a [] (Nat.le_refl _) q hq; simp only [List.length_nil] at this; omega)
  refine al _ e1 (al _ e2 (al _ p1 (aw rfl (al _ e3 (al _ e4 (al _ p2 (aw rfl (al _ eR (ac rfl)))))))))
end Go.Ab.R06
end
section
namespace Go.Ab.R06
open Go.Proofs Go.Ab Go.Ab.RB
theorem mC {n:Nat}{a:PV}(h1:WTf tt n 33 a.cells)(h2:a=mkE (((look tt 33).map (·.k.isAgg)).getD false) a.cells):∃ v:ab,a=.agg (ab.cs v)∧ab.Bd v:=by
 obtain ⟨v,e,b⟩:=ab.dec n _ h1
 exact ⟨v,xi e h2,b⟩
theorem ww (qs:List PV)(h:WTa tt [33,33] qs):au Tryz.prog 10 qs (·=.p (.val (.bool true))):=by
 match qs,h with
 | [a,b],⟨⟨n,h1,h2⟩,⟨m,k1,k2⟩,_⟩ =>
  obtain ⟨x,rfl,b1⟩:=mC h1 h2
  obtain ⟨y,rfl,b2⟩:=mC k1 k2
  obtain ⟨n,r,hr,rfl⟩:=qz (wI b1 b2)
  exact mH n x y true hr
end Go.Ab.R06
end
section
namespace Go.Ab.R06
open Go.Proofs Go.Ab Go.Ab.RB
attribute [local irreducible] awp eQ aU au bH AV.sub M cC
def bG (n:Nat)(r10:(List (List aa)))(i38:Int):Nat→Int→Option (Unit⊕(Unit⊕Bool))
 | 0,_=>none
 | m+1,k54 =>
 if k54 < i38 then
  ck ((0:Int)≤i38∧i38 < (r10.length:Int)) <|
  ck ((0:Int)≤k54∧k54 < (r10.length:Int)) <|
  (et n (lat r10 i38) (lat r10 k54)).bind λ r58 =>
  if r58=true then
   some (.inr (.inr false))
  else
   ck (inR (k54+1)) <|
   bG n r10 i38 m (k54+1)
 else
  some (.inl ())
def bF (n:Nat)(v_0:ab)(r10:(List (List aa))):Nat→Int→Option (Unit⊕Bool)
 | 0,_=>none
 | m+1,i38 =>
 if i38 < (r10.length:Int) then
  ck ((0:Int)≤i38∧i38 < (r10.length:Int)) <|
  (fU n v_0 (lat r10 i38)).bind λ r41 =>
  (
    if r41.2=0 then
     some (decide (0 < (r41.1.fItems.length:Int)))
    else
     some true
   : Option Bool).bind λ t44 =>
  if t44=true then
   some (.inr false)
  else
   jn (bG n r10 i38 n 0) λ _q72 =>
   ck (inR (i38+1)) <|
   bF n v_0 r10 m (i38+1)
 else
  some (.inl ())
def fx (n:Nat)(v_0:ab):Option Bool :=
 (
   (gC n v_0 100).bind λ r1 =>
   if (!r1)=true then
    some true
   else
    (gJ n v_0).bind λ r4 =>
    some (!decide (r4=0))
  : Option Bool).bind λ t6 =>
 if t6=true then
  (bK n).bind λ r8 =>
  some r8
 else
  (eM n v_0).bind λ r10 =>
  jn (bF n v_0 r10 n 0) λ _q70 =>
  (
    if 0 < (r10.length:Int) then
     (bK n).bind λ r66 =>
     some r66
    else
     some false
   : Option Bool).bind λ t68 =>
  some t68
theorem me (n:Nat)(v_0:ab)(r:Bool)(h0:fx n v_0=some r):au Tryz.prog 7 [.agg (ab.cs v_0)] (·=.p (eB r)):=by
 unfold fx at h0
 refine aH good Tryz.func7 rfl rfl rfl λ w0=>mP (λ v:Bool=>.p (eB v)) ?_
 refine nx 7 rfl (bd h0 λ o74 h1 h0=>?_)
 refine kN o74 (λ v75=>⟨[(1,.ptr 1 0),(15,.p (eB v75))],[(1,(ab.cs v_0).map .p)]⟩) ?_ ?_
 ·refine nx 1 rfl (fB [15] h0 rfl (λ c7 h0=>?_) λ c7 h0=>?_)
  ·refine nx 3 rfl (bd h0 λ r8 e9 h0=>?_)
   refine oK (bZ _  _ e9) rfl trivial Tryz.call11 rfl (nx 3 rfl ?_)
   exact mQ (oi h0) rfl (sr)
  refine nx 5 rfl (bd h0 λ r10 e11 h0=>?_)
  refine oK (jz _ v_0 _ e11) rfl ⟨sr,trivial⟩ Tryz.call28 rfl (nx 8 rfl ?_)
  obtain ⟨o76,h1,hL0,hR0⟩:=cn h0
  refine kEx 0 (λ v77:Unit=>o76=.inl v77) (λ v77=>⟨[(3,.p (eL (eL ae) r10))],[]⟩) (λ v77 hv=>?_) ?_
  ·have h0:=hL0 _ hv
   refine nx 2 rfl (bd h0 λ o78 h1 h0=>?_)
   refine kN o78 (λ v79=>⟨[(2,.p (eB v79))],[]⟩) ?_ ?_
   ·exact nx 2 rfl (mQ (oi h0) rfl (sr))
   refine nx 2 rfl (oLl (f:=(eL ae)) rfl rfl ?_)
   refine nx 2 rfl (fD [58,59] h1 rfl (λ c65 h1=>?_) λ c65 h1=>?_)
   ·refine bd h1 λ r66 e67 h1=>oK (bZ _  _ e67) rfl trivial Tryz.call11 rfl (nx 3 rfl ?_)
    exact eX _ (oi h1).symm (gE rfl rfl)
   exact nx 4 rfl (eX _ (oi h1).symm (gE rfl rfl))
  refine lG (λ (q80:Int)=>⟨[(1,.ptr 1 0),(3,.p (eL (eL ae) r10)),(4,.p (eI q80))],[(1,(ab.cs v_0).map .p)]⟩) (λ m (q80:Int)=>bF n v_0 r10 m q80) (λ _=>rfl) 0 h1 (gE rfl rfl) ?_
  rintro m i38 h1
  replace h1:bF n v_0 r10 (m+1) i38=some o76:=h1
  rw [bF] at h1
  refine nx 5 rfl (oLl (f:=(eL ae)) rfl rfl ?_)
  refine nx 2 rfl (fD [22] h1 rfl (λ c39 h1=>?_) λ c39 h1=>?_)
  ·refine nx 5 rfl (cc' h1 λ hk40 h1=>?_)
   refine bd h1 λ r41 e42 h1=>mG (gE (t:=⟨[(1,.ptr 1 0),(3,.p (eL (eL ae) r10)),(4,.p (eI i38))],[(1,(ab.cs v_0).map .p)]⟩) rfl rfl) (mS ⟨2,[9,10],(by3 (.some λ i=>Nat.beq i 5) .none .none),(λ _=>[(1,.ptr 1 0),(3,.p (eL (eL ae) r10)),(4,.p (eI i38))]),(by3 ([(1,[.p (eI v_0.fKind),.p (eI v_0.fNum),.p (eS v_0.fStr),.p (eL ah v_0.fItems),.p (eL eS v_0.fKeys)])]) ([(5,[.p (eI 0),.p (eI 0),.p (eS ([]:Bytes)),.p (.val (.slice none 0 0)),.p (.val (.slice none 0 0))]),(1,[.p (eI v_0.fKind),.p (eI v_0.fNum),.p (eS v_0.fStr),.p (eL ah v_0.fItems),.p (eL eS v_0.fKeys)])]) ([(5,[.p (eI r41.1.fKind),.p (eI r41.1.fNum),.p (eS r41.1.fStr),.p (eL ah r41.1.fItems),.p (eL eS r41.1.fKeys)]),(5,[.p (eI 0),.p (eI 0),.p (eS ([]:Bytes)),.p (.val (.slice none 0 0)),.p (.val (.slice none 0 0))]),(1,[.p (eI v_0.fKind),.p (eI v_0.fNum),.p (eS v_0.fStr),.p (eL ah v_0.fItems),.p (eL eS v_0.fKeys)])]))⟩ rfl rfl rfl ⟨rfl,rfl,rfl,trivial⟩ (lt2 ⟨rfl,rfl,rfl,trivial⟩ ⟨rfl,rfl,rfl,trivial⟩) rfl rfl rfl rfl ?_)
   refine ap (λ _=>.p (.agg (ab.cs v_0))) rfl rfl rfl (bc rfl rfl (λ _=>rfl)) (lt2 rfl rfl) (ar rfl (ag [(1,_)] ⟨.inl rfl,trivial⟩ (λ sl hsl K hK=>af rfl (bg rfl rfl rfl rfl rfl (hsl _ _ rfl) rfl rfl rfl hK)) (ag [(1,_)] ⟨.inl rfl,trivial⟩ (λ sl hsl K hK=>af rfl (bg rfl rfl rfl rfl rfl (hsl _ _ rfl) rfl rfl rfl hK)) ao))) (ap (λ _=>.p (eL (eL ae) r10)) rfl rfl rfl (bc rfl rfl (λ _=>rfl)) (lt2 rfl rfl) (ar rfl (ag [(3,_)] ⟨.inl rfl,trivial⟩ (λ sl hsl K hK=>af rfl (aI rfl rfl rfl (hsl _ _ rfl) hK)) (ag [(3,_)] ⟨.inl rfl,trivial⟩ (λ sl hsl K hK=>af rfl (aI rfl rfl rfl (hsl _ _ rfl) hK)) ao))) ?_)
   refine ap (λ _=>.p (eI i38)) rfl rfl rfl (bc rfl rfl (λ _=>rfl)) (lt2 rfl rfl) (ar rfl (ag [(4,_)] ⟨.inl rfl,trivial⟩ (λ sl hsl K hK=>af rfl (aI rfl rfl rfl (hsl _ _ rfl) hK)) (ag [(4,_)] ⟨.inl rfl,trivial⟩ (λ sl hsl K hK=>af rfl (aI rfl rfl rfl (hsl _ _ rfl) hK)) ao))) (ap (λ _=>.rptr [(eL ae) (lat r10 i38)]) rfl rfl rfl (bc rfl rfl (λ _=>rfl)) (lt2 rfl rfl) (ar rfl (ag [(27,_),(28,_)] ⟨.inr ⟨1,_,rfl,rfl,rfl⟩,.inr ⟨2,_,rfl,rfl,rfl⟩,trivial⟩ (λ sl hsl K hK=>af rfl (dQ (f:=(eL ae)) (l:=r10) (λ x=>[(eL ae) x]) rfl rfl rfl rfl rfl rfl (hsl _ _ rfl) rfl (hsl _ _ rfl) hk40 (λ _=>rfl) (λ _=>rfl) hK)) (ag [(27,_),(28,_)] ⟨.inr ⟨1,_,rfl,rfl,rfl⟩,.inr ⟨2,_,rfl,rfl,rfl⟩,trivial⟩ (λ sl hsl K hK=>af rfl (dQ (f:=(eL ae)) (l:=r10) (λ x=>[(eL ae) x]) rfl rfl rfl rfl rfl rfl (hsl _ _ rfl) rfl (hsl _ _ rfl) hk40 (λ _=>rfl) (λ _=>rfl) hK)) ao))) ?_)
   refine ap (λ _=>.p (eL ae (lat r10 i38))) rfl rfl rfl (bc rfl rfl (λ _=>rfl)) (lt2 rfl rfl) (ar rfl (ag [(29,_)] ⟨.inr ⟨3,_,rfl,rfl,rfl⟩,trivial⟩ (λ sl hsl K hK=>af rfl (lL rfl rfl rfl rfl rfl (hsl _ _ rfl) rfl hK)) (ag [(29,_)] ⟨.inr ⟨3,_,rfl,rfl,rfl⟩,trivial⟩ (λ sl hsl K hK=>af rfl (lL rfl rfl rfl rfl rfl (hsl _ _ rfl) rfl hK)) ao))) (ap (λ _=>.tuple [.p (.agg (ab.cs r41.1)),.p (eI r41.2)]) rfl rfl rfl (bc rfl rfl (λ _=>rfl)) (lt2 rfl rfl) (ar rfl (ag [(26,_),(30,_)] ⟨.inr ⟨0,_,rfl,rfl,rfl⟩,.inr ⟨4,_,rfl,rfl,rfl⟩,trivial⟩ (λ sl hsl K hK=>af rfl (aF (gG _ v_0 (lat r10 i38) _ e42) rfl rfl rfl (aj (hsl _ _ rfl) (aj (hsl _ _ rfl) aE)) ⟨sr,sr,trivial⟩ Tryz.call18 rfl hK)) (ag [(26,_),(30,_)] ⟨.inr ⟨0,_,rfl,rfl,rfl⟩,.inr ⟨4,_,rfl,rfl,rfl⟩,trivial⟩ (λ sl hsl K hK=>af rfl (aF (gG _ v_0 (lat r10 i38) _ e42) rfl rfl rfl (aj (hsl _ _ rfl) (aj (hsl _ _ rfl) aE)) ⟨sr,sr,trivial⟩ Tryz.call18 rfl hK)) ao))) ?_)
   refine ap (λ _=>.tuple [.p (.agg (ab.cs r41.1)),.p (eI r41.2)]) rfl rfl rfl (bc rfl rfl (λ _=>rfl)) (lt2 rfl rfl) (ar rfl (ag [(31,_)] ⟨.inr ⟨5,_,rfl,rfl,rfl⟩,trivial⟩ (λ sl hsl K hK=>af rfl (aI rfl rfl rfl (hsl _ _ rfl) hK)) (ag [(31,_)] ⟨.inr ⟨5,_,rfl,rfl,rfl⟩,trivial⟩ (λ sl hsl K hK=>af rfl (aI rfl rfl rfl (hsl _ _ rfl) hK)) ao))) (ap (λ _=>.p (.agg (ab.cs r41.1))) rfl rfl rfl (bc rfl rfl (λ _=>rfl)) (lt2 rfl rfl) (ar rfl (ag [(25,_)] ⟨.inr ⟨6,_,rfl,rfl,rfl⟩,trivial⟩ (λ sl hsl K hK=>af rfl (aW rfl rfl rfl (hsl _ _ rfl) rfl hK)) (ag [(25,_)] ⟨.inr ⟨6,_,rfl,rfl,rfl⟩,trivial⟩ (λ sl hsl K hK=>af rfl (aW rfl rfl rfl (hsl _ _ rfl) rfl hK)) ao))) ?_)
   refine ap (λ _=>.p (eI r41.2)) rfl rfl rfl (bc rfl rfl (λ _=>rfl)) (lt2 rfl rfl) (ag [(25,_)] ⟨.inr ⟨6,_,rfl,rfl,rfl⟩,trivial⟩ (λ sl hsl K hK=>af rfl (aW rfl rfl rfl (hsl _ _ rfl) rfl hK)) (ag [(25,_)] ⟨.inr ⟨6,_,rfl,rfl,rfl⟩,trivial⟩ (λ sl hsl K hK=>af rfl (aW rfl rfl rfl (hsl _ _ rfl) rfl hK)) (ag [(25,_)] ⟨.inr ⟨6,_,rfl,rfl,rfl⟩,trivial⟩ (λ sl hsl K hK=>af rfl (aW rfl rfl rfl (hsl _ _ rfl) rfl hK)) ao))) (fv (λ _=>.ptr 5 0) [] rfl trivial rfl rfl (dV rfl (λ _=>rfl)) (lt2 (λ h=>absurd h (by decide)) (λ _=>rfl)) (λ sl hsl K hK=>af rfl (jq rfl rfl rfl rfl rfl hK)) ?_)
   refine gQ [(5,_),(32,_)] rfl ⟨.inr ⟨9,_,rfl,rfl,rfl⟩,.inr ⟨7,_,rfl,rfl,rfl⟩,trivial⟩ rfl (λ sl hsl K hK=>af rfl (fW rfl rfl rfl (hsl _ _ rfl) (hsl _ _ rfl) rfl rfl rfl (Nat.le_of_ble_eq_true rfl) hK)) (ap (λ _=>.p (eI r41.2)) rfl rfl rfl (bc rfl rfl (λ _=>rfl)) (lt2 rfl rfl) (ag [(33,_)] ⟨.inr ⟨8,_,rfl,rfl,rfl⟩,trivial⟩ (λ sl hsl K hK=>af rfl (bw rfl rfl rfl (hsl _ _ rfl) hK)) (ar rfl (ar rfl ao))) ?_)
   refine hC (nx 3 rfl ?_)
   refine bd h1 λ o81 h2 h1=>kN o81 (λ v82=>⟨[(1,.ptr 1 0),(3,.p (eL (eL ae) r10)),(4,.p (eI i38)),(41,.p (eB v82))],[(1,(ab.cs v_0).map .p)]⟩) ?_ ?_
   ·refine nx 1 rfl (fB [41] h1 rfl (λ c45 h1=>?_) λ c45 h1=>?_)
    ·exact nx 6 rfl (mQ (hR0 _ (oi h1).symm) rfl (sr))
    refine nx 7 rfl ?_
    obtain ⟨o83,h2,hL1,hR1⟩:=cn h1
    refine kEx 2 (λ v84:Unit=>o83=.inl v84) (λ v84=>⟨[(1,.ptr 1 0),(3,.p (eL (eL ae) r10)),(4,.p (eI i38))],[(1,(ab.cs v_0).map .p)]⟩) (λ v84 hv=>?_) ?_
    ·have h1:=hL1 _ hv
     refine nx 3 rfl (oA h1 rfl rfl λ hk63 h1=>?_)
     exact nx 2 rfl (eX (i38+1) h1 (gE rfl rfl))
    refine lG (λ (q85:Int)=>⟨[(1,.ptr 1 0),(3,.p (eL (eL ae) r10)),(4,.p (eI i38)),(7,.p (eI q85))],[(1,(ab.cs v_0).map .p)]⟩) (λ m (q85:Int)=>bG n r10 i38 m q85) (λ _=>rfl) 0 h2 (gE rfl rfl) ?_
    rintro m k54 h2
    replace h2:bG n r10 i38 (m+1) k54=some o83:=h2
    rw [bG] at h2
    refine nx 7 rfl (fD [44] h2 rfl (λ c55 h2=>?_) λ c55 h2=>?_)
    ·refine nx 5 rfl (cc' h2 λ hk56 h2=>?_)
     refine cc' h2 λ hk57 h2=>bd h2 λ r58 e59 h2=>mD [(1,.ptr 1 0),(3,.p (eL (eL ae) r10)),(4,.p (eI i38)),(7,.p (eI k54))] rfl ⟨rfl,rfl,rfl,rfl,trivial⟩ rfl (dR 2 rfl ?_)
     refine dq (.rptr [(eL ae) (lat r10 i38)]) [47,48] rfl (λ _ e _ q=>af rfl (dQ (f:=(eL ae)) (l:=r10) (λ x=>[(eL ae) x]) rfl rfl rfl rfl rfl rfl (e _ _ rfl) rfl (e _ _ rfl) hk56 (λ _=>rfl) (λ _=>rfl) q)) rfl (dR 3 rfl ?_)
     refine dq (.rptr [(eL ae) (lat r10 k54)]) [51,52] rfl (λ _ e _ q=>af rfl (dQ (f:=(eL ae)) (l:=r10) (λ x=>[(eL ae) x]) rfl rfl rfl rfl rfl rfl (e _ _ rfl) rfl (e _ _ rfl) hk57 (λ _=>rfl) (λ _=>rfl) q)) rfl (dR 1 rfl ?_)
     refine dq (.p (eB r58)) [50,54] rfl (λ _ e _ q=>af rfl (aF (iy _ (lat r10 i38) (lat r10 k54) _ e59) rfl rfl rfl (aj (e _ _ rfl) (aj (e _ _ rfl) aE)) ⟨sr,sr,trivial⟩ Tryz.call14 rfl q)) rfl (dE rfl ?_)
     refine nx 1 rfl (fB [55] h2 rfl (λ c60 h2=>?_) λ c60 h2=>?_)
     ·exact nx 6 rfl (mQ (hR0 _ (hR1 _ (oi h2).symm).symm) rfl (sr))
     refine nx 4 rfl (oA h2 rfl rfl λ hk61 h2=>?_)
     exact nx 2 rfl (eX (k54+1) h2 (gE rfl rfl))
    exact nx 2 rfl (eXi _ (oi h2).symm (gE rfl rfl))
   refine nx 4 rfl (fN [35,36] h2 rfl (λ c43 h2=>?_) λ c43 h2=>?_)
   ·refine nx 2 rfl (oLl (f:=ah) rfl rfl ?_)
    exact nx 3 rfl (eX _ (oi h2).symm (gE rfl rfl))
   exact nx 6 rfl (eX _ (oi h2).symm (gE rfl rfl))
  exact nx 2 rfl (eXi _ (oi h1).symm (gE rfl rfl))
 refine nx 2 rfl (bd h1 λ r1 e2 h1=>?_)
 refine oK (lf _ v_0 100 _ e2) rfl ⟨sr,sr,trivial⟩ Tryz.call26 rfl (nx 2 rfl ?_)
 refine fB [10,11] h1 rfl (λ c3 h1=>?_) λ c3 h1=>?_
 ·exact nx 5 rfl (eX _ (oi h1).symm (gE rfl rfl))
 refine nx 1 rfl (bd h1 λ r4 e5 h1=>?_)
 refine oK (lz _ v_0 _ e5) rfl ⟨sr,trivial⟩ Tryz.call27 rfl (nx 3 rfl ?_)
 exact eX _ (oi h1).symm (gE rfl rfl)
end Go.Ab.R06
end
section
namespace Go.Ab.R06
open Go.Ab Go.Ab.RB Go.Lib
theorem ql:∀ a:Bytes,Op.bytesLess a a=false
 | []=>rfl
 | a::x=>by simp [Op.bytesLess,ql x]
theorem xA:∀ {a b c:Bytes},Op.bytesLess a b=true→Op.bytesLess b c=true→Op.bytesLess a c=true
 | _,[],_,h,_=>by simp [Op.bytesLess] at h
 | _,_::_,[],_,h=>by simp [Op.bytesLess] at h
 | [],_::_,_::_,_,_=>rfl
 | a::x,b::y,c::z,h1,h2=>by
  simp only [Op.bytesLess,Bool.or_eq_true,Bool.and_eq_true,decide_eq_true_eq,beq_iff_eq] at h1 h2 ⊢
  rcases h1 with h1 | ⟨rfl,h1⟩
  ·rcases h2 with h2 | ⟨rfl,h2⟩
   ·exact .inl (UInt8.lt_trans h1 h2)
   ·exact .inl h1
  ·rcases h2 with h2 | ⟨rfl,h2⟩
   ·exact .inl h2
   ·exact .inr ⟨rfl,xA h1 h2⟩
theorem xm:∀ {l:List Bytes},Inc l→l.Pairwise λ a b=>Op.bytesLess a b=true
 | [],_=>.nil
 | [x],_=>List.pairwise_singleton _ _
 | x::y::r,h=>by
  have ih:=xm h.2
  refine List.pairwise_cons.2 ⟨λ z hz=>?_,ih⟩
  rcases List.mem_cons.1 hz with rfl | hz
  ·exact h.1
  ·exact xA h.1 ((List.pairwise_cons.1 ih).1 z hz)
theorem rO {l:List Bytes}(h:Inc l){i j:Nat}(hij:i < j)(hj:j < l.length):Op.bytesLess (lat l (i:Int)) (lat l (j:Int))=true:=by
 have:=List.pairwise_iff_getElem.1 (xm h) i j (by omega) hj hij
 rw [lK _ _ (show i < l.length by omega),lK _ _ hj]; exact this
theorem AE (i j:Nat)(h:i+j < 9223372036854775807):bM .u64 (IntKind.wrap .u64 ((i:Int)+(j:Int))) 1=(((i+j) / 2:Nat):Int):=by
 have e:IntKind.wrap .u64 ((i:Int)+(j:Int))=(i:Int)+(j:Int):=by
  simp [IntKind.wrap,IntKind.bits,IntKind.signed]
  omega
 rw [e]
 unfold bM
 have:(2:Int) ^ (min (1:Int).toNat IntKind.u64.bits)=2:=by decide
 rw [this,Int.fdiv_eq_ediv_of_nonneg _ (by decide)]
 omega
theorem vi (x y:Bytes):cmp_Less_string x y=some (Op.bytesLess x y):=by
 unfold cmp_Less_string cmp_isNaN_string
 simp
theorem zT {l:List Bytes}(hl:l.length≤1000000000000000)(h:Inc l){t:Nat}(ht:t < l.length):Ev2 (λ n _=>aM n l (lat l (t:Int))) (·=((t:Int),true)):=by
 simp only [aM]
 have loop:∀ (k i j:Nat),j - i≤k→i≤t→t≤j→j≤l.length→Ev2 (λ _ m=>aB l (lat l (t:Int)) m (i:Int) (j:Int)) (·=(t:Int)):=by
  intro k
  induction k with
  | zero =>
   intro i j hk h1 h2 h3
   refine aA ?_
   simp only [aB]
   exact ax (by omega) (ac (by omega))
  | succ k ih =>
   intro i j hk h1 h2 h3
   refine aA ?_
   simp only [aB]
   rw [AE i j (by omega)]
   refine ak (λ hij=>?_) (λ hij=>ac (by omega))
   by_cases hm:(i+j) / 2 < t
   ·refine al ((((i+j) / 2+1:Nat):Int),(j:Int)) ?_ (ih _ j (by omega) (by omega) h2 h3)
    refine ai (aC (by omega) (by omega)) (ai (by decide) (ai (aC (by omega) (by omega)) (ai (by omega) (al _ (aO (vi _ _) rfl) (aw (rO h hm ht) (ai (aC (by omega) (by omega)) (ac ?_)))))))
    rw [Int.natCast_add]; rfl
   ·have hf:Op.bytesLess (lat l (((i+j) / 2:Nat):Int)) (lat l (t:Int))=false:=by
     rw [← Bool.not_eq_true]
     intro q
     rcases Nat.lt_or_ge t ((i+j) / 2) with h4 | h4
     ·have:=xA (rO h h4 (by omega)) q
      rw [ql] at this; cases this
     ·have:(i+j) / 2=t:=by omega
      rw [this,ql] at q; cases q
    refine al ((i:Int),(((i+j) / 2:Nat):Int)) ?_ (ih i _ (by omega) h1 (by omega) (by omega))
    exact ai (aC (by omega) (by omega)) (ai (by decide) (ai (aC (by omega) (by omega)) (ai (by omega) (al _ (aO (vi _ _) rfl) (ax (by rw [hf]; decide) (ac rfl))))))
 refine al _ (aT (f:=λ _ m=>aB l (lat l (t:Int)) m 0 (l.length:Int)) (loop l.length 0 l.length (by omega) (by omega) (by omega) (by omega))) ?_
 exact al true (aw (by omega) (ai (by omega) (aw rfl (ac rfl)))) (ac rfl)
theorem y7 {v y:ab}(h:y∈v.fItems):SizeOf.sizeOf y < SizeOf.sizeOf v:=by
 cases v
 simp only [ab.fItems] at h
 have:=List.sizeOf_lt_of_mem h
 simp only [ab.mk.sizeOf_spec]
 omega
theorem xt {α:Type} [Inhabited α] (l:List α)(i:Nat)(h:i < l.length):l.set i l[i]=l:=by
 apply List.ext_getElem (by simp)
 intro j h1 h2
 rw [List.getElem_set]
 split
 ·rename_i e; subst e; rfl
 ·rfl
theorem wn:∀ (N:Nat) (v:ab),SizeOf.sizeOf v < N→ab.Bd v→Ev2 (λ n _=>bz n v) (·=v):=by
 have hW:fS≤140737488355328:=by decide
 intro N
 induction N with
 | zero=>intro v h; omega
 | succ N ih =>
  intro v hv hb
  have h1:=hb.bKeys; have h2:=hb.bItems
  refine fe ?_
  simp only [bz]
  refine ai (by omega) (ak (λ h=>?_) (λ h=>ai (by omega) ?_))
  ·have he:v.fItems=[]:=by simpa using h
   refine al () ?_ (ac (by cases v; simp only [ab.fItems] at he; subst he; rfl))
   refine aT (f:=λ n m=>dd (bz n) m) (aA ?_)
   simp only [dd]
   exact ax (by simp) (ac (by trivial))
  ·have loop:∀ (k i:Nat),i+k=v.fItems.length→Ev2 (λ n m=>bW (bz n) v m (i:Int) v.fItems) (·=v.fItems):=by
    intro k
    induction k with
    | zero =>
     intro i hi
     refine aA ?_
     simp only [bW]
     exact ax (by omega) (ac rfl)
    | succ k ihk =>
     intro i hi
     have hil:i < v.fItems.length:=by omega
     refine aA ?_
     simp only [bW]
     refine aw (by omega) (ai (by omega) ?_)
     rw [lK _ _ hil]
     have hmem:=List.getElem_mem hil
     refine al _ (ih _ (by have:=y7 hmem; omega) (hb.eItems _ hmem)) (ai (by omega) (ai (aC (by omega) (by omega)) ?_))
     rw [Int.toNat_natCast,xt _ _ hil]
     have:=ihk (i+1) (by omega)
     rw [Int.natCast_add,Int.natCast_one] at this
     exact this
   exact al _ (aT (f:=λ n m=>bW (bz n) v m 0 v.fItems) (loop _ 0 (Nat.zero_add _))) (ac (ab.eta v))
inductive qi:ab→List aa→ab→Prop where
 | nil (v:ab):qi v [] v
 | cons {v w:ab} {p:List aa} {i:Nat} (hi:i < v.fItems.length) (h:qi (lat v.fItems (i:Int)) p w):qi v (eA v.fKind v.fKeys i::p) w
theorem zg {v:ab}(hv:p9 v)(hk:v.fKeys.length≤1000000000000000){i:Nat}(hi:i < v.fItems.length):Ev2 (λ n _=>fF n v (eA v.fKind v.fKeys i)) (·=((i:Int),0)):=by
 have h45:v.fKind=4∨v.fKind=5:=by
  by_cases h4:v.fKind=4
  ·exact .inl h4
  ·by_cases h5:v.fKind=5
   ·exact .inr h5
   ·have:=hv.its h4 h5; rw [this] at hi; simp at hi
 simp only [fF]
 rcases h45 with h4 | h5
 ·have e:eA v.fKind v.fKeys i=aa.mk true (i:Int) []:=by unfold eA; rw [if_neg (by omega)]
  rw [e]
  refine ax (by omega) (al false (aw rfl (aw h4 (ax (by simp) (ac rfl)))) (ax (by simp) (aw rfl (ax (by simp only; omega) (ac rfl)))))
 ·have e:eA v.fKind v.fKeys i=aa.mk false 0 (lat v.fKeys (i:Int)):=by unfold eA; rw [if_pos h5]
  have hlen:=hv.len h5
  rw [e]
  refine ax (by omega) (al false (ax (by simp) (aw rfl (ac (by simp [h5])))) (ax (by simp) (ax (by simp) ?_)))
  exact al _ (zT hk hv.inc (t:=i) (by omega)) (ax (by simp) (ac rfl))
theorem zS {w:ab}(_hw:ab.Bd w)(P:List aa)(hP:P.length≤1000000):∀ (k i:Nat) (v:ab),i+k=P.length→GV v→ab.Bd v→qi v (P.drop i) w→Ev2 (λ n m=>cK n P m (i:Int) v.fKind v.fNum v.fStr v.fItems v.fKeys) (·=.inl (w.fKind,w.fNum,w.fStr,w.fItems,w.fKeys)):=by
 intro k
 induction k with
 | zero =>
  intro i v hi hg hb hd
  rw [List.drop_eq_nil_of_le (by omega)] at hd
  cases hd
  refine aA ?_
  simp only [cK]
  exact ax (by omega) (ac rfl)
 | succ k ih =>
  intro i v hi hg hb hd
  have hdr:=sL P (i:=i) (by omega)
  rw [hdr] at hd
  generalize hq:lat P (i:Int)=q at hd
  have hk:=hb.bKeys
  unfold fS at hk
  cases hd with
  | @cons _ _ _ j hj h =>
   refine aA ?_
   simp only [cK]
   refine aw (by omega) (ai (by omega) ?_)
   rw [hq,ab.eta]
   refine al _ (zg hg.node (by omega) hj) (aw rfl (ai (by simp only; omega) (ai (aC (by omega) (by omega)) ?_)))
   have hm:lat v.fItems (j:Int)∈v.fItems:=Go.Ab.jN (by omega)
   exact jK (P:=λ z=>Ev2 (λ n m=>cK n P m z (lat v.fItems (j:Int)).fKind (lat v.fItems (j:Int)).fNum (lat v.fItems (j:Int)).fStr (lat v.fItems (j:Int)).fItems (lat v.fItems (j:Int)).fKeys) _) (ih (i+1) _ (by omega) (hg.its _ hm) (hb.eItems _ hm) h)
theorem Al {v w:ab}{p:List aa}(hg:GV v)(hb:ab.Bd v)(hw:ab.Bd w)(hp:p.length≤1000000)(h:qi v p w):Ev2 (λ n _=>fU n v p) (·=(w,0)):=by
 simp only [fU]
 refine cP _ (aT (f:=λ n m=>cK n p m 0 v.fKind v.fNum v.fStr v.fItems v.fKeys) (zS hw p hp p.length 0 v (by omega) hg hb (by simpa using h))) ?_
 simp only
 rw [ab.eta]
 exact al _ (wn _ w (Nat.lt_succ_self _) hw) (ac rfl)
theorem rh:∀ (N:Nat) (v:ab) (p:List aa),cI v≤N→ab.Bd v→∀ q∈lvs v p,∃ r w,q=p++r∧qi v r w∧w.fItems=[]∧ab.Bd w
 | 0,v,p,h=>absurd h (by rw [dh]; omega)
 | N+1,v,p,h=>by
  intro hb q hq
  rw [lu] at hq
  split at hq
  ·rename_i he
   rw [List.mem_singleton.1 hq]
   exact ⟨[],v,by simp,.nil v,by simpa using he,hb⟩
  ·have:∀ (k i:Nat),i+k=v.fItems.length→q∈gN v.fKind v.fKeys i (v.fItems.drop i) p→∃ r w,q=p++r∧qi v r w∧w.fItems=[]∧ab.Bd w:=by
    intro k
    induction k with
    | zero=>intro i hi hq; rw [List.drop_eq_nil_of_le (by omega)] at hq; simp [gN] at hq
    | succ k ih =>
     intro i hi hq
     rw [cz v.fItems (i:=i) (by omega)] at hq
     simp only [gN,List.mem_append] at hq
     rcases hq with hq | hq
     ·have hm:lat v.fItems (i:Int)∈v.fItems:=Go.Ab.jN (by omega)
      have hc:=eF hm
      obtain ⟨r,w,e,l,a,b⟩:=rh N _ _ (by omega) (hb.eItems _ hm) q hq
      exact ⟨eA v.fKind v.fKeys i::r,w,by rw [e,List.append_assoc]; rfl,.cons (by omega) l,a,b⟩
     ·exact ih (i+1) (by omega) hq
   exact this v.fItems.length 0 (by omega) hq
theorem wV {v:ab}(hv:p9 v){i j:Nat}(hi:i < v.fItems.length)(hj:j < v.fItems.length)(h:eA v.fKind v.fKeys i=eA v.fKind v.fKeys j):i=j:=by
 unfold eA at h
 split at h
 ·rename_i h5
  have hl:=hv.len h5
  injection h with _ _ h3
  rcases Nat.lt_trichotomy i j with q | q | q
  ·have:=rO hv.inc q (by omega); rw [h3,ql] at this; cases this
  ·exact q
  ·have:=rO hv.inc q (by omega); rw [h3,ql] at this; cases this
 ·injection h with _ h2 _
  omega
theorem mA (k:Int)(ks:List Bytes)(p:List aa):∀ (l:List ab) (i:Nat) (q:List aa),q∈gN k ks i l p→∃ j r,i≤j∧j < i+l.length∧q=p++eA k ks j::r
 | [],i,q,h=>by simp [gN] at h
 | x::l,i,q,h=>by
  simp only [gN,List.mem_append] at h
  rcases h with h | h
  ·have:∃ r,q=(p++[eA k ks i])++r:=by
    have key:∀ (N:Nat) (v:ab) (p:List aa),cI v≤N→∀ q∈lvs v p,∃ r,q=p++r:=by
     intro N
     induction N with
     | zero=>intro v p h; exact absurd h (by rw [dh]; omega)
     | succ N ih =>
      intro v p hN q hq
      rw [lu] at hq
      split at hq
      ·exact ⟨[],by rw [List.mem_singleton.1 hq]; simp⟩
      ·have:∀ (l:List ab) (i:Nat),(∀ x∈l,x∈v.fItems)→q∈gN v.fKind v.fKeys i l p→∃ r,q=p++r:=by
        intro l
        induction l with
        | nil=>intro i _ hq; simp [gN] at hq
        | cons x l ihl =>
         intro i hl hq
         simp only [gN,List.mem_append] at hq
         rcases hq with hq | hq
         ·have hc:=eF (hl x List.mem_cons_self)
          obtain ⟨r,e⟩:=ih x _ (by omega) q hq
          exact ⟨eA v.fKind v.fKeys i::r,by rw [e,List.append_assoc]; rfl⟩
         ·exact ihl (i+1) (λ y hy=>hl y (List.mem_cons_of_mem _ hy)) hq
       exact this v.fItems 0 (λ x hx=>hx) hq
    exact key _ x _ (Nat.le_refl _) q h
   obtain ⟨r,e⟩:=this
   exact ⟨i,r,Nat.le_refl _,by simp only [List.length_cons]; omega,by rw [e,List.append_assoc]; rfl⟩
  ·obtain ⟨j,r,h1,h2,e⟩:=mA k ks p l (i+1) q h
   exact ⟨j,r,by omega,by simp only [List.length_cons]; omega,e⟩
theorem vX {v:ab}(hv:GV v):∀ p,(lvs v p).Nodup:=by
 induction hv with
 | @mk v hn hl ih =>
  intro p
  rw [lu]
  split
  ·simp
  ·have:∀ (k i:Nat),i+k=v.fItems.length→(gN v.fKind v.fKeys i (v.fItems.drop i) p).Nodup:=by
    intro k
    induction k with
    | zero=>intro i hi; rw [List.drop_eq_nil_of_le (by omega)]; simp [gN]
    | succ k ihk =>
     intro i hi
     rw [cz v.fItems (i:=i) (by omega)]
     simp only [gN]
     have hm:lat v.fItems (i:Int)∈v.fItems:=Go.Ab.jN (by omega)
     refine List.nodup_append.2 ⟨ih _ hm _,ihk (i+1) (by omega),λ a ha b hb e=>?_⟩
     subst e
     obtain ⟨j,r,h1,h2,e2⟩:=mA _ _ _ _ _ _ hb
     have h3:∃ r',a=p++eA v.fKind v.fKeys i::r':=by
      have hx:a∈gN v.fKind v.fKeys i [lat v.fItems (i:Int)] p:=by simp only [gN,List.append_nil]; exact ha
      obtain ⟨j',r',q1,q2,e3⟩:=mA _ _ _ _ _ _ hx
      simp only [List.length_cons,List.length_nil] at q2
      exact ⟨r',by rw [e3,show j'=i by omega]⟩
     obtain ⟨r',e3⟩:=h3
     rw [e2] at e3
     have:=List.append_cancel_left e3
     injection this with this _
     rw [List.length_drop] at h2
     have:=wV hn (by omega) (by omega) this
     omega
   exact this v.fItems.length 0 (by omega)
theorem AY (v:ab)(p:List aa):GV v→lvs v p≠[]:=by
 intro hv
 induction hv generalizing p with
 | @mk v hn hl ih =>
  rw [lu]
  split
  ·simp
  ·rename_i he
   cases hi:v.fItems with
   | nil=>rw [hi] at he; exact absurd rfl he
   | cons x r =>
    simp only [gN]
    intro q
    exact ih x (by rw [hi]; exact List.mem_cons_self) _ (List.append_eq_nil_iff.1 q).1
theorem Ak (a b:aa):(a.fIndex=b.fIndex∧a.fNum=b.fNum∧a.fName=b.fName)↔a=b:=by
 constructor
 ·intro h
  obtain ⟨x,y,z⟩:=a
  obtain ⟨x',y',z'⟩:=b
  simp only at h
  rw [h.1,h.2.1,h.2.2]
 ·rintro rfl; exact ⟨rfl,rfl,rfl⟩
theorem wY (a b:List aa)(ha:a.length≤1000000000000000):Ev2 (λ n _=>et n a b) (·=true→a=b):=by
 simp only [et]
 refine ak (λ hl=>?_) (λ _=>ac (λ q=>by cases q))
 have loop:∀ (k i:Nat),i+k=a.length→Ev2 (λ _ m=>bN a b m (i:Int)) (λ r=>(∀ e,r=.inr e→e=false)∧(r=.inl ()→a.drop i=b.drop i)):=by
  intro k
  induction k with
  | zero =>
   intro i hi
   refine aA ?_
   simp only [bN]
   refine ax (by omega) (ac ⟨λ e q=>(by cases q),λ _=>?_⟩)
   rw [List.drop_eq_nil_of_le (by omega),List.drop_eq_nil_of_le (by omega)]
  | succ k ih =>
   intro i hi
   refine aA ?_
   simp only [bN]
   refine aw (by omega) (ai (by omega) (ai (by omega) (ak (λ h=>ai (aC (by omega) (by omega)) ?_) (λ h=>ac ⟨λ e q=>(by cases q; rfl),λ q=>(by cases q)⟩))))
   refine eZ (jK (P:=λ j=>Ev2 (λ _ m=>bN a b m j) _) (ih (i+1) (by omega))) (λ r hr=>⟨hr.1,λ q=>?_⟩)
   rw [sL a (by omega),sL b (by omega),hr.2 q,(Ak _ _).1 h]
 obtain ⟨r,hr,N,hN⟩:=aT (f:=λ _ m=>bN a b m 0) (loop a.length 0 (by omega))
 cases r with
 | inl u=>exact cP () ⟨.inl (),rfl,N,hN⟩ (ac (λ _=>by simpa using hr.2 rfl))
 | inr e=>exact dU e ⟨.inr e,rfl,N,hN⟩ (λ q=>by have:=hr.1 e rfl; rw [this] at q; cases q)
theorem ui {v:ab}(hb:ab.Bd v):Ev2 (λ n _=>fx n v) (·=true):=by
 simp only [fx]
 refine bD (λ t=>t=false→GV v∧cI v≤100) ?_ (λ t ht=>?_)
 ·refine bD _ (sQ hb 100 (by decide) (by decide)) (λ r hr=>ak (λ _=>ac (λ q=>by cases q)) (λ h=>?_))
  refine bD _ (rz hb) (λ q hq=>ac (λ p=>⟨hq (by simpa using p),by have:=hr (by simpa using h); omega⟩))
 ·refine ak (λ _=>al _ eR (ac rfl)) (λ h=>?_)
  obtain ⟨g,hn⟩:=ht (by simpa using h)
  have l1:=rA g [] (by simp only [List.length_nil]; omega)
  have e3:Ev2 (λ n _=>eM n v) (·=lvs v []):=by simp only [eM]; exact al _ l1 (ac rfl)
  have n2:=ns _ v [] (Nat.le_refl _)
  have nd:=vX g []
  have ne:=AY v [] g
  have ps:∀ q∈lvs v [],q.length≤100:=λ q hq=>by have:=lw _ v [] (Nat.le_refl _) q hq; simp only [List.length_nil] at this; omega
  have ld:=rh _ v [] (Nat.le_refl _) hb
  refine al _ e3 ?_
  generalize lvs v []=L at n2 nd ne ps ld
  refine cP () ?_ (al true (aw (by have:=List.length_pos_iff.2 ne; omega) (al _ eR (ac rfl))) (ac rfl))
  have inner:∀ (i:Nat),i < L.length→∀ (k j:Nat),j+k=i→Ev2 (λ n m=>bG n L (i:Int) m (j:Int)) (·=.inl ()):=by
   intro i hi k
   induction k with
   | zero =>
    intro j hj
    refine aA ?_
    simp only [bG]
    exact ax (by omega) (ac rfl)
   | succ k ih =>
    intro j hj
    refine aA ?_
    simp only [bG]
    have hm:lat L (i:Int)∈L:=Go.Ab.jN (by omega)
    refine aw (by omega) (ai (by omega) (ai (by omega) (bD _ (wY _ _ (by have:=ps _ hm; omega)) (λ b hbb=>ak (λ h=>?_) (λ _=>ai (aC (by omega) (by omega)) ?_)))))
    ·exfalso
     have e:=hbb h
     rw [lK _ _ hi,lK _ _ (show j < L.length by omega)] at e
     have:=(List.getElem_inj nd).1 e
     omega
    ·exact jK (P:=λ z=>Ev2 (λ n m=>bG n L (i:Int) m z) _) (ih (j+1) (by omega))
  have outer:∀ (k i:Nat),i+k=L.length→Ev2 (λ n m=>bF n v L m (i:Int)) (·=.inl ()):=by
   intro k
   induction k with
   | zero =>
    intro i hi
    refine aA ?_
    simp only [bF]
    exact ax (by omega) (ac rfl)
   | succ k ih =>
    intro i hi
    refine aA ?_
    simp only [bF]
    have hm:lat L (i:Int)∈L:=Go.Ab.jN (by omega)
    obtain ⟨r,w,e,hl,hw0,hwb⟩:=ld _ hm
    rw [List.nil_append] at e
    refine aw (by omega) (ai (by omega) (al _ (Al g hb hwb (by have:=ps _ hm; omega) (e ▸ hl)) (al false (aw rfl (ac (by simp [hw0]))) (ax (by decide) (cP () ?_ (ai (aC (by omega) (by omega)) ?_))))))
    ·exact aT (f:=λ n m=>bG n L (i:Int) m 0) (inner i (by omega) i 0 (by omega))
    ·exact jK (P:=λ z=>Ev2 (λ n m=>bF n v L m z) _) (ih (i+1) (by omega))
  exact aT (f:=λ n m=>bF n v L m 0) (outer L.length 0 (by omega))
end Go.Ab.R06
end
