/- Texts of the proof, one behind the other. No statement is proved here. -/
import Derived.Test.YtgdcfenbmcflkaaGreatDoorCards
import Derived.Test.YtgdcfenbmcflkaaGreatDoorTie
import Derived.WalkKit
import Derived.SizedLaws
import Derived.ProofKit
import Derived.OpenShut
import Derived.ShutString
import Derived.LaidMore
import Derived.Stop.Joined
import Derived.Deep.DeepHandedRow
import Derived.Deep.DeepWitnessRowRef
import Derived.Test.YtgdcfenbmcflkaaGreatDoorZ42Da
import Derived.Test.YtgdcfenbmcflkaaGreatDoorZ42Db
import Derived.Test.YtgdcfenbmcflkaaGreatDoorZ42Dc
import Derived.Test.YtgdcfenbmcflkaaGreatDoorZ42Dd
import Derived.Test.YtgdcfenbmcflkaaGreatDoorZ42De
import Derived.Test.YtgdcfenbmcflkaaGreatDoorZ42Df
section
namespace Go.Ab.R06
open Go.Ab Go.Ab.RB Go.Lib
theorem zU {x y:ab}(h:eqv x y=true):x.fAddr=y.fAddr∧x.fAction=y.fAction∧x.fOldDeps=y.fOldDeps:=by
 unfold eqv at h
 simp only [Bool.and_eq_true,decide_eq_true_eq] at h
 exact ⟨h.1.1.1.1,h.1.1.2,h.2⟩
theorem Bq {l:List ab}{t:List Bytes}{i k:Nat}(hi:i < l.length)(h:eqv (cat l i) (cat l k)=true)(hk:lS l (ku t) k):lS l (ku t) i:=by
 obtain ⟨h1,h2,h3⟩:=zU h
 unfold lS at hk ⊢
 cases hk with
 | base _ hs=>exact .base hi (by rw [h1]; exact hs)
 | step hp _ hn =>
  refine .step hp hi ?_
  unfold ndP kW at hn ⊢
  rw [h1,h2,h3]; exact hn
theorem yC {l:List ab}{t:List Bytes}{ch:List Bool}(ho:∀ k,on ch k=true↔lS l (ku t) k):∀ k,lS l (ku t) k→∀ j,(h:j < (eT l ch).length)→(((List.range' 0 l.length).filter λ k=>on ch k)[j]? = some k)→lS (eT l ch) (ku t) j:=by
 have hcat:∀ j k,j < (eT l ch).length→(((List.range' 0 l.length).filter λ k=>on ch k)[j]? = some k)→cat (eT l ch) j=cat l k:=by
  intro j k hj h
  rw [← fY _ j hj]
  have e:(eT l ch)[j]? = some (cat l k):=by unfold eT; rw [List.getElem?_map,h]; rfl
  rw [List.getElem?_eq_getElem hj] at e
  exact Option.some.inj e
 intro k hk
 have hk':Rj l.length (λ k=>ku t (cat l k).fAddr=true) (λ i k=>ndP (cat l i) (cat l k)=true) k:=hk
 induction hk' with
 | base hk0 hs =>
  intro j hj h
  exact .base hj (by rw [hcat j _ hj h]; exact hs)
 | @step i k hp hk0 hn ih =>
  intro j hj h
  have hi:i∈((List.range' 0 l.length).filter λ k=>on ch k):=List.mem_filter.2 ⟨List.mem_range'_1.2 ⟨Nat.zero_le _,by have:=hp.lt; omega⟩,(ho i).2 hp⟩
  obtain ⟨j0,hj0,e⟩:=List.getElem_of_mem hi
  have hj0':j0 < (eT l ch).length:=by unfold eT; rw [List.length_map]; exact hj0
  have e':(((List.range' 0 l.length).filter λ k=>on ch k)[j0]? = some i):=by rw [List.getElem?_eq_getElem hj0,e]
  refine .step (ih hp j0 hj0' e') hj ?_
  rw [hcat j0 i hj0' e',hcat j k hj h]; exact hn
theorem FA (l m:List ab)(i:Nat)(hi:i < l.length)(hm:m.length≤1000)(hl:l.length≤1000)(hB:∀ c∈l,ab.Bd c)(hBm:∀ c∈m,ab.Bd c)(hA:∀ c∈l,c.fAddr.length≤300)(hAm:∀ c∈m,c.fAddr.length≤300)(hno:∀ c∈m,ndP c (cat l i)=false):∀ (k j:Nat),j+k=m.length→Ev2 (λ n q=>cB n l m (i:Int) q (j:Int)) (·=.inl ()):=by
 have st:∀ c:ab,c.fAddr.length≤300→Ev2 (λ n _=>iF n c.fAddr) (·=kW c):=by
  intro c hc
  simp only [iF]
  exact dc _ (x7 c.fAddr O) (aa Z)
 intro k
 induction k with
 | zero =>
  intro j hj
  refine aJ ?_
  simp only [cB]
  exact ar O (aa Z)
 | succ k ih =>
  intro j hj
  have h1:j < m.length:=by omega
  have bm:=hBm _ (List.getElem_mem h1)
  have am:=hAm _ (List.getElem_mem h1)
  have bl:=hB _ (fY l i hi ▸ List.getElem_mem hi)
  have al:=hA _ (fY l i hi ▸ List.getElem_mem hi)
  have hn:=hno _ (List.getElem_mem h1)
  have d1:=bm.bDeps
  have d2:=bl.bOldDeps
  refine aJ ?_
  simp only [cB]
  refine av O ?_
  rw [cI _ _ h1,cI _ _ hi,fY l i hi]
  refine dc (wV m[j]) (af O (aB (λ h=>aa (by unfold wV; rw [decide_eq_true h]; rfl)) (λ h=>af O (aa (by unfold wV; rw [decide_eq_false h]; rfl))))) ?_
  refine dc false ?_ (ar (by decide) (af (aU O O) ?_))
  ·rw [← hn]
   unfold ndP
   refine af O (af O (dc _ (st _ al) (dc _ (A0 _ _ O) ?_)))
   refine aB (λ h=>aa (by rw [h]; rfl)) (λ h=>?_)
   rw [Bool.eq_false_iff.2 h,Bool.false_or]
   cases wV m[j]
   ·exact ar (by decide) (aa Z)
   ·refine av Z (af O (aB (λ h=>aa (by simp [h])) (λ h=>af O (af O (dc _ (st _ am) (dc _ (A0 _ _ O) (aa ?_)))))))
    rw [decide_eq_false h]; rfl
  ·have:=ih (j+1) O
   rw [Int.natCast_add,Int.natCast_one] at this
   exact this
theorem FD (t:List Bytes)(l:List ab)(ch:List Bool)(ht:t.length≤65536)(hts:∀ p∈t,p.length≤65536)(hn:l.length≤1000)(hB:∀ c∈l,ab.Bd c)(hA:∀ c∈l,c.fAddr.length≤300)(ho:∀ k,on ch k=true↔lS l (ku t) k):∀ (j i k:Nat),i+j=l.length→(eT l ch).drop k=((List.range' i j).filter λ k=>on ch k).map (cat l)→k≤(eT l ch).length→Ev2 (λ n m=>cy n t l (eT l ch) m (k:Int) (i:Int)) (·=.inl ((eT l ch).length:Int)):=by
 have hlen:=wD l ch
 have hBm:∀ c∈eT l ch,ab.Bd c:=λ c hc=>hB c (oe hc)
 have hAm:∀ c∈eT l ch,c.fAddr.length≤300:=λ c hc=>hA c (oe hc)
 have hmem:∀ c∈eT l ch,∃ p,lS l (ku t) p∧c=cat l p:=by
  intro c hc
  unfold eT at hc
  obtain ⟨p,hp,rfl⟩:=List.mem_map.1 hc
  exact ⟨p,(ho p).1 (List.mem_filter.1 hp).2,Z⟩
 intro j
 induction j with
 | zero =>
  intro i k hi hd hk
  have e:=congrArg List.length hd
  simp only [List.length_drop,List.range'_zero,List.filter_nil,List.map_nil,List.length_nil] at e
  refine aJ ?_
  simp only [cy]
  exact ar O (aa (by congr 1; omega))
 | succ j ih =>
  intro i k hi hd hk
  have h1:i < l.length:=by omega
  refine aJ ?_
  simp only [cy]
  refine av O ?_
  rw [List.range'_succ,List.filter_cons] at hd
  by_cases hoi:on ch i=true
  ·rw [if_pos hoi,List.map_cons] at hd
   have hk2:k < (eT l ch).length:=by
    have e:=congrArg List.length hd
    rw [List.length_drop,List.length_cons] at e; omega
   rw [List.drop_eq_getElem_cons hk2] at hd
   have e1:=(List.cons.inj hd).1
   refine fE ((k:Int)+1) (dc true (av O (af (aU O O) (af O (af (aU O O) (af O ?_))))) (av Z (af (aU O O) (aa Z)))) (af (aU O O) ?_)
   ·rw [sW l i h1,sW _ k hk2,e1,fY l i h1]
    refine dc _ (yk [cat l i] [cat l i] G (λ c hc=>by rw [List.mem_singleton.1 hc]; exact hB _ (fY l i h1 ▸ List.getElem_mem h1))) (aa (rp _))
   ·have:=ih (i+1) (k+1) O (List.cons.inj hd).2 O
    rw [Int.natCast_add,Int.natCast_one,Int.natCast_add,Int.natCast_one] at this
    exact this
  ·rw [if_neg hoi] at hd
   have hnk:¬ lS l (ku t) i:=λ h=>hoi ((ho i).2 h)
   have ha:=hA _ (List.getElem_mem h1)
   refine fE (k:Int) (dc false ?_ (ar (by decide) (af O ?_))) (af (aU O O) ?_)
   ·refine aB (λ h=>?_) (λ h=>aa Z)
    have hk2:k < (eT l ch).length:=by omega
    refine af (aU O O) (af O (af (aU O O) (af O ?_)))
    rw [sW l i h1,sW _ k hk2]
    refine dc _ (yk _ _ G (λ c hc=>by rw [List.mem_singleton.1 hc]; exact hB _ (List.getElem_mem h1))) (aa ?_)
    have e:p6 [l[i]] [(eT l ch)[k]]=eqv l[i] (eT l ch)[k]:=by simp [p6]
    rw [e]
    cases hq:eqv l[i] (eT l ch)[k]
    ·rfl
    ·obtain ⟨p,hp,e2⟩:=hmem _ (List.getElem_mem hk2)
     rw [e2,fY l i h1] at hq
     exact absurd (Bq h1 hq hp) hnk
   ·rw [cI _ _ h1]
    refine dc _ (rP t _ ht hts ha) ?_
    have hs:ku t l[i].fAddr=false:=by
     cases hq:ku t l[i].fAddr
     ·rfl
     ·exact absurd (.base h1 (by rw [← fY l i h1]; exact hq)) hnk
    rw [hs]
    refine ar (by decide) (fE () (a8 (FA l (eT l ch) i h1 O hn hB hBm hA hAm (λ c hc=>?_) (eT l ch).length 0 O)) (aa Z))
    obtain ⟨p,hp,rfl⟩:=hmem c hc
    cases hq:ndP (cat l p) (cat l i)
    ·rfl
    ·exact absurd (.step hp h1 hq) hnk
   ·have:=ih (i+1) k O hd hk
    rw [Int.natCast_add,Int.natCast_one] at this
    exact this
theorem xC (t:List Bytes)(l:List ab)(ht:t.length≤fo)(hB:∀ c∈l,ab.Bd c):Ev2 (λ n _=>gO n t l) (·=true):=by
 simp only [gO]
 refine dc _ (Ep t l ht hB) ?_
 cases hq:Bc t l
 ·exact av Z (dc _ xf (aa Z))
 ·obtain ⟨f1,f2,f3,f4⟩:=z1 hq
  have hts:∀ p∈t,p.length≤65536:=λ p hp=>by have:=f2 p hp; omega
  refine ar (by decide) (jU _ (vK t l O hts O hB f4) (λ a ha=>?_))
  obtain ⟨ca,_,a2,rfl⟩:=ha
  have la:=wD l ca
  refine jU _ (vK t (eT l ca) O hts O (λ c hc=>hB c (oe hc)) (λ c hc=>f4 c (oe hc))) (λ b hb=>?_)
  obtain ⟨cb,_,b2,rfl⟩:=hb
  have e:eT (eT l ca) cb=eT l ca:=by
   refine Bi _ cb λ j hj=>(b2 j).2 ?_
   have hj':j < ((List.range' 0 l.length).filter λ k=>on ca k).length:=by unfold eT at hj; rw [List.length_map] at hj; exact hj
   refine yC a2 _ ((a2 _).1 (List.mem_filter.1 (List.getElem_mem hj')).2) j hj (List.getElem?_eq_getElem hj')
  rw [e]
  refine dc _ (yk _ _ O (λ c hc=>hB c (oe hc))) ?_
  rw [rp]
  refine ar (by decide) (fE _ (a8 (FD t l ca O hts O hB f4 a2 l.length 0 0 O rfl (Nat.zero_le _))) ?_)
  exact dc true (av Z (dc _ xf (aa Z))) (aa Z)
end Go.Ab.R06
end
