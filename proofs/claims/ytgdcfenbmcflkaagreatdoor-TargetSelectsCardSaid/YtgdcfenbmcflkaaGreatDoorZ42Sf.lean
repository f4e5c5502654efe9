/- Texts of the proof, one behind the other. No statement is proved here. -/
import Derived.Lib.IndexLaws
import Derived.Test.YtgdcfenbmcflkaaGreatDoorCards
import Derived.Test.YtgdcfenbmcflkaaGreatDoorTie
import Derived.WalkKit
import Derived.SizedLaws
import Derived.ProofKit
import Derived.OpenShut
import Derived.ShutString
import Derived.LaidMore
import Derived.Stop.Joined
import Derived.Deep.DeepHandedRow
import Derived.Deep.DeepWitnessRowRef
import Derived.Test.YtgdcfenbmcflkaaGreatDoorZ42Sa
import Derived.Test.YtgdcfenbmcflkaaGreatDoorZ42Sb
import Derived.Test.YtgdcfenbmcflkaaGreatDoorZ42Sc
import Derived.Test.YtgdcfenbmcflkaaGreatDoorZ42Sd
import Derived.Test.YtgdcfenbmcflkaaGreatDoorZ42Se
set_option maxHeartbeats 4000000
section
namespace Go.Ab.R06
open Go.Ab Go.Ab.RB
theorem BG (s:Bytes)(hs:s.length≤1000000000):∀ (k i:Nat),i+k=s.length→Ev2 (λ _ m=>bG s m (i:Int)) (·=if l5 (wu s) i k then .inl () else .inr false):=by
 intro k
 induction k with
 | zero =>
  intro i hi
  refine aS ?_
  simp only [bG]
  refine av (by omega) (aa rfl)
 | succ k ih =>
  intro i hi
  refine aS ?_
  simp only [bG]
  refine au (by omega) (ai (by omega) ?_)
  have hb:byt s i=((s.getD i 0).toNat:Int):=cO s i
  rw [hb]
  have hor:=Eg (s.getD i 0)
  have hok:=lb s i
  rw [pK,iJ] at hok
  refine ak (!wu s i) ?_ ?_
  ·generalize s.getD i 0=b at hor hok ⊢
   generalize wu s i=o at hok ⊢
   generalize iOr .u8 ((b.toNat:Nat):Int) 32=v at hor ⊢
   have hT:(oY b=true)→o=true:=λ h=>hok.2 (.inl ((pK b).1 h))
   have mk:∀ x:Bool,(x=true↔¬ (((97≤b.toNat∧b.toNat≤122)∨(65≤b.toNat∧b.toNat≤90)∨b.toNat=95)∨(i≠0∧48≤b.toNat∧b.toNat≤57)))→x=!o:=λ x hx=>eqB (by rw [hx,← hok]; simp)
   refine ai (by omega) (aA (λ h=>aa (mk _ ?_)) (λ h=>aA (λ h1=>?_) (λ h1=>aA (λ h2=>?_) (λ h2=>aa (mk _ ?_)))))
   ·simp; omega
   ·refine aA (λ h3=>aa (mk _ ?_)) (λ h3=>ai (by omega) (aA (λ h4=>aa (mk _ ?_)) (λ h4=>ai (by omega) (aa (mk _ ?_)))))
    ·simp; omega
    ·simp; omega
    ·rw [decide_eq_true_eq]; omega
   ·refine aA (λ h3=>aa (mk _ ?_)) (λ h3=>ai (by omega) (aA (λ h4=>aa (mk _ ?_)) (λ h4=>ai (by omega) (aa (mk _ ?_)))))
    ·simp; omega
    ·simp; omega
    ·rw [decide_eq_true_eq]; omega
   ·simp; omega
  ·cases hk:wu s i with
   | false=>exact au (by simp) (aa (by simp [l5,hk]))
   | true =>
    refine av (by simp) (ai (aV (by omega) (by omega)) ?_)
    have:=ih (i+1) (by omega)
    rw [Int.natCast_add,Int.natCast_one] at this
    simpa [l5,hk] using this
theorem pU (s:Bytes)(hs:s.length≤1000000000):Ev2 (λ n _=>b8 n s) (·=bO s):=by
 simp only [b8]
 have h:=BG s hs s.length 0 (by omega)
 have hi:=px s
 cases ha:l5 (wu s) 0 s.length with
 | false =>
  rw [ha] at h hi
  refine gO false (bu h) (eqB ?_)
  rw [hi]; simp
 | true =>
  rw [ha] at h hi
  refine gZ () (bu h) ?_
  refine kY (·=bO s) (aA (λ h=>aa (eqB ?_)) (λ h=>aa (eqB ?_))) (λ t ht=>aa ht)
  ·rw [hi]; simp [h]
  ·rw [hi,decide_eq_true_eq]; simp [h]; omega
theorem vn (b:UInt8):gz (b.toNat:Int)=some (oY b):=by
 simp only [gz]
 have h:=pK b
 generalize oY b=o at h ⊢
 have mk:∀ x:Bool,(x=true↔(97≤b.toNat∧b.toNat≤122)∨(65≤b.toNat∧b.toNat≤90)∨b.toNat=95)→some x=some o:=λ x hx=>congrArg some (eqB (by rw [hx,h]))
 repeat' split
 all_goals (simp only [Option.bind_some]; apply mk; first | (rw [decide_eq_true_eq]; omega) | (simp; omega))
theorem zN (s:Bytes)(hs:s.length≤1000000000):∀ (k i:Nat),i+k=s.length→Ev2 (λ _ m=>cM s m (i:Int)) (·=if l5 (λ j=>idB (s.getD j 0)) i k then .inl () else .inr false):=by
 intro k
 induction k with
 | zero =>
  intro i hi
  refine aS ?_
  simp only [cM]
  refine av (by omega) (aa rfl)
 | succ k ih =>
  intro i hi
  refine aS ?_
  simp only [cM]
  refine au (by omega) ?_
  have hb:byt s i=((s.getD i 0).toNat:Int):=cO s i
  rw [hb]
  refine ak (!idB (s.getD i 0)) ?_ ?_
  ·refine ai (by omega) (ak _ (aQ (vn _) rfl) ?_)
   have h:=iJ (s.getD i 0)
   simp only [idB]
   generalize s.getD i 0=b at h ⊢
   cases hl:oY b with
   | true=>exact av (by simp) (aa (by simp))
   | false =>
    refine au (by simp) (ai (by omega) (aA (λ h1=>aa ?_) (λ h1=>ai (by omega) (aa ?_))))
    ·have:di b=false:=by rw [← Bool.not_eq_true,h]; omega
     simp [this]
    ·refine eqB ?_
     rw [decide_eq_true_eq,Bool.false_or,Bool.not_eq_true',← Bool.not_eq_true,h]
     omega
  ·cases hk:idB (s.getD i 0) with
   | false=>exact au rfl (aa (by simp only [l5,hk,Bool.false_and]; rfl))
   | true =>
    refine av (by simp) (ai (aV (by omega) (by omega)) ?_)
    have:=ih (i+1) (by omega)
    rw [Int.natCast_add,Int.natCast_one] at this
    simp only [l5,hk,Bool.true_and]
    exact this
theorem kU (s:Bytes)(hs:s.length≤1000000000):Ev2 (λ n _=>cH n s) (·=bO s):=by
 simp only [cH]
 have hi:=rk s
 refine ak (decide (s=[])||decide (64 < (s.length:Int))||!oY (s.getD 0 0)) ?_ ?_
 ·refine aA (λ h=>aa (by simp [h])) (λ h=>aA (λ h1=>aa (by simp [h1])) (λ h1=>ai ?_ ?_))
  ·have:=List.length_pos_iff.2 h; omega
  ·refine ak (oY (s.getD 0 0)) (aQ (vn _) rfl) (aa ?_)
   have:decide (64 < (s.length:Int))=false:=decide_eq_false h1
   simp [h,this]
 ·refine aA (λ h=>aa (eqB ?_)) (λ h=>?_)
  ·rw [hi]; simp at h ⊢; intro q1 q2 q3
   rcases h with (h | h) | h
   ·exact absurd h q1
   ·omega
   ·rw [h] at q3; cases q3
  ·have l:=zN s hs s.length 0 (by omega)
   simp only [Bool.or_eq_true,decide_eq_true_eq,not_or] at h
   obtain ⟨⟨h1,h2⟩,h3⟩:=h
   have h3:oY (s.getD 0 0)=true:=by simpa using h3
   cases ha:l5 (λ j=>idB (s.getD j 0)) 0 s.length with
   | false =>
    rw [ha] at l hi
    refine gO false (bu l) (eqB ?_)
    rw [hi]; simp
   | true =>
    rw [ha] at l hi
    refine gZ () (bu l) (aa (eqB ?_))
    rw [hi]; simp only [true_iff]
    exact ⟨h1,by omega,h3,trivial⟩
end Go.Ab.R06
end
section
namespace Go.Ab.R06
open Go.Ab Go.Ab.RB Go.Lib
theorem dp (s p:Bytes):hasPrefix s p=true↔∃ t,s=p++t:=by
 unfold hasPrefix
 rw [List.isPrefixOf_iff_prefix]
 exact ⟨λ ⟨t,h⟩=>⟨t,h.symm⟩,λ ⟨t,h⟩=>⟨t,h.symm⟩⟩
theorem iN (p t:Bytes):hasPrefix (p++t) p=true:=(dp _ _).2 ⟨t,rfl⟩
theorem iG (p t:Bytes):trimPrefix (p++t) p=t:=by
 unfold trimPrefix
 rw [iN,if_pos rfl]; simp
theorem lN {s p:Bytes}(h:hasPrefix s p=false):trimPrefix s p=s:=by
 unfold trimPrefix; rw [h]; simp
def gX (r:ah)(p:Bytes):Bool×ah:=(hasPrefix r.frest p,ah.mk (trimPrefix r.frest p) r.fbad)
def ge (r:ah)(p:Bytes):ah:=ah.mk (trimPrefix r.frest p) (r.fbad||!hasPrefix r.frest p)
theorem has_eq (r:ah)(p:Bytes):ec r p=some (gX r p):=rfl
theorem sx (r:ah)(p:Bytes):dj r p=some (ge r p):=by
 unfold dj strings_CutPrefix ge
 simp only [Option.bind_some]
 cases r.fbad <;> simp
def jH (b:UInt8):Bool:=decide (b.toNat=46)||decide (b.toNat=91)
def jK:Bytes→Nat
 | []=>0
 | b::r=>if jH b=true then 0 else jK r+1
theorem ww:∀ l:Bytes,jK l≤l.length
 | []=>Nat.le_refl _
 | b::r=>by
  unfold jK
  have:=ww r
  split
  ·omega
  ·simp only [List.length_cons]; omega
theorem BM (b:UInt8):([46,91]:Bytes).contains b=jH b:=by
 refine eqB ?_
 have h1:b.toNat=46↔b=46:=lA (by decide)
 have h2:b.toNat=91↔b=91:=lA (by decide)
 unfold jH
 rw [Bool.or_eq_true,decide_eq_true_eq,decide_eq_true_eq,h1,h2]
 simp
theorem tL:∀ l:Bytes,(if indexAny l [46,91] < 0 then (l.length:Int) else indexAny l [46,91])=(jK l:Int)
 | []=>rfl
 | b::r=>by
  have ih:=tL r
  have hge:=indexAny_ge [46,91] r
  unfold indexAny jK
  rw [BM]
  cases hs:jH b with
  | true=>simp
  | false =>
   simp only [Bool.false_eq_true,if_false,List.length_cons]
   by_cases h:indexAny r [46,91]=-1
   ·rw [h] at ih
    simp only [h,beq_self_eq_true,if_true]
    rw [if_pos (by decide)] at ih ⊢
    omega
   ·have hb:(indexAny r [46,91] == -1)=false:=by simp [h]
    rw [hb]
    rw [if_neg (by omega)] at ih
    simp only [Bool.false_eq_true,if_false]
    rw [if_neg (by omega)]
    omega
def cT (r:ah):Bytes×ah:=(r.frest.take (jK r.frest),ah.mk (r.frest.drop (jK r.frest)) (r.fbad||!bO (r.frest.take (jK r.frest))))
theorem vm (r:ah)(hs:r.frest.length≤1000000000):Ev2 (λ n _=>ca n r) (·=cT r):=by
 simp only [ca]
 have hx:strings_IndexAny r.frest [46,91]=some (indexAny r.frest [46,91]):=by
  unfold strings_IndexAny; exact aM ⟨rfl,by omega⟩
 have hw:=tL r.frest
 have hle:=ww r.frest
 refine ak _ (aQ hx rfl) (ak (jK r.frest:Int) ?_ ?_)
 ·rw [← hw]
  refine aA (λ h=>aa (by rw [if_pos h])) (λ h=>aa (by rw [if_neg h]))
 ·refine ai (by omega) (ai (by omega) ?_)
  have e1:sub r.frest 0 (jK r.frest:Int)=r.frest.take (jK r.frest):=by
   show (r.frest.take (jK r.frest:Int).toNat).drop (0:Int).toNat=_
   simp
  rw [e1,fg,Int.toNat_natCast]
  refine ak (r.fbad||!bO (r.frest.take (jK r.frest))) ?_ (aa rfl)
  cases r.fbad with
  | true=>exact au rfl (aa rfl)
  | false=>exact av (by simp) (ak _ (pU _ (by rw [List.length_take]; omega)) (aa (by simp)))
def cq (k:bJ):Bool :=
 if k.fKind=0 then decide (k.fNum=0∧k.fStr=([]:Bytes))
 else if k.fKind=1 then decide (0≤k.fNum∧k.fNum≤iD∧k.fStr=([]:Bytes))
 else if k.fKind=2 then decide (k.fNum=0)&&(decide (k.fStr.length≤4096)&&validD k.fStr)
 else false
theorem valid_eq (k:bJ):fV k=some (cq k):=by
 unfold fV cq
 by_cases h0:k.fKind=0
 ·rw [if_pos h0,if_pos h0]; simp [h0]
 rw [if_neg h0,if_neg h0]
 by_cases h1:k.fKind=1
 ·rw [if_pos h1,if_pos h1]
  by_cases h2:0≤k.fNum
  ·rw [if_pos h2]
   by_cases h3:k.fNum≤9007199254740992
   ·rw [if_pos h3]; simp [h2,iD,h3]
   ·rw [if_neg h3]; simp [iD,h3]
  ·rw [if_neg h2]; simp [h2]
 rw [if_neg h1,if_neg h1]
 by_cases h2:k.fKind=2
 ·rw [if_pos h2,if_pos h2]
  by_cases h3:k.fNum=0
  ·rw [if_pos h3,Ej]; simp [h3]
  ·rw [if_neg h3]; simp [h3]
 ·rw [if_neg h2,if_neg h2]
def jI:bJ:=bJ.mk 0 0 []
def idx (l:Bytes)(c:UInt8):Nat:=(indexByte l c).toNat
def j3 (r:ah):bJ×ah :=
 if r.fbad=true then (jI,r) else if hasPrefix r.frest [91]=false then (jI,r)
 else if hasPrefix (r.frest.drop 1) [34]=true then
  (if (jW (r.frest.drop 1)).2.2=0∧dA (jW (r.frest.drop 1)).1=(r.frest.drop 1).take (jW (r.frest.drop 1)).2.1.toNat then
   (bJ.mk 2 0 (jW (r.frest.drop 1)).1,ge (ah.mk ((r.frest.drop 1).drop (jW (r.frest.drop 1)).2.1.toNat) false) [93])
   else (jI,ah.mk (r.frest.drop 1) true))
 else (bJ.mk 1 (qW ((r.frest.drop 1).take (idx (r.frest.drop 1) 93))).1 [],
   ge (ah.mk ((r.frest.drop 1).drop (idx (r.frest.drop 1) 93)) (!(decide ((qW ((r.frest.drop 1).take (idx (r.frest.drop 1) 93))).2=0)&&!decide ((qW ((r.frest.drop 1).take (idx (r.frest.drop 1) 93))).1 < 0)))) [93])
theorem n0 (l:Bytes)(n:Int):sub l 0 n=l.take n.toNat:=by
 show (l.take n.toNat).drop (0:Int).toNat=_
 simp
theorem index_le:∀ (l:Bytes) (c:UInt8),indexByte l c≤l.length
 | [],_=>by simp [indexByte]
 | b::r,c=>by
  have:=index_le r c
  unfold indexByte
  simp only [List.length_cons]
  split
  ·omega
  ·split <;> omega
theorem AG (r:ah)(hs:r.frest.length≤900000000):Ev2 (λ n _=>cA n r) (·=j3 r):=by
 simp only [cA]
 cases hb:r.fbad with
 | true =>
  refine ak (true,r.frest,r.fbad) (au rfl (aa (by rw [hb]))) (au rfl (aa ?_))
  unfold j3
  rw [if_pos hb]; rfl
 | false =>
  cases hp:hasPrefix r.frest [91] with
  | false =>
   refine ak (true,r.frest,r.fbad) (av (by simp) (ak _ (aQ (has_eq _ _) rfl) (aa ?_))) (au rfl (aa ?_))
   ·unfold gX; simp only [hp,lN hp,Bool.not_false]
   ·unfold j3
    rw [if_neg (by simp [hb]),if_pos hp]; rfl
  | true =>
   obtain ⟨t,ht⟩:=(dp _ _).1 hp
   have hd:r.frest.drop 1=t:=by rw [ht]; rfl
   have htl:t.length≤900000000:=by rw [ht] at hs; simp at hs; omega
   refine ak (false,t,false) (av (by simp) (ak _ (aQ (has_eq _ _) rfl) (aa ?_))) (av (by simp) ?_)
   ·unfold gX; simp only [hp,Bool.not_true,hb]; rw [ht,iG]
   unfold j3
   rw [if_neg (by simp [hb]),if_neg (by simp [hp]),hd]
   have hx:strings_HasPrefix t [34]=some (hasPrefix t [34]):=rfl
   cases hq:hasPrefix t [34] with
   | true =>
    rw [hq] at hx
    have hle:=x7 t
    have hu:=DJ t (by omega)
    rw [if_pos rfl]
    generalize jW t=U at hle hu ⊢
    obtain ⟨x,n,e⟩:=U
    simp only at hle ⊢
    by_cases he:e=0∧dA x=t.take n.toNat
    ·rw [if_pos he]
     refine pn (ak _ (aQ hx rfl) (au rfl (ak _ hu (ak false ?_ (av (by simp) (ai (by dsimp only; omega) (aa ?_)))))))
     ·refine au he.1 (ak _ (sY x (by omega)) (ai (by dsimp only; omega) (aa ?_)))
      rw [n0,decide_eq_true he.2]; rfl
     ·refine ak _ (aQ (sx _ _) rfl) (aa ?_)
      rw [fg]
    ·rw [if_neg he]
     refine pn (ak _ (aQ hx rfl) (au rfl (ak _ hu (ak true ?_ (au rfl (aa ?_))))))
     ·by_cases h0:e=0
      ·refine au h0 (ak _ (sY x (by omega)) (ai (by dsimp only; omega) (aa ?_)))
       rw [n0,decide_eq_false (λ q=>he ⟨h0,q⟩)]; rfl
      ·exact av h0 (aa rfl)
     ·rfl
   | false =>
    rw [hq] at hx
    rw [if_neg (by simp)]
    have hi:strings_IndexByte t 93=some (indexByte t 93):=rfl
    have hge:=indexByte_ge t 93
    have hle:=index_le t 93
    have hm:(if indexByte t 93 < 0 then (0:Int) else indexByte t 93)=(idx t 93:Int):=by
     unfold idx
     split <;> omega
    have hil:(idx t 93:Int)≤t.length:=by rw [← hm]; split <;> omega
    refine pn (ak _ (aQ hx rfl) (av (by simp) (ak _ (aQ hi rfl) ?_)))
    rw [hm]
    refine ai (by dsimp only; omega) ?_
    rw [n0,Int.toNat_natCast]
    refine ak _ (vY _ (by rw [List.length_take]; omega)) ?_
    generalize qW (t.take (idx t 93))=N
    obtain ⟨v,e⟩:=N
    simp only
    refine ak (!(decide (e=0)&&!decide (v < 0))) ?_ (ai (by omega) (aa ?_))
    ·refine aA (λ h=>aa (by simp [h])) (λ h=>aa (by simp [h]))
    ·refine ak _ (aQ (sx _ _) rfl) (aa ?_)
     rw [fg,Int.toNat_natCast]
def stepT (r:ah):ab×ah:=(ab.mk (cT r).1 (j3 (cT r).2).1,(j3 (cT r).2).2)
theorem Cq (r:ah)(hs:r.frest.length≤900000000):Ev2 (λ n _=>cK n r) (·=stepT r):=by
 simp only [cK]
 refine ak _ (vm r (by omega)) (ak _ (AG (cT r).2 ?_) (aa rfl))
 show (r.frest.drop _).length≤_
 rw [List.length_drop]; omega
def iC:Bytes:=[109,111,100,117,108,101,46]
def gf:Nat→List ab→ah→List ab×ah
 | 0,ms,r=>(ms,r)
 | n+1,ms,r=>if r.fbad=false∧hasPrefix r.frest iC=true then
   gf n (ms++[(stepT (ah.mk (r.frest.drop 7) false)).1]) (ge (stepT (ah.mk (r.frest.drop 7) false)).2 [46])
  else (ms,r)
theorem mB (s p:Bytes):(trimPrefix s p).length≤s.length:=trimPrefix_le s p
theorem Bp (r:ah):(j3 r).2.frest.length≤r.frest.length:=by
 unfold j3
 split
 ·exact Nat.le_refl _
 split
 ·exact Nat.le_refl _
 split
 ·split
  ·unfold ge
   have:=mB ((r.frest.drop 1).drop (jW (r.frest.drop 1)).2.1.toNat) [93]
   simp only [List.length_drop] at this ⊢; omega
  ·simp
 ·unfold ge
  have:=mB ((r.frest.drop 1).drop (idx (r.frest.drop 1) 93)) [93]
  simp only [List.length_drop] at this ⊢; omega
theorem uG (r:ah):(stepT r).2.frest.length≤r.frest.length:=by
 unfold stepT
 have:=Bp (cT r).2
 have h2:(cT r).2.frest.length≤r.frest.length:=by
  show (r.frest.drop _).length≤_
  rw [List.length_drop]; omega
 simp only; omega
theorem uT (r:ah)(p:Bytes):(ge r p).frest.length≤r.frest.length:=mB _ _
theorem ql {s p:Bytes}(h:hasPrefix s p=true):p.length≤s.length:=by
 obtain ⟨t,rfl⟩:=(dp _ _).1 h; simp
theorem Bj:∀ (k:Nat) (ms:List ab) (r:ah),r.frest.length < k→r.frest.length+ms.length≤900000000→Ev2 (λ n m=>cI n m ms r.frest r.fbad) (·=((gf k ms r).1,(gf k ms r).2.frest,(gf k ms r).2.fbad)):=by
 intro k
 induction k with
 | zero=>intro ms r h; omega
 | succ k ih =>
  intro ms r hk hl
  refine aS ?_
  simp only [cI]
  unfold gf
  by_cases hc:r.fbad=false∧hasPrefix r.frest iC=true
  ·rw [if_pos hc]
   have hpl:=ql hc.2
   obtain ⟨t,ht⟩:=(dp _ _).1 hc.2
   have hd:r.frest.drop 7=t:=by rw [ht]; rfl
   have htl:t.length+7=r.frest.length:=by rw [ht]; simp [iC] <;> omega
   rw [hd]
   refine ak (true,t,false) (au (by simp [hc.1]) (ak _ (aQ (has_eq _ _) rfl) (aa ?_))) (au rfl ?_)
   ·unfold gX
    show (hasPrefix r.frest iC,trimPrefix r.frest iC,r.fbad)=_
    rw [hc.2,hc.1,ht,iG]
   refine ak _ (Cq (ah.mk t false) (by simp only; omega)) (ai (by simp; omega) (ak _ (aQ (sx _ _) rfl) ?_))
   have h1:=uG (ah.mk t false)
   have h2:=uT (stepT (ah.mk t false)).2 [46]
   simp only at h1
   exact ih _ _ (by omega) (by simp; omega)
  ·rw [if_neg hc]
   refine ak (false,r.frest,r.fbad) ?_ (av (by simp) (aa rfl))
   cases hb:r.fbad with
   | true=>exact av (by simp) (aa rfl)
   | false =>
    have hp:hasPrefix r.frest iC=false:=by
     cases h:hasPrefix r.frest iC with
     | false=>rfl
     | true=>exact absurd ⟨hb,h⟩ hc
    refine au rfl (ak _ (aQ (has_eq _ _) rfl) (aa ?_))
    unfold gX
    show (hasPrefix r.frest iC,trimPrefix r.frest iC,_)=_
    rw [hp,lN hp]
def eH (s:Bytes):Bool:=([[109,111,100,117,108,101],[100,97,116,97],[118,97,114],[108,111,99,97,108],[101,97,99,104],[99,111,117,110,116],[114,101,109,111,116,101],[111,117,116,112,117,116],[112,97,116,104],[115,101,108,102],[99,104,97,110,103,101]]:List Bytes).contains s
def gS (s:Bytes):Bool:=!eH s&&bO s
theorem ye (s:Bytes)(hs:s.length≤1000000000):Ev2 (λ n _=>dV n s) (·=gS s):=by
 simp only [dV]
 refine ak (eH s) ?_ ?_
 ·unfold eH
  simp only [List.contains_cons,List.contains_nil,Bool.or_false]
  repeat' refine aA (λ h=>aa (by simp [h])) (λ h=>?_)
  refine aa (eqB ?_)
  simp [*]
 ·unfold gS
  cases eH s with
  | true=>exact au rfl (aa rfl)
  | false=>exact av (by simp) (ak _ (pU s hs) (aa (by simp)))
def bv:Bytes:=[100,97,116,97,46]
def lU:ae:=ae.mk [] false [] [] jI
def fK (r:ah):Bool×Bytes×Bytes×bJ×ah :=
 let h:=gX r bv
 let t:=cT h.2
 let n:=cT (ge t.2 [46])
 let k:=j3 n.2
 (h.1,t.1,n.1,k.1,k.2)
def iU (s:Bytes):ae×Int :=
 let p:=gf (s.length+1) [] (ah.mk s false)
 let t:=fK p.2
 if t.2.2.2.2.fbad=true∨t.2.2.2.2.frest≠[]∨gS t.2.1=false then (lU,2)
 else if 16 < p.1.length then (lU,4)
 else (ae.mk p.1 t.1 t.2.1 t.2.2.1 t.2.2.2.1,0)
theorem sU:∀ (k:Nat) (ms:List ab) (r:ah),(gf k ms r).2.frest.length≤r.frest.length
 | 0,_,_=>Nat.le_refl _
 | k+1,ms,r=>by
  unfold gf
  split
  ·have h1:=uG (ah.mk (r.frest.drop 7) false)
   have h2:=uT (stepT (ah.mk (r.frest.drop 7) false)).2 [46]
   have h3:=sU k (ms++[(stepT (ah.mk (r.frest.drop 7) false)).1]) (ge (stepT (ah.mk (r.frest.drop 7) false)).2 [46])
   simp only [List.length_drop] at h1
   omega
  ·exact Nat.le_refl _
theorem BB (s:Bytes)(hs:s.length≤800000000):Ev2 (λ n _=>eT n s) (·=iU s):=by
 simp only [eT]
 have l:=Bj (s.length+1) [] (ah.mk s false) (by simp) (by simp; omega)
 have hl:=sU (s.length+1) [] (ah.mk s false)
 refine ak _ (bu l) ?_
 unfold iU
 generalize gf (s.length+1) [] (ah.mk s false)=p at hl ⊢
 obtain ⟨ms,r⟩:=p
 simp only at hl ⊢
 have e:ah.mk r.frest r.fbad=r:=rfl
 rw [e]
 have l1:(gX r bv).2.frest.length≤s.length:=Nat.le_trans (mB _ _) hl
 refine ak _ (aQ (has_eq r _) rfl) (ak _ (vm _ (Nat.le_trans l1 (by omega))) (ak _ (aQ (sx _ _) rfl) ?_))
 have l2:(ge (cT (gX r bv).2).2 [46]).frest.length≤s.length:=by
  refine Nat.le_trans (mB _ _) ?_
  show ((gX r bv).2.frest.drop _).length≤_
  rw [List.length_drop]; omega
 refine ak _ (vm _ (Nat.le_trans l2 (by omega))) ?_
 have l3:(cT (ge (cT (gX r bv).2).2 [46])).2.frest.length≤s.length:=by
  show (List.drop _ _).length≤_
  rw [List.length_drop]; omega
 refine ak _ (AG _ (Nat.le_trans l3 (by omega))) ?_
 show Ev2 _ (·=(if (fK r).2.2.2.2.fbad=true∨(fK r).2.2.2.2.frest≠[]∨gS (fK r).2.1=false then (lU,2) else if 16 < ms.length then (lU,4) else (ae.mk ms (fK r).1 (fK r).2.1 (fK r).2.2.1 (fK r).2.2.2.1,0)))
 have l4:(cT (gX r bv).2).1.length≤1000000000:=by
  show (List.take _ _).length≤_
  rw [List.length_take]; omega
 have hk:=ye _ l4
 show Ev2 (λ n m=>((if (fK r).2.2.2.2.fbad=true then some true else if (fK r).2.2.2.2.frest=([]:Bytes) then (dV n (fK r).2.1).bind λ r49=>some (!r49) else some true:Option Bool)).bind λ t51=>_) _
 have hk:Ev2 (λ n _=>dV n (fK r).2.1) (·=gS (fK r).2.1):=hk
 refine ak (decide ((fK r).2.2.2.2.fbad=true∨(fK r).2.2.2.2.frest≠[]∨gS (fK r).2.1=false)) ?_ ?_
 ·refine aA (λ h=>aa (by simp [h])) (λ h=>aA (λ h1=>ak _ hk (aa ?_)) (λ h1=>aa (by simp [h1])))
  cases gS (fK r).2.1 <;> simp [h,h1]
 ·refine aA (λ h=>aa ?_) (λ h=>?_)
  ·rw [if_pos (of_decide_eq_true h)]; rfl
  ·rw [if_neg (λ q=>h (decide_eq_true q))]
   refine aA (λ h=>aa ?_) (λ h=>aa ?_)
   ·rw [if_pos (by omega)]; rfl
   ·rw [if_neg (by omega)]; rfl
end Go.Ab.R06
namespace Go.Ab.R06
open Go.Ab Go.Ab.RB Go.Lib
def iR:List ab→Int
 | []=>0
 | x::r=>if bO x.fName=false then 7 else if cq x.fKey=false then 1 else iR r
def m9 (a:ae):Int :=
 if 16 < a.fModule.length then 4 else if iR a.fModule≠0 then iR a.fModule
 else if gS a.fType=false∨bO a.fName=false then 7 else if cq a.fKey=false then 1 else 0
def Sm (a:ae):Prop:=a.fModule.length≤100000∧a.fType.length≤100000∧a.fName.length≤100000∧∀ x∈a.fModule,x.fName.length≤100000
theorem A9 (a:ae)(ha:Sm a):∀ (k i:Nat),i+k=a.fModule.length→Ev2 (λ n m=>cv n a m (i:Int)) (·=if iR (a.fModule.drop i)=0 then .inl () else .inr (iR (a.fModule.drop i))):=by
 intro k
 induction k with
 | zero =>
  intro i hi
  refine aS ?_
  simp only [cv]
  refine av (by omega) (aa ?_)
  rw [List.drop_of_length_le (by omega)]; rfl
 | succ k ih =>
  intro i hi
  refine aS ?_
  simp only [cv]
  have hil:i < a.fModule.length:=by omega
  refine au (by omega) (ai (by omega) ?_)
  rw [gV _ _ hil,List.drop_eq_getElem_cons hil]
  have hx:=ha.2.2.2 _ (List.getElem_mem hil)
  have:=ih (i+1) (by omega)
  have hlen:=ha.1
  generalize a.fModule[i]=x at hx ⊢
  unfold iR
  refine ak _ (pU x.fName (by omega)) ?_
  cases h1:bO x.fName with
  | false=>exact au rfl (aa (by simp))
  | true =>
   refine av (by simp) (ak _ (aQ (valid_eq _) rfl) ?_)
   cases h2:cq x.fKey with
   | false=>exact au rfl (aa (by simp))
   | true =>
    refine av (by simp) (ai (aV (by omega) (by omega)) ?_)
    rw [Int.natCast_add,Int.natCast_one] at this
    simpa using this
theorem Aq (a:ae)(ha:Sm a):Ev2 (λ n _=>eZ n a) (·=m9 a):=by
 simp only [eZ]
 unfold m9
 refine aA (λ h=>aa (by rw [if_pos (by omega)])) (λ h=>?_)
 rw [if_neg (show ¬ 16 < a.fModule.length by omega)]
 have l:=A9 a ha a.fModule.length 0 (by omega)
 rw [List.drop_zero] at l
 by_cases he:iR a.fModule=0
 ·rw [if_pos he] at l
  rw [if_neg (by simp [he])]
  refine gZ () (bu l) ?_
  refine ak (decide (gS a.fType=false∨bO a.fName=false)) ?_ ?_
  ·refine ak _ (ye _ (by have:=ha.2.1; omega)) ?_
   cases gS a.fType with
   | false=>exact au rfl (aa (by simp))
   | true =>
    refine av (by simp) (ak _ (pU _ (by have:=ha.2.2.1; omega)) (aa ?_))
    cases bO a.fName <;> simp
  ·refine aA (λ h=>aa (by rw [if_pos (of_decide_eq_true h)])) (λ h=>?_)
   rw [if_neg (λ q=>h (decide_eq_true q))]
   refine ak _ (aQ (valid_eq _) rfl) ?_
   cases cq a.fKey with
   | false=>exact au rfl (aa (by simp))
   | true=>exact av (by simp) (aa (by simp))
 ·rw [if_neg he] at l
  rw [if_pos he]
  exact gO _ (bu l) rfl
theorem rL:∀ ms:List ab,iR ms=0↔∀ x∈ms,bO x.fName=true∧cq x.fKey=true
 | []=>by simp [iR]
 | x::r=>by
  have ih:=rL r
  unfold iR
  cases h1:bO x.fName with
  | false=>simp [h1]
  | true =>
   cases h2:cq x.fKey with
   | false=>simp [h1,h2]
   | true=>simp [h1,h2,ih]
theorem lK (a:ae):m9 a=0↔a.fModule.length≤16∧(∀ x∈a.fModule,bO x.fName=true∧cq x.fKey=true)∧gS a.fType=true∧bO a.fName=true∧cq a.fKey=true:=by
 rw [← rL]
 unfold m9
 by_cases h:16 < a.fModule.length
 ·rw [if_pos h]; simp; omega
 rw [if_neg h]
 by_cases h2:iR a.fModule=0
 ·rw [if_neg (by simp [h2])]
  cases gS a.fType <;> cases bO a.fName <;> cases cq a.fKey <;> simp [h2] <;> omega
 ·rw [if_pos h2]
  constructor
  ·intro q; exact absurd q h2
  ·intro q; exact q.2.1
theorem d9 {s:Bytes}(h:bO s=true):s.length≤64:=((px s).1 h).2.1
def aK (k:bJ):Bytes:=if cq k=false∨k.fKind=0 then [] else if k.fKind=1 then [91]++itoa k.fNum++[93] else [91]++dA k.fStr++[93]
def bC (x:ab):Bytes:=iC++x.fName++aK x.fKey++[46]
def ga (a:ae):Bytes:=a.fModule.flatMap bC++((if a.fData=true then bv else [])++(a.fType++[46]++a.fName++aK a.fKey))
def mM (a:ae):Bytes:=if m9 a=0 then ga a else []
theorem mc {k:bJ}(h:cq k=true)(h1:k.fKind=1):0≤k.fNum∧k.fNum≤iD∧k.fStr=[]:=by
 unfold cq at h
 rw [if_neg (by omega),if_pos h1] at h
 exact of_decide_eq_true h
theorem kb {k:bJ}(h:cq k=true):k.fKind=0∨k.fKind=1∨k.fKind=2:=by
 unfold cq at h
 split at h
 ·left; assumption
 split at h
 ·right; left; assumption
 split at h
 ·right; right; assumption
 ·cases h
theorem mh {k:bJ}(h:cq k=true)(h1:k.fKind=2):k.fNum=0∧k.fStr.length≤4096∧validD k.fStr=true:=by
 unfold cq at h
 rw [if_neg (by omega),if_neg (by omega),if_pos h1] at h
 simpa using h
theorem tK {k:bJ}(h:cq k=true)(h1:k.fKind=0):k=jI:=by
 unfold cq at h
 rw [if_pos h1] at h
 have:=of_decide_eq_true h
 cases k
 simp only at *
 rw [h1,this.1,this.2]; rfl
theorem qM (s:Bytes):(dA s).length≤6*s.length+2:=by
 have:=(tV s).2
 unfold dA
 simp only [List.length_cons,List.length_append,List.length_nil]; omega
theorem j9 (k:bJ):(aK k).length≤24600:=by
 unfold aK
 split
 ·simp
 ·rename_i h
  have hk:cq k=true:=by
   cases hh:cq k with
   | true=>rfl
   | false=>exact absurd (.inl hh) h
  split
  ·rename_i h1
   have hn:=mc hk h1
   have:=qg hn.1 hn.2.1
   simp only [List.length_append,List.length_cons,List.length_nil]; omega
  ·rename_i h1
   have h2:k.fKind=2:=by
    rcases kb hk with q | q | q
    ·exact absurd (.inr q) h
    ·exact absurd q h1
    ·exact q
   have hs:=mh hk h2
   have:=qM k.fStr
   simp only [List.length_append,List.length_cons,List.length_nil]; omega
theorem yc (k:bJ):Ev2 (λ n _=>cP n k) (·=aK k):=by
 simp only [cP]
 unfold aK
 refine ak (decide (cq k=false∨k.fKind=0)) ?_ ?_
 ·refine ak _ (aQ (valid_eq _) rfl) ?_
  cases cq k with
  | false=>exact au rfl (aa (by simp))
  | true=>exact av (by simp) (aa (by simp))
 ·refine aA (λ h=>aa (by rw [if_pos (of_decide_eq_true h)])) (λ h=>?_)
  have h:=λ q=>h (decide_eq_true q)
  rw [if_neg h]
  have hk:cq k=true:=by
   cases hh:cq k with
   | true=>rfl
   | false=>exact absurd (.inl hh) h
  refine aA (λ h1=>?_) (λ h1=>?_)
  ·rw [if_pos h1]
   have hn:=mc hk h1
   have hl:=qg hn.1 hn.2.1
   have hf:iM k.fNum=some (itoa k.fNum):=by
    unfold iM strconv_Itoa
    rw [aM (aV (by omega) (by have:=hn.2.1; unfold iD at this; omega))]; rfl
   refine ak _ (aQ hf rfl) (ai (by simp only [List.length_cons,List.length_nil]; omega) (ai (by simp only [List.length_append,List.length_cons,List.length_nil]; omega) (aa rfl)))
  ·rw [if_neg h1]
   have h2:k.fKind=2:=by
    rcases kb hk with q | q | q
    ·exact absurd (.inr q) h
    ·exact absurd q h1
    ·exact q
   have hs:=mh hk h2
   have hl:=qM k.fStr
   refine ak _ (sY _ (by omega)) (ai (by simp only [List.length_cons,List.length_nil]; omega) (ai (by simp only [List.length_append,List.length_cons,List.length_nil]; omega) (aa rfl)))
theorem m7 {x:ab}(h:bO x.fName=true):(bC x).length≤25000:=by
 have h1:=d9 h
 have h2:=j9 x.fKey
 unfold bC iC
 simp only [List.length_append,List.length_cons,List.length_nil]; omega
theorem q8:∀ (ms:List ab),(∀ x∈ms,bO x.fName=true)→(ms.flatMap bC).length≤25000*ms.length
 | [],_=>by simp
 | x::r,h=>by
  have:=q8 r λ y hy=>h y (List.mem_cons_of_mem _ hy)
  have h1:=m7 (h x List.mem_cons_self)
  simp only [List.flatMap_cons,List.length_append,List.length_cons]; omega
theorem zx (a:ae)(hm:a.fModule.length≤16)(ha:∀ x∈a.fModule,bO x.fName=true):∀ (k i:Nat) (f:Bytes),i+k=a.fModule.length→f.length≤25000*i→Ev2 (λ n m=>cj n a m (i:Int) f) (·=f++(a.fModule.drop i).flatMap bC):=by
 intro k
 induction k with
 | zero =>
  intro i f hi hf
  refine aS ?_
  simp only [cj]
  refine av (by omega) (aa ?_)
  rw [List.drop_of_length_le (by omega)]; simp
 | succ k ih =>
  intro i f hi hf
  refine aS ?_
  simp only [cj]
  have hil:i < a.fModule.length:=by omega
  refine au (by omega) (ai (by omega) ?_)
  rw [gV _ _ hil,List.drop_eq_getElem_cons hil]
  have hx:=ha _ (List.getElem_mem hil)
  generalize a.fModule[i]=x at hx ⊢
  have h1:=d9 hx
  have h2:=j9 x.fKey
  have h3:=m7 hx
  refine ai (by simp only [List.length_cons,List.length_nil]; omega) (ak _ (yc x.fKey) ?_)
  refine ai (by simp only [List.length_append,List.length_cons,List.length_nil]; omega) (ai (by simp only [List.length_append,List.length_cons,List.length_nil]; omega) ?_)
  have e:((([109,111,100,117,108,101,46]:Bytes)++x.fName)++aK x.fKey)++([46]:Bytes)=bC x:=rfl
  rw [e]
  refine ak _ (aQ (xO f (bC x) (by omega)) rfl) (ai (aV (by omega) (by omega)) ?_)
  have:=ih (i+1) (f++bC x) (by omega) (by rw [List.length_append]; omega)
  rw [Int.natCast_add,Int.natCast_one] at this
  simpa using this
theorem yO (a:ae)(ha:Sm a):Ev2 (λ n _=>eq n a) (·=mM a):=by
 simp only [eq]
 unfold mM
 refine ak _ (Aq a ha) (aA (λ h=>?_) (λ h=>aa (by rw [if_neg h])))
 rw [if_pos h]
 obtain ⟨c1,c2,c3,c4,c5⟩:=(lK a).1 h
 have l:=zx a c1 (λ x hx=>(c2 x hx).1) a.fModule.length 0 [] (by omega) (by simp)
 have hl:=q8 a.fModule (λ x hx=>(c2 x hx).1)
 rw [List.drop_zero] at l
 refine ak _ (bu l) ?_
 unfold ga
 generalize a.fModule.flatMap bC=st at hl ⊢
 have h1:a.fType.length≤64:=by
  unfold gS at c3
  rw [Bool.and_eq_true] at c3
  exact d9 c3.2
 have h2:=d9 c4
 have h3:=j9 a.fKey
 refine ak (st++(if a.fData=true then bv else [])) ?_ ?_
 ·refine aA (λ h=>?_) (λ h=>aa (by rw [if_neg h]; simp))
  rw [if_pos h]
  exact ak _ (aQ (xO _ [100,97,116,97,46] (by simp only [List.nil_append,List.length_cons,List.length_nil]; omega)) rfl) (aa (by simp [bv]))
 ·have hd:(if a.fData=true then bv else ([]:Bytes)).length≤5:=by split <;> simp [bv]
  refine ai (by simp only [List.length_cons,List.length_nil]; omega) (ai (by simp only [List.length_append,List.length_cons,List.length_nil]; omega) (ak _ (yc a.fKey) (ai (by simp only [List.length_append,List.length_cons,List.length_nil]; omega) ?_)))
  refine ak _ (aQ (xO _ _ (by simp only [List.length_append,List.length_cons,List.length_nil]; omega)) rfl) (ak _ (aQ (El _ (by simp only [List.length_append,List.length_cons,List.length_nil]; omega)) rfl) (aa ?_))
  simp
theorem lC {r:ah}(h:(cT r).2.fbad=false):r.fbad=false∧bO (cT r).1=true∧r.frest=(cT r).1++(cT r).2.frest:=by
 unfold cT at *
 simp only [Bool.or_eq_false_iff,Bool.not_eq_false'] at h
 exact ⟨h.1,h.2,(List.take_append_drop _ _).symm⟩
theorem lu {r:ah}{p:Bytes}(h:(ge r p).fbad=false):r.fbad=false∧r.frest=p++(ge r p).frest:=by
 unfold ge at *
 simp only [Bool.or_eq_false_iff,Bool.not_eq_false'] at h
 obtain ⟨t,ht⟩:=(dp _ _).1 h.2
 refine ⟨h.1,?_⟩
 simp only
 rw [ht,iG]
theorem qz {r:ah}(h:(j3 r).2.fbad=false):r.fbad=false∧cq (j3 r).1=true∧r.frest=aK (j3 r).1++(j3 r).2.frest:=by
 have hno:cq jI=true∧aK jI=[]:=⟨rfl,rfl⟩
 unfold j3 at *
 by_cases hb:r.fbad=true
 ·rw [if_pos hb] at h; rw [hb] at h; cases h
 rw [if_neg hb] at h ⊢
 have hb:r.fbad=false:=by simpa using hb
 by_cases hp:hasPrefix r.frest [91]=false
 ·rw [if_pos hp] at h ⊢
  exact ⟨hb,hno.1,by rw [hno.2]; rfl⟩
 rw [if_neg hp] at h ⊢
 obtain ⟨l,hl⟩:=(dp _ _).1 (by simpa using hp)
 have hd:r.frest.drop 1=l:=by rw [hl]; rfl
 rw [hd] at h ⊢
 by_cases hq:hasPrefix l [34]=true
 ·rw [if_pos hq] at h ⊢
  have hok:=@vE l
  generalize jW l=U at h hok ⊢
  obtain ⟨x,n,e⟩:=U
  simp only at h ⊢
  by_cases he:e=0∧dA x=l.take n.toNat
  ·rw [if_pos he] at h ⊢
   obtain ⟨rfl,he⟩:=he
   have hx:=hok rfl
   have hs:=lu h
   have hko:cq (bJ.mk 2 0 x)=true:=by
    unfold cq
    simp [hx.1,hx.2.1]
   refine ⟨hb,hko,?_⟩
   have ht:aK (bJ.mk 2 0 x)=[91]++dA x++[93]:=by
    unfold aK
    rw [if_neg (by rw [hko]; simp),if_neg (by simp)]
   rw [ht,hl,he]
   have h2:=hs.2
   simp only at h2
   rw [List.append_assoc,List.append_assoc,← h2,List.take_append_drop]
  ·rw [if_neg he] at h; cases h
 ·rw [if_neg hq] at h ⊢
  have hs:=lu h
  simp only at hs
  generalize hN:qW (l.take (idx l 93))=N at h hs ⊢
  obtain ⟨v,e⟩:=N
  simp only at hs h ⊢
  have h1:=hs.1
  have he:e=0∧¬ v < 0:=by simpa using h1
  obtain ⟨rfl,hv⟩:=he
  have hi:=zc _ _ hN (by omega)
  have hko:cq (bJ.mk 1 v [])=true:=by
   unfold cq
   simp; exact ⟨by omega,hi.2⟩
  refine ⟨hb,hko,?_⟩
  have ht:aK (bJ.mk 1 v [])=[91]++itoa v++[93]:=by
   unfold aK
   rw [if_neg (by rw [hko]; simp),if_pos rfl]
  rw [ht,hl,hi.1,List.append_assoc,List.append_assoc,← hs.2,List.take_append_drop]
theorem mW:∀ (k:Nat) (ms:List ab) (r:ah),(gf k ms r).2.fbad=false→r.fbad=false∧∃ new,(gf k ms r).1=ms++new∧r.frest=new.flatMap bC++(gf k ms r).2.frest∧∀ x∈new,bO x.fName=true∧cq x.fKey=true
 | 0,ms,r,h=>⟨h,[],by simp [gf],by simp [gf],by simp⟩
 | k+1,ms,r,h=>by
  unfold gf at h ⊢
  by_cases hc:r.fbad=false∧hasPrefix r.frest iC=true
  ·rw [if_pos hc] at h ⊢
   obtain ⟨t,ht⟩:=(dp _ _).1 hc.2
   have hd:r.frest.drop 7=t:=by rw [ht]; rfl
   rw [hd] at h ⊢
   obtain ⟨b1,new,e1,e2,e3⟩:=mW k _ _ h
   have s1:=lu b1
   have s2:(j3 (cT (ah.mk t false)).2).2.fbad=false:=s1.1
   have s3:=qz s2
   have s4:=lC s3.1
   have hs1:(j3 (cT (ah.mk t false)).2).2.frest=[46]++(ge (stepT (ah.mk t false)).2 [46]).frest:=s1.2
   refine ⟨hc.1,(stepT (ah.mk t false)).1::new,by rw [e1]; simp,?_,?_⟩
   ·rw [ht,List.flatMap_cons]
    have h4:=s4.2.2
    simp only at h4
    show iC++t=(iC++(cT (ah.mk t false)).1++aK (j3 (cT (ah.mk t false)).2).1++[46]++new.flatMap bC)++_
    simp only [List.append_assoc]
    rw [← e2,← hs1,← s3.2.2,← h4]
   ·intro x hx
    rcases List.mem_cons.1 hx with rfl | hx
    ·exact ⟨s4.2.1,s3.2.1⟩
    ·exact e3 x hx
  ·rw [if_neg hc] at h ⊢
   exact ⟨h,[],by simp,by simp,by simp⟩
theorem rK {s:Bytes}{a:ae}(h:iU s=(a,0)):m9 a=0∧ga a=s∧Sm a:=by
 unfold iU at h
 simp only at h
 have hL:=mW (s.length+1) [] (ah.mk s false)
 generalize gf (s.length+1) [] (ah.mk s false)=p at h hL
 obtain ⟨ms,r⟩:=p
 simp only at h hL
 split at h
 ·cases h
 ·rename_i h0
  split at h
  ·cases h
  ·rename_i h1
   cases h
   simp only [not_or] at h0
   obtain ⟨hb,hr,hk⟩:=h0
   have hb:(fK r).2.2.2.2.fbad=false:=by simpa using hb
   have hr:(fK r).2.2.2.2.frest=[]:=by simpa using hr
   have hk:gS (fK r).2.1=true:=by simpa using hk
   have hb:(j3 (cT (ge (cT (gX r bv).2).2 [46])).2).2.fbad=false:=hb
   have hr:(j3 (cT (ge (cT (gX r bv).2).2 [46])).2).2.frest=[]:=hr
   have hk:gS (cT (gX r bv).2).1=true:=hk
   have s1:=qz hb
   have s2:=lC s1.1
   have s3:=lu s2.1
   have s4:=lC s3.1
   have hrb:r.fbad=false:=s4.1
   obtain ⟨_,new,e1,e2,e3⟩:=hL hrb
   simp only [List.nil_append] at e1
   subst e1
   have hdat:r.frest=(if (gX r bv).1=true then bv else [])++(gX r bv).2.frest:=by
    unfold gX
    simp only
    cases hp:hasPrefix r.frest bv with
    | true =>
     obtain ⟨t,ht⟩:=(dp _ _).1 hp
     rw [ht,iG]; rfl
    | false=>rw [lN hp]; rfl
   have hlen:∀ x∈ms,x.fName.length≤100000:=λ x hx=>by have:=d9 (e3 x hx).1; omega
   have hty:(cT (gX r bv).2).1.length≤64:=d9 s4.2.1
   have hnm:=d9 s2.2.1
   refine ⟨(lK _).2 ⟨by show ms.length≤16; omega,e3,hk,s2.2.1,s1.2.1⟩,?_,⟨by show ms.length≤_; omega,?_,?_,hlen⟩⟩
   ·show ms.flatMap bC++((if (gX r bv).1=true then bv else [])++((cT (gX r bv).2).1++[46]++(cT (ge (cT (gX r bv).2).2 [46])).1++aK (j3 (cT (ge (cT (gX r bv).2).2 [46])).2).1))=s
    have x1:=s1.2.2
    rw [hr,List.append_nil] at x1
    rw [← x1,List.append_assoc,← s2.2.2,List.append_assoc,← s3.2,← s4.2.2,← hdat,← e2]
   ·show (cT (gX r bv).2).1.length≤100000
    omega
   ·show (cT (ge (cT (gX r bv).2).2 [46])).1.length≤100000
    omega
end Go.Ab.R06
namespace Go.Ab.R06
open Go.Ab Go.Ab.RB Go.Lib
theorem mU {b:UInt8}(h:idB b=true):jH b=false:=by
 simp only [idB,Bool.or_eq_true,pK,iJ] at h
 unfold jH
 rw [Bool.or_eq_false_iff,decide_eq_false_iff_not,decide_eq_false_iff_not]
 omega
theorem kP {s:Bytes}(h:bO s=true){b:UInt8}(hb:b∈s):idB b=true:=by
 have:=(rk s).1 h
 rw [tP] at this
 exact List.all_eq_true.1 this.2.2.2 b hb
theorem uK:∀ (w t:Bytes),(∀ b∈w,jH b=false)→(t=[]∨∃ b r,t=b::r∧jH b=true)→jK (w++t)=w.length
 | [],t,_,h=>by
  rcases h with rfl | ⟨b,r,rfl,hb⟩
  ·rfl
  ·show jK (b::r)=0
   unfold jK; rw [if_pos hb]
 | b::w,t,hw,h=>by
  show jK (b::(w++t))=_
  unfold jK
  rw [if_neg (by simp [hw b List.mem_cons_self]),uK w t (λ y hy=>hw y (List.mem_cons_of_mem _ hy)) h]
  simp
theorem qE {w t:Bytes}(hw:bO w=true)(h:t=[]∨∃ b r,t=b::r∧jH b=true):cT (ah.mk (w++t) false)=(w,ah.mk t false):=by
 unfold cT
 simp only
 rw [uK w t (λ b hb=>mU (kP hw hb)) h,List.take_left,List.drop_left,hw]
 rfl
theorem ot (p t:Bytes):ge (ah.mk (p++t) false) p=ah.mk t false:=by
 unfold ge
 simp only
 rw [iG,iN]; rfl
theorem wj:∀ (l:Bytes) (c:UInt8) (t:Bytes),(∀ b∈l,b≠c)→indexByte (l++c::t) c=l.length
 | [],c,t,_=>by simp [indexByte]
 | b::r,c,t,h=>by
  have ih:=wj r c t (λ y hy=>h y (List.mem_cons_of_mem _ hy))
  have hb:(b == c)=false:=by simpa using h b List.mem_cons_self
  show indexByte (b::(r++c::t)) c=_
  unfold indexByte
  rw [hb,ih]
  have:((r.length:Int) == -1)=false:=by simp <;> omega
  simp only [Bool.false_eq_true,if_false,this,List.length_cons]
  omega
theorem rn {v:Int}(h0:0≤v):(itoa v).all di=true∧itoa v≠[]:=by
 obtain ⟨u,rfl⟩:∃ u:Nat,v=u:=⟨v.toNat,by omega⟩
 have e:itoa (u:Int)=decDigits u:=by unfold itoa; rw [if_neg (by omega)]; simp
 rw [e]
 have:=ve (u+1) u (by omega)
 exact ⟨this.2.1,this.2.2.1⟩
theorem wV {k:bJ}{t:Bytes}(hk:cq k=true)(h:hasPrefix t [91]=false):j3 (ah.mk (aK k++t) false)=(k,ah.mk t false):=by
 rcases kb hk with h0 | h0 | h0
 ·have e:=tK hk h0
  subst e
  have et:aK jI=[]:=rfl
  rw [et,List.nil_append]
  unfold j3
  rw [if_neg (by simp),if_pos h]
 ·have hn:=mc hk h0
  have et:aK k=[91]++itoa k.fNum++[93]:=by
   unfold aK
   rw [if_neg (by rw [hk]; simp [h0]),if_pos h0]
  obtain ⟨hd,hne⟩:=rn hn.1
  have e1:aK k++t=[91]++(itoa k.fNum++93::t):=by rw [et]; simp
  have hix:idx (itoa k.fNum++93::t) 93=(itoa k.fNum).length:=by
   unfold idx
   rw [wj]
   ·simp
   ·intro b hb q
    have:=j6 hd hb
    rw [q] at this
    have h93:(93:UInt8).toNat=93:=rfl
    omega
  have hnp:hasPrefix (itoa k.fNum++93::t) [34]=false:=by
   rw [← Bool.not_eq_true,dp]
   rintro ⟨u,hu⟩
   cases hx:itoa k.fNum with
   | nil=>exact hne hx
   | cons c r =>
    rw [hx] at hu hd
    have hc:c=34:=(List.cons.inj hu).1
    have:=j6 hd (b:=c) List.mem_cons_self
    rw [hc] at this
    have h34:(34:UInt8).toNat=34:=rfl
    omega
  unfold j3
  rw [e1,if_neg (by simp),if_neg (by rw [iN]; simp)]
  have hd1:([91]++(itoa k.fNum++93::t)).drop 1=itoa k.fNum++93::t:=rfl
  rw [hd1,if_neg (by rw [hnp]; simp),hix,List.take_left,List.drop_left,zj _ hn.1 hn.2.1]
  simp only
  have hv0:¬ k.fNum < 0:=by have:=hn.1; omega
  simp only [hv0,decide_true,decide_false,Bool.not_false,Bool.and_self,Bool.not_true]
  have hs:=ot [93] t
  rw [show (93::t:Bytes)=[93]++t from rfl,hs]
  refine Prod.ext ?_ rfl
  cases k
  simp only at *
  rw [h0,hn.2.2]
 ·have hs:=mh hk h0
  have et:aK k=[91]++dA k.fStr++[93]:=by
   unfold aK
   rw [if_neg (by rw [hk]; simp [h0]),if_neg (by omega)]
  have e1:aK k++t=[91]++(dA k.fStr++([93]++t)):=by rw [et]; simp
  have hu:=tF k.fStr ([93]++t) hs.2.2 hs.2.1
  unfold j3
  rw [e1,if_neg (by simp),if_neg (by rw [iN]; simp)]
  have hd1:([91]++(dA k.fStr++([93]++t))).drop 1=dA k.fStr++([93]++t):=rfl
  have hq:hasPrefix (dA k.fStr++([93]++t)) [34]=true:=by
   rw [dp]; exact ⟨k.fStr.flatMap fF++[34]++([93]++t),by simp [dA]⟩
  rw [hd1,if_pos hq,hu]
  simp only [Int.toNat_natCast]
  rw [List.take_left,List.drop_left,if_pos ⟨trivial,rfl⟩,ot]
  refine Prod.ext ?_ rfl
  cases k
  simp only at *
  rw [h0,hs.1]
theorem pZ (k:bJ)(t:Bytes)(ht:∃ b r,t=b::r∧jH b=true):∃ b r,aK k++t=b::r∧jH b=true:=by
 unfold aK
 split
 ·exact ht
 ·split
  ·exact ⟨91,_,rfl,by decide⟩
  ·exact ⟨91,_,rfl,by decide⟩
theorem rJ (k:bJ):aK k=[]∨∃ b r,aK k=b::r∧jH b=true:=by
 unfold aK
 split
 ·exact .inl rfl
 ·split
  ·exact .inr ⟨91,_,rfl,by decide⟩
  ·exact .inr ⟨91,_,rfl,by decide⟩
theorem rF {b c:UInt8}{t:Bytes}(h:b≠c):hasPrefix (b::t) [c]=false:=by
 rw [← Bool.not_eq_true,dp]
 rintro ⟨u,hu⟩
 exact h (List.cons.inj hu).1
theorem rD:∀ (new:List ab) (k:Nat) (ms:List ab) (t:Bytes),new.length < k→(∀ x∈new,bO x.fName=true∧cq x.fKey=true)→hasPrefix t iC=false →
  gf k ms (ah.mk (new.flatMap bC++t) false)=(ms++new,ah.mk t false)
 | [],k,ms,t,hk,_,ht=>by
  obtain ⟨k,rfl⟩:∃ k',k=k'+1:=⟨k - 1,by omega⟩
  unfold gf
  rw [if_neg]
  ·simp
  ·rintro ⟨_,q⟩
   simp only [List.flatMap_nil,List.nil_append] at q
   rw [ht] at q; cases q
 | x::r,k,ms,t,hk,hx,ht=>by
  obtain ⟨k,rfl⟩:∃ k',k=k'+1:=⟨k - 1,by omega⟩
  have h1:=hx x List.mem_cons_self
  have ih:=rD r k (ms++[x]) t (by simp only [List.length_cons] at hk; omega) (λ y hy=>hx y (List.mem_cons_of_mem _ hy)) ht
  generalize hT:r.flatMap bC++t=T at ih
  have e:(x::r).flatMap bC++t=iC++(x.fName++(aK x.fKey++([46]++T))):=by
   rw [List.flatMap_cons,List.append_assoc,hT]; simp [bC]
  unfold gf
  rw [e]
  simp only
  rw [if_pos ⟨trivial,iN _ _⟩]
  have hd:(iC++(x.fName++(aK x.fKey++([46]++T)))).drop 7=x.fName++(aK x.fKey++([46]++T)):=rfl
  have hst:stepT (ah.mk (x.fName++(aK x.fKey++([46]++T))) false)=(x,ah.mk ([46]++T) false):=by
   unfold stepT
   rw [qE (t:=aK x.fKey++([46]++T)) h1.1 (.inr (pZ _ _ ⟨46,T,rfl,by decide⟩))]
   simp only
   rw [wV (t:=[46]++T) h1.2 (rF (b:=46) (c:=91) (t:=T) (by decide))]
  rw [hd,hst]
  simp only
  rw [ot,ih]
  simp
theorem sy:∀ (p w t u:Bytes),(∀ b∈p,jH b=false)→(∀ b∈w,jH b=false)→w++46::t=p++46::u→w=p
 | [],[],_,_,_,_,_=>rfl
 | [],c::w,t,u,_,hw,h=>by
  have:=(List.cons.inj h).1
  have h2:=hw c List.mem_cons_self
  rw [this] at h2
  exact absurd h2 (by decide)
 | c::p,[],t,u,hp,_,h=>by
  have:=(List.cons.inj h).1
  have h2:=hp c List.mem_cons_self
  rw [← this] at h2
  exact absurd h2 (by decide)
 | c::p,d::w,t,u,hp,hw,h=>by
  obtain ⟨h1,h2⟩:=List.cons.inj h
  rw [h1,sy p w t u (λ b hb=>hp b (List.mem_cons_of_mem _ hb)) (λ b hb=>hw b (List.mem_cons_of_mem _ hb)) h2]
theorem jU (s:Bytes):gS s=true↔eH s=false∧bO s=true:=by
 unfold gS; simp
def ka (x:ab):ab:=ab.mk x.fName jI
def nj (a:ae):ae:=ae.mk (a.fModule.map ka) a.fData a.fType a.fName jI
theorem Sm.bare {a:ae}(h:Sm a):Sm (nj a):=by
 refine ⟨by show (a.fModule.map ka).length≤_; rw [List.length_map]; exact h.1,h.2.1,h.2.2.1,λ x hx=>?_⟩
 obtain ⟨y,hy,rfl⟩:=List.mem_map.1 hx
 exact h.2.2.2 y hy
theorem set_mid {α:Type}(p:List α)(x y:α)(q:List α):(p++x::q).set p.length y=p++y::q:=by
 induction p with
 | nil=>rfl
 | cons c r ih=>simp [ih]
theorem CZ {α:Type} [Inhabited α] (p:List α)(x:α)(q:List α):lat (p++x::q) (p.length:Int)=x:=by
 rw [yF,List.getD_eq_getElem?_getD]; simp
theorem zP (a:ae)(hb:a.fModule.length≤1000000000):∀ (k i:Nat),i+k=a.fModule.length→Ev2 (λ _ m=>cg a m (i:Int) ((a.fModule.take i).map ka++a.fModule.drop i)) (·=a.fModule.map ka):=by
 intro k
 induction k with
 | zero =>
  intro i hi
  refine aS ?_
  simp only [cg]
  refine av (by omega) (aa ?_)
  rw [List.drop_of_length_le (by omega),List.take_of_length_le (by omega)]; simp
 | succ k ih =>
  intro i hi
  refine aS ?_
  simp only [cg]
  have h1:i < a.fModule.length:=by omega
  have hl:((a.fModule.take i).map ka++a.fModule.drop i).length=a.fModule.length:=by
   rw [List.length_append,List.length_map,List.length_take,List.length_drop]; omega
  refine au (by omega) (ai (by omega) (ai (aV (by omega) (by omega)) ?_))
  have hd:(a.fModule.take i).map ka++a.fModule.drop i=(a.fModule.take i).map ka++a.fModule[i]::a.fModule.drop (i+1):=by rw [List.drop_eq_getElem_cons h1]
  have hpl:((a.fModule.take i).map ka).length=i:=by rw [List.length_map,List.length_take]; omega
  have hg:lat ((a.fModule.take i).map ka++a.fModule.drop i) (i:Int)=a.fModule[i]:=by
   rw [hd]
   have:=CZ ((a.fModule.take i).map ka) a.fModule[i] (a.fModule.drop (i+1))
   rw [hpl] at this
   exact this
  rw [hg,Int.toNat_natCast]
  have hs:((a.fModule.take i).map ka++a.fModule.drop i).set i (ab.mk a.fModule[i].fName (bJ.mk 0 0 ([]:Bytes)))=(a.fModule.take (i+1)).map ka++a.fModule.drop (i+1):=by
   rw [hd]
   have:=set_mid ((a.fModule.take i).map ka) a.fModule[i] (ab.mk a.fModule[i].fName (bJ.mk 0 0 ([]:Bytes))) (a.fModule.drop (i+1))
   rw [hpl] at this
   rw [this,show a.fModule.take (i+1)=a.fModule.take i++[a.fModule[i]] by rw [List.take_add_one,List.getElem?_eq_getElem h1]; rfl,List.map_append,List.append_assoc]
   rfl
  rw [hs]
  have:=ih (i+1) (by omega)
  rw [Int.natCast_add,Int.natCast_one] at this
  exact this
theorem zT (a:ae)(ha:Sm a):Ev2 (λ n _=>eC n a) (·=nj a):=by
 simp only [eC]
 have hl:=ha.1
 refine aA (λ h=>?_) (λ h=>ai (by omega) ?_)
 ·have:a.fModule=[]:=by simpa using h
  refine ak () ?_ (aa (by unfold nj; rw [this]; rfl))
  refine qq ?_
  simp only [dl]
  exact av (by simp) (aa (by trivial))
 ·have l:=zP a (by omega) a.fModule.length 0 (by omega)
  rw [List.take_zero,List.drop_zero] at l
  exact ak _ (bu l) (aa rfl)
def iO (s:Bytes):Bytes×Int:=if (iU s).2=0 then (mM (nj (iU s).1),0) else ([],(iU s).2)
theorem zU (s:Bytes)(hs:s.length≤800000000):Ev2 (λ n _=>dU n s) (·=iO s):=by
 simp only [dU]
 unfold iO
 refine ak _ (BB s hs) ?_
 have hp:=@rK s
 generalize iU s=p at hp ⊢
 obtain ⟨a,e⟩:=p
 simp only
 refine aA (λ h=>?_) (λ h=>aa (by rw [if_neg h]))
 subst h
 rw [if_pos rfl]
 have ha:=(hp rfl).2.2
 exact ak _ (zT a ha) (ak _ (yO _ ha.bare) (aa rfl))
theorem tc:aK jI=[]:=by unfold aK; rw [if_pos (.inr rfl)]
theorem ya:∀ (ms:List ab),(∀ x∈ms,(bC x).length≤80)→(ms.flatMap bC).length≤80*ms.length
 | [],_=>by simp
 | x::ms,h=>by
  have h1:=h x (List.mem_cons_self ..)
  have h2:=ya ms λ y hy=>h y (List.mem_cons_of_mem _ hy)
  rw [List.flatMap_cons,List.length_append,List.length_cons]; omega
theorem Al {a:ae}(h:m9 (nj a)=0):(ga (nj a)).length≤2000:=by
 obtain ⟨c1,c2,c3,c4,_⟩:=(lK _).1 h
 have hl:=ya (nj a).fModule λ x hx=>by
  have hi:=d9 (c2 x hx).1
  obtain ⟨y,_,rfl⟩:=List.mem_map.1 hx
  have e:aK (ka y).fKey=[]:=tc
  unfold bC
  rw [e]
  simp only [List.length_append,List.length_cons,List.length_nil,show iC.length=7 from rfl]
  omega
 have h1:=d9 ((jU _).1 c3).2
 have h2:=d9 c4
 have hd:(if (nj a).fData=true then bv else ([]:Bytes)).length≤5:=by split <;> simp [bv]
 have e:aK (nj a).fKey=[]:=tc
 unfold ga
 rw [e]
 simp only [List.length_append,List.length_cons,List.length_nil]; omega
theorem rH (s:Bytes):(iO s).1.length≤2000:=by
 unfold iO
 split
 ·show (mM _).length≤_
  unfold mM
  split
  ·rename_i h; exact Al h
  ·simp
 ·simp
theorem Dz (l:List Bytes)(s:Bytes)(hb:l.length≤65536)(hl:∀ p∈l,p.length≤65536)(hs:s.length≤32768):∀ (k i:Nat),i+k=l.length→Ev2 (λ _ m=>ew l s m (i:Int)) (·=if Glob.anyL (l.drop i) s=true then .inr true else .inl ()):=by
 intro k
 induction k with
 | zero =>
  intro i hi
  refine aS ?_
  simp only [ew]
  exact av (by omega) (aa (by rw [List.drop_of_length_le (by omega)]; rfl))
 | succ k ih =>
  intro i hi
  have h1:i < l.length:=by omega
  refine aS ?_
  simp only [ew]
  refine au (by omega) (ai (by omega) ?_)
  rw [gV _ _ h1,List.drop_eq_getElem_cons h1]
  refine ai ⟨hl _ (List.getElem_mem h1),hs⟩ ?_
  have e:Glob.anyL (l[i]::l.drop (i+1)) s=(Glob.matchL l[i] s||Glob.anyL (l.drop (i+1)) s):=rfl
  rw [e]
  cases hq:Glob.matchL l[i] s
  ·refine av (by simp) (ai (aV (by omega) (by omega)) ?_)
   have:=ih (i+1) (by omega)
   rw [Int.natCast_add,Int.natCast_one] at this
   rw [Bool.false_or]; exact this
  ·exact au rfl (aa (by rw [Bool.true_or,if_pos rfl]))
theorem Af (l:List Bytes)(s:Bytes)(hb:l.length≤65536)(hl:∀ p∈l,p.length≤65536)(hs:s.length≤32768):Ev2 (λ n _=>ju n l s) (·=Glob.anyL l s):=by
 simp only [ju]
 have l1:=Dz l s hb hl hs l.length 0 (by omega)
 rw [List.drop_zero] at l1
 cases hq:Glob.anyL l s
 ·rw [if_neg (by simp [hq])] at l1
  exact gZ () (bu l1) (aa rfl)
 ·rw [if_pos hq] at l1
  exact gO true (bu l1) rfl
def zu (t:List Bytes)(addr:Bytes):Bool:=decide (t=[])||Glob.anyL t addr||(decide ((iO addr).2=0)&&Glob.anyL t (iO addr).1)
theorem rM (t:List Bytes)(addr:Bytes)(hb:t.length≤65536)(hl:∀ p∈t,p.length≤65536)(ha:addr.length≤300):Ev2 (λ n _=>cr n t addr) (·=zu t addr):=by
 have hs:=rH addr
 simp only [cr]
 unfold zu
 refine iE (decide (t=[])||Glob.anyL t addr) ?_ ?_
 ·refine aA (λ h=>aa ?_) (λ h=>iE _ (Af t addr hb hl (by omega)) (aa ?_))
  ·rw [decide_eq_true (List.length_eq_zero_iff.1 (by omega))]; rfl
  ·rw [decide_eq_false (λ e=>h (by rw [e]; rfl))]; rfl
 ·cases (decide (t=[])||Glob.anyL t addr)
  ·refine av (by decide) (iE _ (zU addr (by omega)) (iE (decide ((iO addr).2=0)&&Glob.anyL t (iO addr).1) ?_ (aa rfl)))
   refine aA (λ h=>?_) (λ h=>aa (by rw [decide_eq_false h]; rfl))
   rw [decide_eq_true h]
   exact iE _ (Af t _ hb hl (by omega)) (aa rfl)
  ·exact au rfl (aa rfl)
end Go.Ab.R06
end
section
namespace Go.Ab.R06
open Go.Proofs Go.Ab Go.Ab.RB
attribute [local irreducible] awp d8 aP aw bH AV.sub M dD
def ei (l_0:List Bool)(s_1:Bytes)(b_2:Int)(any_3:Bool)(all_4:Bool):Nat→Int→(List Bool)→Option (List Bool)
 | 0,_,_=>none
 | m+1,i31,l32 =>
 if i31 < (l_0.length:Int) then
  (
    if any_3=true then
     ck ((0:Int)≤i31∧i31 < (l_0.length:Int)) <|
     if (lat l_0 i31)=true then
      ck ((0:Int)≤i31∧i31 < (l32.length:Int)) <|
      some (l32.set i31.toNat true)
     else
      if 0 < i31 then
       ck (inR (i31 - 1)) <|
       ck ((0:Int)≤i31 - 1∧i31 - 1 < (l32.length:Int)) <|
       if (lat l32 (i31 - 1))=true then
        if all_4=true then
         ck ((0:Int)≤i31∧i31 < (l32.length:Int)) <|
         some (l32.set i31.toNat true)
        else
         ck (inR (i31 - 1)) <|
         ck ((0:Int)≤i31 - 1∧i31 - 1 < (s_1.length:Int)) <|
         ck ((0:Int)≤i31∧i31 < (l32.length:Int)) <|
         some (l32.set i31.toNat (!decide (byt s_1 (i31 - 1)=46)))
       else
        ck ((0:Int)≤i31∧i31 < (l32.length:Int)) <|
        some (l32.set i31.toNat false)
      else
       ck ((0:Int)≤i31∧i31 < (l32.length:Int)) <|
       some (l32.set i31.toNat false)
    else
     if 0 < i31 then
      ck (inR (i31 - 1)) <|
      ck ((0:Int)≤i31 - 1∧i31 - 1 < (l_0.length:Int)) <|
      if (lat l_0 (i31 - 1))=true then
       ck (inR (i31 - 1)) <|
       ck ((0:Int)≤i31 - 1∧i31 - 1 < (s_1.length:Int)) <|
       ck ((0:Int)≤i31∧i31 < (l32.length:Int)) <|
       some (l32.set i31.toNat (decide (byt s_1 (i31 - 1)=b_2)))
      else
       ck ((0:Int)≤i31∧i31 < (l32.length:Int)) <|
       some (l32.set i31.toNat false)
     else
      ck ((0:Int)≤i31∧i31 < (l32.length:Int)) <|
      some (l32.set i31.toNat false)
   : Option (List Bool)).bind λ l58 =>
  ck (inR (i31+1)) <|
  ei l_0 s_1 b_2 any_3 all_4 m (i31+1) l58
 else
  some l32
def jQ (n:Nat)(l_0:List Bool)(s_1:Bytes)(b_2:Int)(any_3:Bool)(all_4:Bool):Option (List Bool) :=
 ck ((0:Int)≤(l_0.length:Int)∧(l_0.length:Int)≤9223372036854775807∧(1:Int)*(l_0.length:Int)≤281474976710656) <|
 (ei l_0 s_1 b_2 any_3 all_4 n 0 (List.replicate (l_0.length:Int).toNat (false:Bool))).bind λ l62 =>
 some l62
theorem um (n:Nat)(l_0:List Bool)(s_1:Bytes)(b_2:Int)(any_3:Bool)(all_4:Bool)(r:(List Bool))(h0:jQ n l_0 s_1 b_2 any_3 all_4=some r):aw Tryz.prog 86 [eL eB l_0,eS s_1,eK .u8 b_2,eB any_3,eB all_4] (·=.p (eL eB r)):=by
 unfold jQ at h0
 refine a6 good Tryz.func86 rfl rfl rfl λ w0=>mP (λ v:(List Bool)=>.p (eL eB v)) ?_
 refine nx 7 rfl (oLl (f:=eB) rfl rfl (cc' h0 λ hk1 h0=>mO rfl (yE eB (false:Bool) rfl rfl rfl rfl rfl rfl rfl rfl rfl rfl rfl hk1 (nx 8 rfl (bd h0 λ o65 h1 h0=>?_)))))
 refine kE 0 o65 (λ v66=>⟨[(11,.arr 15 1 0 v66.length)],[(15,(v66.map eB).map .p)]⟩) ?_ ?_
 ·exact nx 6 rfl (mG (pg [10,11,71] (f:=eB) (l:=o65) rfl rfl rfl ⟨⟨_,rfl,rfl⟩,⟨_,rfl,rfl⟩,⟨_,rfl,rfl⟩,trivial⟩ (λ _=>⟨rfl,rfl⟩)) (nx 1 rfl (mQ (oi h0) rfl (sr))))
 refine lG (λ (q67:Int×(List Bool))=>⟨[(0,.p (eL eB l_0)),(1,.p (eS s_1)),(2,.p (eK .u8 b_2)),(3,.p (eB any_3)),(4,.p (eB all_4)),(11,.arr 15 1 0 q67.2.length),(12,.p (eI q67.1))],[(15,(q67.2.map eB).map .p)]⟩) (λ m (q67:Int×(List Bool))=>ei l_0 s_1 b_2 any_3 all_4 m q67.1 q67.2) (λ _=>rfl) (0,List.replicate (l_0.length:Int).toNat (false:Bool)) h1 (aW (bo ⟨er rfl,er rfl,er rfl,er rfl,er rfl,⟨_,rfl,AV.sub_of_eq (by first | rfl | (simp; done) | (simp [AV.dem]; rfl))⟩,er rfl,trivial⟩ ⟨⟨_,rfl,ag _⟩,trivial⟩)) ?_
 rintro m ⟨i31,l32⟩ h1
 replace h1:ei l_0 s_1 b_2 any_3 all_4 (m+1) i31 l32=some o65:=h1
 rw [ei] at h1
 refine nx 5 rfl (oLl (f:=eB) rfl rfl (nx 2 rfl (fD [19] h1 rfl (λ c33 h1=>?_) λ c33 h1=>?_)))
 ·refine nx 3 rfl (bd h1 λ o68 h2 h1=>?_)
  refine kN o68 (λ v69=>⟨[(0,.p (eL eB l_0)),(1,.p (eS s_1)),(2,.p (eK .u8 b_2)),(3,.p (eB any_3)),(4,.p (eB all_4)),(11,.arr 15 1 0 v69.length),(12,.p (eI i31))],[(15,(v69.map eB).map .p)]⟩) ?_ ?_
  ·exact nx 3 rfl (oA h1 rfl rfl λ hk59 h1=>nx 2 rfl (eX (i31+1,o68) h1 (aW (bo ⟨er rfl,er rfl,er rfl,er rfl,er rfl,⟨_,rfl,AV.sub_of_eq (by first | rfl | (simp; done) | (simp [AV.dem]; rfl))⟩,er rfl,trivial⟩ ⟨⟨_,rfl,ag _⟩,trivial⟩))))
  refine nx 5 rfl (fB [3,22] h2 rfl (λ c34 h2=>?_) λ c34 h2=>?_)
  ·refine nx 6 rfl (oE h2 (λ _=>rfl) rfl rfl (λ _=>rfl) λ hk35 h2=>nx 2 rfl (fB [28,29] h2 rfl (λ c36 h2=>?_) λ c36 h2=>?_))
   ·exact nx 20 rfl (cc' h2 λ hk37 h2=>mO rfl (aG rfl rfl rfl rfl rfl rfl rfl rfl rfl hk37 (mO rfl (bU (f:=eB) (l:=l32) (b:=true) rfl rfl rfl rfl rfl rfl rfl rfl (by have:=hk37; omega) (nx 1 rfl (eX _ (oi h2).symm (aW (bo ⟨er rfl,er rfl,er rfl,⟨_,rfl,cu c34.symm⟩,er rfl,⟨_,rfl,AV.sub_of_eq (by first | rfl | (simp; done) | (simp [AV.dem]; rfl))⟩,er rfl,trivial⟩ ⟨⟨_,rfl,ag _⟩,trivial⟩))))))))
   refine nx 3 rfl (fD [31,32] h2 rfl (λ c38 h2=>?_) λ c38 h2=>?_)
   ·refine nx 2 rfl (oA h2 rfl rfl λ hk39 h2=>cc' h2 λ hk40 h2=>mO rfl (aG rfl rfl rfl rfl rfl rfl rfl rfl rfl hk40 (mO rfl (bh (default:Bool) (f:=eB) (l:=l32) rfl rfl rfl rfl rfl rfl rfl (by have:=hk40; omega) (nx 2 rfl (fB [37,38,39] h2 rfl (λ c41 h2=>?_) λ c41 h2=>?_))))))
    ·refine nx 2 rfl (fB [4,40,41] h2 rfl (λ c42 h2=>?_) λ c42 h2=>?_)
     ·exact nx 8 rfl (cc' h2 λ hk43 h2=>mO rfl (aG rfl rfl rfl rfl rfl rfl rfl rfl rfl hk43 (mO rfl (bU (f:=eB) (l:=l32) (b:=true) rfl rfl rfl rfl rfl rfl rfl rfl (by have:=hk43; omega) (nx 1 rfl (eX _ (oi h2).symm (aW (bo ⟨er rfl,er rfl,er rfl,⟨_,rfl,cu c34.symm⟩,⟨_,rfl,cu c42.symm⟩,⟨_,rfl,AV.sub_of_eq (by first | rfl | (simp; done) | (simp [AV.dem]; rfl))⟩,er rfl,trivial⟩ ⟨⟨_,rfl,ag _⟩,trivial⟩))))))))
     exact nx 2 rfl (oA h2 rfl rfl λ hk44 h2=>oI h2 rfl λ hk45 h2=>nx 4 rfl (cc' h2 λ hk46 h2=>mO rfl (aG rfl rfl rfl rfl rfl rfl rfl rfl rfl hk46 (mO rfl (bU (f:=eB) (l:=l32) (b:=!decide (byt s_1 (i31 - 1)=46)) rfl rfl rfl rfl rfl rfl rfl rfl (by have:=hk46; omega) (nx 1 rfl (eX _ (oi h2).symm (aW (bo ⟨er rfl,er rfl,er rfl,⟨_,rfl,cu c34.symm⟩,⟨_,rfl,cu c42.symm⟩,⟨_,rfl,AV.sub_of_eq (by first | rfl | (simp; done) | (simp [AV.dem]; rfl))⟩,er rfl,trivial⟩ ⟨⟨_,rfl,ag _⟩,trivial⟩)))))))))
    exact nx 10 rfl (cc' h2 λ hk47 h2=>mO rfl (aG rfl rfl rfl rfl rfl rfl rfl rfl rfl hk47 (mO rfl (bU (f:=eB) (l:=l32) (b:=false) rfl rfl rfl rfl rfl rfl rfl rfl (by have:=hk47; omega) (nx 1 rfl (eX _ (oi h2).symm (aW (bo ⟨er rfl,er rfl,er rfl,⟨_,rfl,cu c34.symm⟩,er rfl,⟨_,rfl,AV.sub_of_eq (by first | rfl | (simp; done) | (simp [AV.dem]; rfl))⟩,er rfl,trivial⟩ ⟨⟨_,rfl,ag _⟩,trivial⟩))))))))
   exact nx 17 rfl (cc' h2 λ hk48 h2=>mO rfl (aG rfl rfl rfl rfl rfl rfl rfl rfl rfl hk48 (mO rfl (bU (f:=eB) (l:=l32) (b:=false) rfl rfl rfl rfl rfl rfl rfl rfl (by have:=hk48; omega) (nx 1 rfl (eX _ (oi h2).symm (aW (bo ⟨er rfl,er rfl,er rfl,⟨_,rfl,cu c34.symm⟩,er rfl,⟨_,rfl,AV.sub_of_eq (by first | rfl | (simp; done) | (simp [AV.dem]; rfl))⟩,er rfl,trivial⟩ ⟨⟨_,rfl,ag _⟩,trivial⟩))))))))
  refine nx 7 rfl (fD [54,55] h2 rfl (λ c49 h2=>?_) λ c49 h2=>?_)
  ·refine nx 2 rfl (oA h2 rfl rfl λ hk50 h2=>oE h2 (λ _=>rfl) rfl rfl (λ _=>rfl) λ hk51 h2=>nx 3 rfl (fB [60,61,62] h2 rfl (λ c52 h2=>?_) λ c52 h2=>?_))
   ·exact nx 2 rfl (oA h2 rfl rfl λ hk53 h2=>oI h2 rfl λ hk54 h2=>nx 3 rfl (cc' h2 λ hk55 h2=>mO rfl (aG rfl rfl rfl rfl rfl rfl rfl rfl rfl hk55 (mO rfl (bU (f:=eB) (l:=l32) (b:=decide (byt s_1 (i31 - 1)=b_2)) rfl rfl rfl rfl rfl rfl rfl rfl (by have:=hk55; omega) (nx 1 rfl (eX _ (oi h2).symm (aW (bo ⟨er rfl,er rfl,er rfl,⟨_,rfl,cu c34.symm⟩,er rfl,⟨_,rfl,AV.sub_of_eq (by first | rfl | (simp; done) | (simp [AV.dem]; rfl))⟩,er rfl,trivial⟩ ⟨⟨_,rfl,ag _⟩,trivial⟩)))))))))
   exact nx 7 rfl (cc' h2 λ hk56 h2=>mO rfl (aG rfl rfl rfl rfl rfl rfl rfl rfl rfl hk56 (mO rfl (bU (f:=eB) (l:=l32) (b:=false) rfl rfl rfl rfl rfl rfl rfl rfl (by have:=hk56; omega) (nx 1 rfl (eX _ (oi h2).symm (aW (bo ⟨er rfl,er rfl,er rfl,⟨_,rfl,cu c34.symm⟩,er rfl,⟨_,rfl,AV.sub_of_eq (by first | rfl | (simp; done) | (simp [AV.dem]; rfl))⟩,er rfl,trivial⟩ ⟨⟨_,rfl,ag _⟩,trivial⟩))))))))
  exact nx 14 rfl (cc' h2 λ hk57 h2=>mO rfl (aG rfl rfl rfl rfl rfl rfl rfl rfl rfl hk57 (mO rfl (bU (f:=eB) (l:=l32) (b:=false) rfl rfl rfl rfl rfl rfl rfl rfl (by have:=hk57; omega) (nx 1 rfl (eX _ (oi h2).symm (aW (bo ⟨er rfl,er rfl,er rfl,⟨_,rfl,cu c34.symm⟩,er rfl,⟨_,rfl,AV.sub_of_eq (by first | rfl | (simp; done) | (simp [AV.dem]; rfl))⟩,er rfl,trivial⟩ ⟨⟨_,rfl,ag _⟩,trivial⟩))))))))
 exact nx 2 rfl (eXi _ (oi h1).symm (aW (bo ⟨⟨_,rfl,AV.sub_of_eq (by first | rfl | (simp; done) | (simp [AV.dem]; rfl))⟩,trivial⟩ ⟨⟨_,rfl,ag _⟩,trivial⟩)))
def dW (n:Nat)(pattern_0:Bytes)(s_1:Bytes):Nat→(List Bool)→Int→Option (List Bool)
 | 0,_,_=>none
 | m+1,l40,i41 =>
 if i41 < (pattern_0.length:Int) then
  (
    ck ((0:Int)≤i41∧i41 < (pattern_0.length:Int)) <|
    (
      if byt pattern_0 i41=42 then
       ck (inR (i41+1)) <|
       if i41+1 < (pattern_0.length:Int) then
        ck (inR (i41+1)) <|
        ck ((0:Int)≤i41+1∧i41+1 < (pattern_0.length:Int)) <|
        some (decide (byt pattern_0 (i41+1)=42))
       else
        some false
      else
       some false
     : Option Bool).bind λ all49 =>
    ck ((0:Int)≤i41∧i41 < (pattern_0.length:Int)) <|
    (jQ n l40 s_1 (byt pattern_0 i41) (decide (byt pattern_0 i41=42)) all49).bind λ r51 =>
    if all49=true then
     ck (inR (i41+1)) <|
     some (r51,i41+1)
    else
     some (r51,i41)
   : Option ((List Bool)×Int)).bind λ q63 =>
  ck (inR (q63.2+1)) <|
  dW n pattern_0 s_1 m q63.1 (q63.2+1)
 else
  some l40
def jd (n:Nat)(pattern_0:Bytes)(s_1:Bytes):Option Bool :=
 ck (pattern_0.length≤65536) <|
 if Glob.rcheck pattern_0=0 then
  ck (inR ((s_1.length:Int)+1)) <|
  ck ((0:Int)≤(s_1.length:Int)+1∧(s_1.length:Int)+1≤9223372036854775807∧(1:Int)*((s_1.length:Int)+1)≤281474976710656) <|
  ck ((0:Int)≤0∧0 < ((List.replicate ((s_1.length:Int)+1).toNat (false:Bool)).length:Int)) <|
  (dW n pattern_0 s_1 n ((List.replicate ((s_1.length:Int)+1).toNat (false:Bool)).set ((0:Int).toNat) true) 0).bind λ l60 =>
  ck ((0:Int)≤(s_1.length:Int)∧(s_1.length:Int) < (l60.length:Int)) <|
  some (lat l60 (s_1.length:Int))
 else
  some false
theorem sA (n:Nat)(pattern_0:Bytes)(s_1:Bytes)(r:Bool)(h0:jd n pattern_0 s_1=some r):aw Tryz.prog 56 [eS pattern_0,eS s_1] (·=.p (eB r)):=by
 unfold jd at h0
 refine a6 good Tryz.func56 rfl rfl rfl λ w0=>mP (λ v:Bool=>.p (eB v)) ?_
 refine nx 8 rfl (cc' h0 λ hk1 h0=>oK (Glob.rcheck_ok pattern_0 hk1) rfl ⟨sr,trivial⟩ Tryz.call29 rfl (nx 2 rfl ?_))
 refine fN [11] h0 rfl (λ c2 h0=>?_) λ c2 h0=>?_
 ·refine nx 5 rfl (oLs rfl (oA h0 rfl rfl λ hk3 h0=>cc' h0 λ hk4 h0=>mO rfl (yE eB (false:Bool) rfl rfl rfl rfl rfl rfl rfl rfl rfl rfl rfl hk4 (nx 5 rfl (cc' h0 λ hk5 h0=>mO rfl (aG rfl rfl rfl rfl rfl rfl rfl rfl rfl hk5 (mO rfl (bU (f:=eB) (l:=List.replicate ((s_1.length:Int)+1).toNat (false:Bool)) (b:=true) rfl rfl rfl rfl rfl rfl rfl rfl (by have:=hk5; omega) (nx 7 rfl (mG (pg [5,15,16] (f:=eB) (l:=(List.replicate ((s_1.length:Int)+1).toNat (false:Bool)).set ((0:Int).toNat) true) rfl rfl rfl ⟨⟨_,rfl,by simp⟩,⟨_,rfl,by simp⟩,⟨_,rfl,by simp⟩,trivial⟩ (λ _=>⟨rfl,rfl⟩)) (bd h0 λ o65 h1 h0=>kE 0 o65 (λ v66=>⟨[(1,.p (eS s_1)),(5,.p (eL eB v66))],[]⟩) ?_ ?_)))))))))))
  ·exact nx 5 rfl (oLs rfl (oE h0 (λ _=>rfl) rfl rfl (λ _=>rfl) λ hk61 h0=>nx 4 rfl (mQ (oi h0) rfl (sr))))
  refine lG (λ (q67:(List Bool)×Int)=>⟨[(0,.p (eS pattern_0)),(1,.p (eS s_1)),(5,.p (eL eB q67.1)),(6,.p (eI q67.2))],[]⟩) (λ m (q67:(List Bool)×Int)=>dW n pattern_0 s_1 m q67.1 q67.2) (λ _=>rfl) ((List.replicate ((s_1.length:Int)+1).toNat (false:Bool)).set ((0:Int).toNat) true,0) h1 (gE rfl rfl) ?_
  rintro m ⟨l40,i41⟩ h1
  replace h1:dW n pattern_0 s_1 (m+1) l40 i41=some o65:=h1
  rw [dW] at h1
  refine nx 5 rfl (oLs rfl (nx 2 rfl (fD [21] h1 rfl (λ c42 h1=>?_) λ c42 h1=>?_)))
  ·refine nx 3 rfl (bd h1 λ o68 h2 h1=>?_)
   refine kN o68 (λ v69=>⟨[(0,.p (eS pattern_0)),(1,.p (eS s_1)),(5,.p (eL eB v69.1)),(6,.p (eI v69.2))],[]⟩) ?_ ?_
   ·exact nx 3 rfl (oA h1 rfl rfl λ hk57 h1=>nx 2 rfl (eX (o68.1,o68.2+1) h1 (gE rfl rfl)))
   refine nx 5 rfl (oI h2 rfl λ hk43 h2=>nx 4 rfl (bd h2 λ o70 h3 h2=>?_))
   refine kN o70 (λ v71=>⟨[(0,.p (eS pattern_0)),(1,.p (eS s_1)),(5,.p (eL eB l40)),(6,.p (eI i41)),(7,.p (eB (decide (byt pattern_0 i41=42)))),(8,.p (eB v71))],[]⟩) ?_ ?_
   ·refine nx 7 rfl (oI h2 rfl λ hk50 h2=>nx 2 rfl (bd h2 λ r51 e52 h2=>oK (um _ l40 s_1 (byt pattern_0 i41) (decide (byt pattern_0 i41=42)) o70 _ e52) rfl ⟨sr,sr,sr,sr,sr,trivial⟩ Tryz.call86 rfl (nx 6 rfl ?_)))
    refine fB [8,49,51] h2 rfl (λ c53 h2=>?_) λ c53 h2=>?_
    ·exact nx 3 rfl (oA h2 rfl rfl λ hk54 h2=>nx 2 rfl (eX _ (oi h2).symm (gE rfl rfl)))
    exact nx 2 rfl (eX _ (oi h2).symm (gE rfl rfl))
   refine nx 3 rfl (fD [7,27,28,29] h3 rfl (λ c44 h3=>?_) λ c44 h3=>?_)
   ·refine nx 1 rfl (oA h3 rfl rfl λ hk45 h3=>nx 1 rfl (oLs rfl (nx 3 rfl (fD [34,35,36] h3 rfl (λ c46 h3=>?_) λ c46 h3=>?_))))
    ·exact nx 2 rfl (oA h3 rfl rfl λ hk47 h3=>oI h3 rfl λ hk48 h3=>nx 4 rfl (eX _ (oi h3).symm (aW (bo ⟨er rfl,er rfl,er rfl,er rfl,⟨_,rfl,cu (dt c44).symm⟩,er rfl,trivial⟩ trivial))))
    exact nx 8 rfl (eX _ (oi h3).symm (aW (bo ⟨er rfl,er rfl,er rfl,er rfl,⟨_,rfl,cu (dt c44).symm⟩,er rfl,trivial⟩ trivial)))
   exact nx 15 rfl (eX _ (oi h3).symm (aW (bo ⟨er rfl,er rfl,er rfl,er rfl,⟨_,rfl,cu (df c44).symm⟩,er rfl,trivial⟩ trivial)))
  exact nx 2 rfl (eXi _ (oi h1).symm (gE rfl rfl))
 exact nx 6 rfl (mQ (oi h0) rfl (sr))
def fE (n:Nat)(patterns_0:List Bytes)(s_1:Bytes):Nat→Int→Option (Unit⊕Bool)
 | 0,_=>none
 | m+1,i8 =>
 if i8 < (patterns_0.length:Int) then
  ck ((0:Int)≤i8∧i8 < (patterns_0.length:Int)) <|
  (jd n (lat patterns_0 i8) s_1).bind λ r11 =>
  if r11=true then
   some (.inr true)
  else
   ck (inR (i8+1)) <|
   fE n patterns_0 s_1 m (i8+1)
 else
  some (.inl ())
def kT (n:Nat)(patterns_0:List Bytes)(s_1:Bytes):Option Bool :=
 jn (fE n patterns_0 s_1 n 0) λ q16 =>
 some false
theorem qi (n:Nat)(patterns_0:List Bytes)(s_1:Bytes)(r:Bool)(h0:kT n patterns_0 s_1=some r):aw Tryz.prog 34 [eL eS patterns_0,eS s_1] (·=.p (eB r)):=by
 unfold kT at h0
 refine a6 good Tryz.func34 rfl rfl rfl λ w0=>mP (λ v:Bool=>.p (eB v)) ?_
 refine nx 10 rfl ?_
 obtain ⟨o17,h1,hL0,hR0⟩:=fQ h0
 refine kEx 0 (λ v18:Unit=>o17=.inl v18) (λ v18=>⟨[],[]⟩) (λ v18 hv=>?_) ?_
 ·have h0:=hL0 _ hv
  exact nx 6 rfl (mQ (oi h0) rfl (sr))
 refine lG (λ (q19:Int)=>⟨[(0,.p (eL eS patterns_0)),(1,.p (eS s_1)),(5,.p (eI q19))],[]⟩) (λ m (q19:Int)=>fE n patterns_0 s_1 m q19) (λ _=>rfl) 0 h1 (gE rfl rfl) ?_
 rintro m i8 h1
 replace h1:fE n patterns_0 s_1 (m+1) i8=some o17:=h1
 rw [fE] at h1
 refine nx 5 rfl (oLl (f:=eS) rfl rfl (nx 2 rfl (fD [9] h1 rfl (λ c9 h1=>?_) λ c9 h1=>?_)))
 ·refine nx 8 rfl (oE h1 (λ _=>rfl) rfl rfl (λ _=>rfl) λ hk10 h1=>nx 2 rfl (bd h1 λ r11 e12 h1=>oK (sA _ (lat patterns_0 i8) s_1 _ e12) rfl ⟨sr,sr,trivial⟩ Tryz.call56 rfl (nx 1 rfl ?_)))
  refine fB [17] h1 rfl (λ c13 h1=>?_) λ c13 h1=>?_
  ·exact nx 6 rfl (mQ (hR0 _ (oi h1).symm) rfl (sr))
  exact nx 4 rfl (oA h1 rfl rfl λ hk14 h1=>nx 2 rfl (eX (i8+1) h1 (gE rfl rfl)))
 exact nx 2 rfl (eXi _ (oi h1).symm (gE rfl rfl))
end Go.Ab.R06
end
section
namespace Go.Ab.Glob
def nd (l:List UInt8):Prop:=∀ x∈l,x≠46
def Spl:List UInt8→List UInt8→Prop
 | [],s=>s=[]
 | [c],s=>if c=42 then nd s else s=[c]
 | c::d::p,s=>if c=42 then (if d=42 then ∃ k,k≤s.length∧Spl p (s.drop k) else ∃ k,k≤s.length∧nd (s.take k)∧Spl (d::p) (s.drop k)) else ∃ s',s=c::s'∧Spl (d::p) s'
theorem spl_nil (s:List UInt8):Spl [] s↔s=[]:=by simp [Spl]
theorem spl_lit {c:UInt8}(hc:c≠42)(p s:List UInt8):Spl (c::p) s↔∃ s',s=c::s'∧Spl p s':=by
 cases p with
 | nil=>simp [Spl,hc]
 | cons d p=>simp [Spl,hc]
theorem spl_two (p s:List UInt8):Spl (42::42::p) s↔∃ k,k≤s.length∧Spl p (s.drop k):=by simp [Spl]
theorem spl_one (p s:List UInt8)(hp:p.head?≠some 42):Spl (42::p) s↔∃ k,k≤s.length∧nd (s.take k)∧Spl p (s.drop k):=by
 cases p with
 | nil =>
  simp only [Spl,if_true]
  constructor
  ·intro h; exact ⟨s.length,Nat.le_refl _,by simpa using h,by simp⟩
  ·rintro ⟨k,hk,h,hd⟩
   have:s.take k=s:=by
    have:=List.take_append_drop k s
    rw [hd,List.append_nil] at this
    exact this
   rwa [this] at h
 | cons d p =>
  have hd:d≠42:=λ e=>hp (by simp [e])
  simp [Spl,hd]
theorem nd_iff (s:List UInt8)(j k:Nat)(hk:k≤s.length):nd ((s.take k).drop j)↔∀ i,j≤i→i < k→s.getD i 0≠46:=by
 constructor
 ·intro h i h1 h2
  refine h _ ?_
  rw [List.mem_iff_getElem?]
  refine ⟨i - j,?_⟩
  rw [List.getElem?_drop,show j+(i - j)=i by omega,List.getElem?_take_of_lt h2,List.getD_eq_getElem?_getD,List.getElem?_eq_getElem (by omega)]
  rfl
 ·intro h x hx
  obtain ⟨i,hi⟩:=List.mem_iff_getElem?.1 hx
  rw [List.getElem?_drop] at hi
  have h2:j+i < k:=by
   by_cases e:j+i < k
   ·exact e
   ·rw [List.getElem?_eq_none (by simp; omega)] at hi; cases hi
  rw [List.getElem?_take_of_lt h2] at hi
  have:=h (j+i) (by omega) h2
  rw [List.getD_eq_getElem?_getD,hi] at this
  exact this
theorem getD_set (r:List Bool)(n k:Nat)(hn:n < r.length):(r.set n true).getD k false=if k=n then true else r.getD k false:=by
 rw [List.getD_eq_getElem?_getD,List.getD_eq_getElem?_getD,List.getElem?_set]
 by_cases e:n=k
 ·subst e; simp [hn]
 ·rw [if_neg e,if_neg (λ h=>e h.symm)]
theorem byte_eq (a b:UInt8):((a.toNat:Int)=(b.toNat:Int))↔a=b:=by
 rw [← UInt8.toNat_inj]; omega
theorem spr_iff (s:List UInt8)(fW:Bool)(r:List Bool)(hr:r.length=s.length+1):∀ n,n≤s.length→∀ k,
  ((spr s fW r n).getD k false=true↔if k≤n then ∃ j,j≤k∧r.getD j false=true∧(fW=true∨∀ i,j≤i→i < k→s.getD i 0≠46) else r.getD k false=true):=by
 intro n
 induction n with
 | zero =>
  intro _ k
  simp only [spr]
  by_cases hk:k=0
  ·subst hk
   rw [if_pos (Nat.le_refl _)]
   constructor
   ·intro h; exact ⟨0,Nat.le_refl _,h,.inr λ i _ h2=>by omega⟩
   ·rintro ⟨j,hj,h,_⟩
    obtain rfl:j=0:=by omega
    exact h
  ·rw [if_neg (by omega)]
 | succ n ih =>
  intro hn k
  have ih:=ih (by omega)
  have hl:(spr s fW r n).length=s.length+1:=(spr_len _ _ _ _).trans hr
  have hin:=ih n
  rw [if_pos (Nat.le_refl _)] at hin
  have h46:(((s.getD n 0).toNat:Int)=46)↔s.getD n 0=46:=byte_eq (s.getD n 0) 46
  have key:((spr s fW r n).getD n false=true∧(fW=true∨¬ ((s.getD n 0).toNat:Int)=46))↔∃ j,j≤n∧r.getD j false=true∧(fW=true∨∀ i,j≤i→i < n+1→s.getD i 0≠46):=by
   rw [hin,h46]
   constructor
   ·rintro ⟨⟨j,h1,h2,h3⟩,h4⟩
    refine ⟨j,h1,h2,?_⟩
    rcases h4 with h4 | h4
    ·exact .inl h4
    ·rcases h3 with h3 | h3
     ·exact .inl h3
     ·refine .inr λ i h5 h6=>?_
      by_cases e:i=n
      ·subst e; exact h4
      ·exact h3 i h5 (by omega)
   ·rintro ⟨j,h1,h2,h3⟩
    rcases h3 with h3 | h3
    ·exact ⟨⟨j,h1,h2,.inl h3⟩,.inl h3⟩
    ·exact ⟨⟨j,h1,h2,.inr λ i h5 h6=>h3 i h5 (by omega)⟩,.inr (h3 n h1 (by omega))⟩
  simp only [spr]
  by_cases hc:(spr s fW r n).getD n false=true∧(fW=true∨¬ ((s.getD n 0).toNat:Int)=46)
  ·rw [if_pos hc,getD_set _ _ _ (by omega)]
   obtain ⟨j,h1,h2,h3⟩:=key.1 hc
   by_cases hk:k=n+1
   ·subst hk
    rw [if_pos rfl,if_pos (Nat.le_refl _)]
    exact ⟨λ _=>⟨j,by omega,h2,h3⟩,λ _=>rfl⟩
   ·rw [if_neg hk,ih k]
    by_cases hk2:k≤n
    ·rw [if_pos hk2,if_pos (by omega)]
    ·rw [if_neg hk2,if_neg (by omega)]
  ·rw [if_neg hc,ih k]
   by_cases hk:k=n+1
   ·subst hk
    rw [if_neg (by omega),if_pos (Nat.le_refl _)]
    constructor
    ·intro h; exact ⟨n+1,Nat.le_refl _,h,.inr λ i h5 h6=>by omega⟩
    ·rintro ⟨j,h1,h2,h3⟩
     by_cases e:j=n+1
     ·subst e; exact h2
     ·exact absurd (key.2 ⟨j,by omega,h2,h3⟩) hc
   ·by_cases hk2:k≤n
    ·rw [if_pos hk2,if_pos (by omega)]
    ·rw [if_neg hk2,if_neg (by omega)]
theorem nxt_iff (s:List UInt8)(c:UInt8)(r:List Bool)(hr:r.length=s.length+1):∀ n,n≤s.length→∀ k,
  ((nxt s c r n).getD k false=true↔∃ j,j < n∧k=j+1∧r.getD j false=true∧s.getD j 0=c):=by
 intro n
 induction n with
 | zero =>
  intro _ k
  simp only [nxt]
  constructor
  ·intro h
   rw [List.getD_eq_getElem?_getD,List.getElem?_replicate] at h
   split at h <;> simp at h
  ·rintro ⟨j,h,_⟩; omega
 | succ n ih =>
  intro hn k
  have ih:=ih (by omega)
  have hl:(nxt s c r n).length=s.length+1:=(nxt_len _ _ _ _).trans hr
  have hb:=byte_eq (s.getD n 0) c
  simp only [nxt]
  by_cases hc:r.getD n false=true∧((s.getD n 0).toNat:Int)=(c.toNat:Int)
  ·rw [if_pos hc,getD_set _ _ _ (by omega)]
   by_cases hk:k=n+1
   ·subst hk
    rw [if_pos rfl]
    exact ⟨λ _=>⟨n,by omega,rfl,hc.1,hb.1 hc.2⟩,λ _=>rfl⟩
   ·rw [if_neg hk,ih k]
    constructor
    ·rintro ⟨j,h1,h2⟩; exact ⟨j,by omega,h2⟩
    ·rintro ⟨j,h1,h2,h3⟩; exact ⟨j,by omega,h2,h3⟩
  ·rw [if_neg hc,ih k]
   constructor
   ·rintro ⟨j,h1,h2⟩; exact ⟨j,by omega,h2⟩
   ·rintro ⟨j,h1,h2,h3,h4⟩
    by_cases e:j=n
    ·subst e; exact absurd ⟨h3,hb.2 h4⟩ hc
    ·exact ⟨j,by omega,h2,h3,h4⟩
theorem som_iff (s:List UInt8)(c:UInt8)(r:List Bool):∀ n,(som s c r n=true↔∃ j,j < n∧r.getD j false=true∧s.getD j 0=c):=by
 intro n
 induction n with
 | zero=>simp [som]
 | succ n ih =>
  have hb:=byte_eq (s.getD n 0) c
  simp only [som]
  by_cases hc:r.getD n false=true∧((s.getD n 0).toNat:Int)=(c.toNat:Int)
  ·rw [if_pos hc]
   exact ⟨λ _=>⟨n,by omega,hc.1,hb.1 hc.2⟩,λ _=>rfl⟩
  ·rw [if_neg hc,ih]
   constructor
   ·rintro ⟨j,h1,h2⟩; exact ⟨j,by omega,h2⟩
   ·rintro ⟨j,h1,h3,h4⟩
    by_cases e:j=n
    ·subst e; exact absurd ⟨h3,hb.2 h4⟩ hc
    ·exact ⟨j,by omega,h3,h4⟩
def Acc (p s:List UInt8)(r:List Bool):Prop:=∃ k,k≤s.length∧r.getD k false=true∧Spl p (s.drop k)
theorem acc_nil (s:List UInt8)(r:List Bool):Acc [] s r↔r.getD s.length false=true:=by
 constructor
 ·rintro ⟨k,h1,h2,h3⟩
  have:=congrArg List.length ((spl_nil _).1 h3)
  simp only [List.length_drop,List.length_nil] at this
  obtain rfl:k=s.length:=by omega
  exact h2
 ·intro h; exact ⟨s.length,Nat.le_refl _,h,by simp [spl_nil]⟩
theorem drop_cons (s:List UInt8)(k:Nat)(h:k < s.length):s.drop k=s.getD k 0::s.drop (k+1):=by
 rw [List.drop_eq_getElem_cons h,List.getD_eq_getElem?_getD,List.getElem?_eq_getElem h]; rfl
theorem acc_lit {c:UInt8}(hc:c≠42)(p s:List UInt8)(r:List Bool)(hr:r.length=s.length+1):Acc (c::p) s r↔Acc p s (nxt s c r s.length):=by
 constructor
 ·rintro ⟨k,h1,h2,h3⟩
  obtain ⟨s',h4,h5⟩:=(spl_lit hc _ _).1 h3
  have hk:k < s.length:=by
   have:=congrArg List.length h4
   simp only [List.length_drop,List.length_cons] at this
   omega
  rw [drop_cons s k hk] at h4
  injection h4 with e1 e2
  exact ⟨k+1,by omega,(nxt_iff s c r hr _ (Nat.le_refl _) _).2 ⟨k,hk,rfl,h2,e1⟩,by rw [e2]; exact h5⟩
 ·rintro ⟨k,h1,h2,h3⟩
  obtain ⟨j,h4,rfl,h5,h6⟩:=(nxt_iff s c r hr _ (Nat.le_refl _) _).1 h2
  exact ⟨j,by omega,h5,(spl_lit hc _ _).2 ⟨s.drop (j+1),by rw [drop_cons s j h4,h6],h3⟩⟩
theorem acc_one (p s:List UInt8)(r:List Bool)(hr:r.length=s.length+1)(hp:p.head?≠some 42):Acc (42::p) s r↔Acc p s (spr s false r s.length):=by
 constructor
 ·rintro ⟨k,h1,h2,h3⟩
  obtain ⟨n,h4,h5,h6⟩:=(spl_one _ _ hp).1 h3
  simp only [List.length_drop] at h4
  refine ⟨k+n,by omega,(spr_iff s false r hr _ (Nat.le_refl _) _).2 ?_,by rwa [List.drop_drop] at h6⟩
  rw [if_pos (by omega)]
  refine ⟨k,by omega,h2,.inr ((nd_iff s k (k+n) (by omega)).1 ?_)⟩
  rw [List.drop_take]
  rwa [show k+n - k=n by omega]
 ·rintro ⟨k,h1,h2,h3⟩
  have h2:=(spr_iff s false r hr _ (Nat.le_refl _) _).1 h2
  rw [if_pos h1] at h2
  obtain ⟨j,h4,h5,h6⟩:=h2
  have h6:=h6.resolve_left (by simp)
  refine ⟨j,by omega,h5,(spl_one _ _ hp).2 ⟨k - j,by simp only [List.length_drop]; omega,?_,?_⟩⟩
  ·rw [← List.drop_take]; exact (nd_iff s j k h1).2 h6
  ·rw [List.drop_drop,show j+(k - j)=k by omega]; exact h3
theorem acc_two (p s:List UInt8)(r:List Bool)(hr:r.length=s.length+1):Acc (42::42::p) s r↔Acc p s (spr s true r s.length):=by
 constructor
 ·rintro ⟨k,h1,h2,h3⟩
  obtain ⟨n,h4,h6⟩:=(spl_two _ _).1 h3
  simp only [List.length_drop] at h4
  refine ⟨k+n,by omega,(spr_iff s true r hr _ (Nat.le_refl _) _).2 ?_,by rwa [List.drop_drop] at h6⟩
  rw [if_pos (by omega)]
  exact ⟨k,by omega,h2,.inl rfl⟩
 ·rintro ⟨k,h1,h2,h3⟩
  have h2:=(spr_iff s true r hr _ (Nat.le_refl _) _).1 h2
  rw [if_pos h1] at h2
  obtain ⟨j,h4,h5,h6⟩:=h2
  refine ⟨j,by omega,h5,(spl_two _ _).2 ⟨k - j,by simp only [List.length_drop]; omega,?_⟩⟩
  rw [List.drop_drop,show j+(k - j)=k by omega]; exact h3
theorem hasP_two (p:List UInt8):hasP p [42,42]=true↔∃ p',p=42::42::p':=by
 rcases p with _ | ⟨a,_ | ⟨b,p⟩⟩ <;> simp [hasP]
theorem mg_acc (p s:List UInt8):∀ (f i:Nat) (r:List Bool),i≤p.length→p.length≤i+f→r.length=s.length+1 →
  (((mg p s f i r).1=p.length∧(mg p s f i r).2.getD s.length false=true)↔Acc (p.drop i) s r):=by
 intro f
 induction f with
 | zero =>
  intro i r h1 h2 hr
  obtain rfl:i=p.length:=by omega
  rw [List.drop_length,acc_nil]
  simp [mg]
 | succ f ih =>
  intro i r h1 h2 hr
  by_cases hi:i < p.length
  ·have hst:star p i↔p.getD i 0=42:=byte_eq (p.getD i 0) 42
   have hdr:=drop_cons p i hi
   simp only [mg]
   rw [if_pos hi]
   by_cases ht:hasP (p.drop i) [42,42]=true
   ·rw [if_pos ht]
    obtain ⟨p',hp'⟩:=(hasP_two _).1 ht
    have hl:=congrArg List.length hp'
    simp only [List.length_drop,List.length_cons] at hl
    have hd2:p.drop (i+2)=p':=by
     rw [← List.drop_drop,hp']; rfl
    rw [ih (i+2) _ (by omega) (by omega) ((spr_len _ _ _ _).trans hr),hd2,hp',acc_two _ _ _ hr]
   ·rw [if_neg ht]
    by_cases hs:star p i
    ·rw [if_pos hs,ih (i+1) _ (by omega) (by omega) ((spr_len _ _ _ _).trans hr),hdr,hst.1 hs,acc_one _ _ _ hr]
     intro hh
     refine ht ((hasP_two _).2 ?_)
     rw [hdr,hst.1 hs]
     cases hq:p.drop (i+1) with
     | nil=>rw [hq] at hh; simp at hh
     | cons a q=>rw [hq] at hh; simp at hh; exact ⟨q,by rw [hh]⟩
    ·rw [if_neg hs,hdr,acc_lit (λ e=>hs (hst.2 e)) _ _ _ hr]
     by_cases hm:som s (p.getD i 0) r s.length=true
     ·rw [if_pos hm,ih (i+1) _ (by omega) (by omega) ((nxt_len _ _ _ _).trans hr)]
     ·rw [if_neg hm]
      constructor
      ·rintro ⟨h3,_⟩; simp only at h3; omega
      ·rintro ⟨k,h3,h4,_⟩
       obtain ⟨j,h5,_,h6,h7⟩:=(nxt_iff s _ r hr _ (Nat.le_refl _) _).1 h4
       exact absurd ((som_iff s _ r _).2 ⟨j,h5,h6,h7⟩) hm
  ·obtain rfl:i=p.length:=by omega
   simp only [mg]
   rw [if_neg hi,List.drop_length,acc_nil]
   simp
theorem matchL_iff (p s:List UInt8):matchL p s=true↔check p=0∧Spl p s:=by
 unfold matchL
 have hr:(ini s).length=s.length+1:=by simp [ini]
 have h:=mg_acc p s p.length 0 (ini s) (Nat.zero_le _) (by omega) hr
 have hacc:Acc (p.drop 0) s (ini s)↔Spl p s:=by
  have hg:∀ k,(ini s).getD k false=true↔k=0:=by
   intro k
   unfold ini
   rw [getD_set _ _ _ (by simp)]
   by_cases e:k=0
   ·simp [e]
   ·rw [if_neg e,List.getD_eq_getElem?_getD,List.getElem?_replicate]
    split <;> simp [e]
  constructor
  ·rintro ⟨k,_,h2,h3⟩
   obtain rfl:=(hg k).1 h2
   simpa using h3
  ·intro h; exact ⟨0,Nat.zero_le _,(hg 0).2 rfl,by simpa using h⟩
 rw [hacc] at h
 rw [← h]
 by_cases hc:check p=0
 ·rw [if_pos hc]
  by_cases he:(mg p s p.length 0 (ini s)).1=p.length
  ·simp [hc,he]
  ·simp [he]
 ·rw [if_neg hc]
  simp [hc]
end Go.Ab.Glob
namespace Go.Ab.Glob
open Go.Ab Go.Ab.R06
theorem getD_set_b (r:List Bool)(n k:Nat)(b:Bool)(hn:n < r.length):(r.set n b).getD k false=if k=n then b else r.getD k false:=by
 rw [List.getD_eq_getElem?_getD,List.getD_eq_getElem?_getD,List.getElem?_set]
 by_cases e:n=k
 ·subst e; simp [hn]
 ·rw [if_neg e,if_neg (λ h=>e h.symm)]
def stp (l:List Bool)(s:Bytes)(b:Int)(any all:Bool):Nat→Bool
 | 0=>any&&l.getD 0 false
 | k+1=>if any=true then l.getD (k+1) false||(stp l s b any all k&&(all||!decide (((s.getD k 0).toNat:Int)=46))) else l.getD k false&&decide (((s.getD k 0).toNat:Int)=b)
theorem step_l1_eq (l:List Bool)(s:Bytes)(b:Int)(any all:Bool)(hl:l.length=s.length+1)(hs:s.length≤65536):∀ (m i:Nat) (o:List Bool),o.length=l.length→i≤l.length→l.length - i < m →
  (∀ k,k < i→o.getD k false=stp l s b any all k) →
  ∃ o',ei l s b any all m (i:Int) o=some o'∧o'.length=l.length∧∀ k,k < l.length→o'.getD k false=stp l s b any all k:=by
 intro m
 induction m with
 | zero=>intro i o _ _ h; omega
 | succ m ih =>
  intro i o ho hi hm hk
  rw [ei]
  by_cases hlt:i < l.length
  ·rw [if_pos (by omega)]
   have next:∀ v,v=stp l s b any all i→∃ o',(ck (inR ((i:Int)+1)) <| ei l s b any all m ((i:Int)+1) (o.set (i:Int).toNat v))=some o'∧o'.length=l.length∧∀ k,k < l.length→o'.getD k false=stp l s b any all k:=by
    intro v hv
    rw [aM (aV (by omega) (by omega)),Int.toNat_natCast]
    have:=ih (i+1) (o.set i v) (by simpa using ho) (by omega) (by omega) (λ k h=>by
     rw [getD_set_b _ _ _ _ (by omega)]
     by_cases e:k=i
     ·rw [if_pos e,hv,e]
     ·rw [if_neg e]; exact hk k (by omega))
    rwa [Int.natCast_add] at this
   have hla:∀ k:Nat,lat l (k:Int)=l.getD k false:=λ k=>rfl
   have hlo:∀ k:Nat,lat o (k:Int)=o.getD k false:=λ k=>rfl
   cases i with
   | zero =>
    have z:((0:Nat):Int)=0:=rfl
    cases any with
    | true =>
     rw [if_pos rfl,aM (by omega),hla]
     cases hb:l.getD 0 false
     ·rw [if_neg (by simp),if_neg (by omega),aM (by omega),eJ]
      exact next false (by simp only [stp,hb]; rfl)
     ·rw [if_pos rfl,aM (by omega),eJ]
      exact next true (by simp only [stp,hb]; rfl)
    | false =>
     rw [if_neg (by simp),if_neg (by omega),aM (by omega),eJ]
     exact next false rfl
   | succ j =>
    have e1:((j+1:Nat):Int) - 1=(j:Int):=by omega
    have hoj:=hk j (by omega)
    cases any with
    | true =>
     rw [if_pos rfl,aM (by omega),hla]
     cases hb:l.getD (j+1) false
     ·rw [if_neg (by simp),if_pos (by omega),e1,aM (aV (by omega) (by omega)),aM (by omega),hlo,hoj]
      cases hp:stp l s b true all j
      ·rw [if_neg (by simp),aM (by omega),eJ]
       exact next false (by simp only [stp,hb,hp]; rfl)
      ·rw [if_pos rfl]
       cases all with
       | true =>
        rw [if_pos rfl,aM (by omega),eJ]
        exact next true (by simp only [stp,hb,hp]; rfl)
       | false =>
        rw [if_neg (by simp),aM (aV (by omega) (by omega)),aM (by omega),aM (by omega),eJ,cO]
        exact next _ (by simp only [stp,hb,hp]; simp)
     ·rw [if_pos rfl,aM (by omega),eJ]
      exact next true (by simp only [stp,hb]; rfl)
    | false =>
     rw [if_neg (by simp),if_pos (by omega),e1,aM (aV (by omega) (by omega)),aM (by omega),hla]
     cases hb:l.getD j false
     ·rw [if_neg (by simp),aM (by omega),eJ]
      exact next false (by simp only [stp,hb]; rfl)
     ·rw [if_pos rfl,aM (aV (by omega) (by omega)),aM (by omega),aM (by omega),eJ,cO]
      exact next _ (by simp only [stp,hb]; simp)
  ·rw [if_neg (by omega)]
   exact ⟨o,rfl,ho,λ k h=>hk k (by omega)⟩
theorem step_eq (n:Nat)(l:List Bool)(s:Bytes)(b:Int)(any all:Bool)(hl:l.length=s.length+1)(hs:s.length≤65536)(hn:s.length+2≤n) :
  ∃ o,jQ n l s b any all=some o∧o.length=l.length∧∀ k,k < l.length→o.getD k false=stp l s b any all k:=by
 unfold jQ
 rw [aM (by omega)]
 obtain ⟨o,h1,h2,h3⟩:=step_l1_eq l s b any all hl hs n 0 (List.replicate (l.length:Int).toNat false) (by simp) (Nat.zero_le _) (by omega) (λ k h=>absurd h (Nat.not_lt_zero k))
 have h1:ei l s b any all n 0 (List.replicate (l.length:Int).toNat false)=some o:=h1
 rw [h1,eJ]
 exact ⟨o,rfl,h2,h3⟩
theorem stp_spr (l:List Bool)(s:Bytes)(b:Int)(all:Bool)(hl:l.length=s.length+1):∀ k,k≤s.length→(stp l s b true all k=true↔(spr s all l s.length).getD k false=true):=by
 intro k
 induction k with
 | zero =>
  intro _
  rw [spr_iff s all l hl _ (Nat.le_refl _),if_pos (Nat.zero_le _)]
  simp only [stp,Bool.true_and]
  constructor
  ·intro h; exact ⟨0,Nat.le_refl _,h,.inr λ i h1 h2=>by omega⟩
  ·rintro ⟨j,h1,h2,_⟩
   obtain rfl:j=0:=by omega
   exact h2
 | succ k ih =>
  intro hk
  have ih:=ih (by omega)
  rw [spr_iff s all l hl _ (Nat.le_refl _),if_pos (by omega)] at ih
  rw [spr_iff s all l hl _ (Nat.le_refl _),if_pos hk]
  have h46:(((s.getD k 0).toNat:Int)=46)↔s.getD k 0=46:=byte_eq (s.getD k 0) 46
  simp only [stp,if_true,Bool.or_eq_true,Bool.and_eq_true,Bool.not_eq_true',decide_eq_false_iff_not,h46]
  rw [ih]
  constructor
  ·rintro (h | ⟨⟨j,h1,h2,h3⟩,h4⟩)
   ·exact ⟨k+1,Nat.le_refl _,h,.inr λ i h1 h2=>by omega⟩
   ·refine ⟨j,by omega,h2,?_⟩
    rcases h4 with h4 | h4
    ·exact .inl h4
    ·rcases h3 with h3 | h3
     ·exact .inl h3
     ·refine .inr λ i h5 h6=>?_
      by_cases e:i=k
      ·subst e; exact h4
      ·exact h3 i h5 (by omega)
  ·rintro ⟨j,h1,h2,h3⟩
   by_cases e:j=k+1
   ·subst e; exact .inl h2
   ·refine .inr ⟨⟨j,by omega,h2,?_⟩,?_⟩
    ·rcases h3 with h3 | h3
     ·exact .inl h3
     ·exact .inr λ i h5 h6=>h3 i h5 (by omega)
    ·rcases h3 with h3 | h3
     ·exact .inl h3
     ·exact .inr (h3 k (by omega) (by omega))
theorem acc_congr {p s:Bytes}{r r':List Bool}(h:∀ k,k≤s.length→(r.getD k false=true↔r'.getD k false=true)):Acc p s r↔Acc p s r':=by
 constructor
 ·rintro ⟨k,h1,h2,h3⟩; exact ⟨k,h1,(h k h1).1 h2,h3⟩
 ·rintro ⟨k,h1,h2,h3⟩; exact ⟨k,h1,(h k h1).2 h2,h3⟩
theorem match_l1_eq (n:Nat)(p s:Bytes)(hp:p.length≤65536)(hs:s.length≤65536)(hn:s.length+2≤n):∀ (m i:Nat) (l:List Bool),i≤p.length→p.length - i < m→l.length=s.length+1 →
  ∃ o,dW n p s m l (i:Int)=some o∧o.length=s.length+1∧(o.getD s.length false=true↔Acc (p.drop i) s l):=by
 intro m
 induction m with
 | zero=>intro i l _ h; omega
 | succ m ih =>
  intro i l hi hm hl
  rw [dW]
  by_cases hlt:i < p.length
  ·rw [if_pos (by omega),aM (by omega),cO]
   have hdr:=drop_cons p i hlt
   have hst:(((p.getD i 0).toNat:Int)=42)↔p.getD i 0=42:=byte_eq (p.getD i 0) 42
   by_cases hc:p.getD i 0=42
   ·have hc':=hst.2 hc
    rw [if_pos hc',aM (aV (by omega) (by omega))]
    -- one or two
    have one:p.getD (i+1) 0≠42∨p.length≤i+1→(p.drop (i+1)).head?≠some 42:=by
     intro h e
     rw [List.head?_drop] at e
     rcases h with h | h
     ·rw [List.getD_eq_getElem?_getD,e] at h; exact h rfl
     ·rw [List.getElem?_eq_none (by omega)] at e; cases e
    have end1:(p.drop (i+1)).head?≠some 42→∃ o,(((ck ((0:Int)≤(i:Int)∧(i:Int) < (p.length:Int)) <|
       (jQ n l s ((p.getD i 0).toNat:Int) (decide (((p.getD i 0).toNat:Int)=42)) false).bind λ r51 =>
       if (false:Bool)=true then ck (inR ((i:Int)+1)) <| some (r51,(i:Int)+1) else some (r51,(i:Int)):Option ((List Bool)×Int)).bind λ q63 =>
       ck (inR (q63.2+1)) <| dW n p s m q63.1 (q63.2+1)))=some o∧o.length=s.length+1∧(o.getD s.length false=true↔Acc (p.drop i) s l):=by
     intro hh
     obtain ⟨o,h1,h2,h3⟩:=step_eq n l s ((p.getD i 0).toNat:Int) (decide (((p.getD i 0).toNat:Int)=42)) false hl hs hn
     rw [aM (by omega),h1,eJ,if_neg (by simp),eJ]
     dsimp only
     rw [aM (aV (by omega) (by omega))]
     obtain ⟨o',k1,k2,k3⟩:=ih (i+1) o (by omega) (by omega) (by omega)
     rw [Int.natCast_add] at k1
     refine ⟨o',k1,k2,k3.trans ?_⟩
     rw [hdr,hc,acc_one _ _ _ hl hh]
     refine acc_congr λ k hk=>?_
     rw [h3 k (by omega),decide_eq_true hc']
     exact stp_spr l s _ false hl k hk
    by_cases hlt2:i+1 < p.length
    ·have c1:((i:Int)+1)=((i+1:Nat):Int):=by omega
     rw [if_pos (by omega),aM (aV (by omega) (by omega)),aM (by omega),eJ]
     have hst2:byt p ((i:Int)+1)=42↔p.getD (i+1) 0=42:=by rw [c1,cO]; exact byte_eq (p.getD (i+1) 0) 42
     by_cases hc2:p.getD (i+1) 0=42
     ·rw [decide_eq_true (hst2.2 hc2)]
      obtain ⟨o,h1,h2,h3⟩:=step_eq n l s ((p.getD i 0).toNat:Int) (decide (((p.getD i 0).toNat:Int)=42)) true hl hs hn
      rw [aM (by omega),h1,eJ,if_pos rfl,aM (aV (by omega) (by omega)),eJ]
      dsimp only
      rw [aM (aV (by omega) (by omega))]
      obtain ⟨o',k1,k2,k3⟩:=ih (i+2) o (by omega) (by omega) (by omega)
      rw [Int.natCast_add] at k1
      refine ⟨o',?_,k2,k3.trans ?_⟩
      ·rw [show (i:Int)+1+1=(i:Int)+((2:Nat):Int) by omega]; exact k1
      ·rw [hdr,hc,drop_cons p (i+1) hlt2,hc2,acc_two _ _ _ hl]
       refine acc_congr λ k hk=>?_
       rw [h3 k (by omega),decide_eq_true hc']
       exact stp_spr l s _ true hl k hk
     ·rw [decide_eq_false (λ h=>hc2 (hst2.1 h))]
      exact end1 (one (.inl hc2))
    ·rw [if_neg (by omega),eJ]
     exact end1 (one (.inr (by omega)))
   ·have hc':¬ (((p.getD i 0).toNat:Int)=42):=λ h=>hc (hst.1 h)
    rw [if_neg hc',eJ]
    obtain ⟨o,h1,h2,h3⟩:=step_eq n l s ((p.getD i 0).toNat:Int) (decide (((p.getD i 0).toNat:Int)=42)) false hl hs hn
    rw [aM (by omega),h1,eJ,if_neg (by simp),eJ]
    dsimp only
    rw [aM (aV (by omega) (by omega))]
    obtain ⟨o',k1,k2,k3⟩:=ih (i+1) o (by omega) (by omega) (by omega)
    rw [Int.natCast_add] at k1
    refine ⟨o',k1,k2,k3.trans ?_⟩
    rw [hdr,acc_lit hc _ _ _ hl]
    refine acc_congr λ k hk=>?_
    rw [h3 k (by omega),decide_eq_false hc',nxt_iff s _ l hl _ (Nat.le_refl _)]
    cases k with
    | zero=>simp [stp]
    | succ k =>
     simp only [stp,Bool.false_eq_true,if_false,Bool.and_eq_true,decide_eq_true_iff,byte_eq]
     constructor
     ·rintro ⟨h4,h5⟩; exact ⟨k,by omega,rfl,h4,h5⟩
     ·rintro ⟨j,h4,h5,h6,h7⟩
      obtain rfl:k=j:=by omega
      exact ⟨h6,h7⟩
  ·rw [if_neg (by omega)]
   obtain rfl:i=p.length:=by omega
   refine ⟨l,rfl,hl,?_⟩
   rw [List.drop_length,acc_nil]
theorem acc_ini (p s:Bytes):Acc p s (ini s)↔Spl p s:=by
 have hg:∀ k,(ini s).getD k false=true↔k=0:=by
  intro k
  unfold ini
  rw [getD_set _ _ _ (by simp)]
  by_cases e:k=0
  ·simp [e]
  ·rw [if_neg e,List.getD_eq_getElem?_getD,List.getElem?_replicate]
   split <;> simp [e]
 constructor
 ·rintro ⟨k,_,h2,h3⟩
  obtain rfl:=(hg k).1 h2
  simpa using h3
 ·intro h; exact ⟨0,Nat.zero_le _,(hg 0).2 rfl,by simpa using h⟩
theorem refmatch_eq (n:Nat)(p s:Bytes)(hp:p.length≤65536)(hs:s.length≤65536)(hn:p.length+s.length+3≤n):jd n p s=some (matchL p s):=by
 unfold jd
 rw [aM hp]
 by_cases hc:rcheck p=0
 ·rw [if_pos hc,aM (aV (by omega) (by omega)),aM (by omega)]
  have ht:((s.length:Int)+1).toNat=s.length+1:=by omega
  rw [ht,aM (by simp)]
  obtain ⟨o,h1,h2,h3⟩:=match_l1_eq n p s hp hs (by omega) n 0 (ini s) (Nat.zero_le _) (by omega) (by simp [ini])
  have h1:dW n p s n ((List.replicate (s.length+1) false).set (0:Int).toNat true) 0=some o:=h1
  rw [h1,eJ,aM (by omega)]
  congr 1
  have h4:lat o (s.length:Int)=o.getD s.length false:=rfl
  rw [h4,Bool.eq_iff_iff,h3,List.drop_zero,acc_ini,matchL_iff,check_eq]
  simp [hc]
 ·rw [if_neg hc]
  congr 1
  cases hm:matchL p s with
  | false=>rfl
  | true =>
   have:=((matchL_iff p s).1 hm).1
   rw [check_eq] at this
   exact absurd this hc
end Go.Ab.Glob
end
section
namespace Go.Ab.R06
open Go.Ab Go.Ab.RB Go.Lib
theorem t31:(List.range 256).all (λ n=>bw .u8 (n:Int) 31 == ((n % 32:Nat):Int))=true:=by kernel_rfl
theorem t15:(List.range 256).all (λ n=>bw .u8 (n:Int) 15 == ((n % 16:Nat):Int))=true:=by kernel_rfl
theorem t7:(List.range 256).all (λ n=>bw .u8 (n:Int) 7 == ((n % 8:Nat):Int))=true:=by kernel_rfl
theorem or64 (a b:Nat)(ha:a < 4611686018427387904)(hb:b < 4611686018427387904):iOr .i64 (a:Int) (b:Int)=((a ||| b:Nat):Int):=by
 have hlt:a ||| b < 4611686018427387904:=Nat.or_lt_two_pow (n:=62) ha hb
 have e1:(BitVec.ofInt 64 (a:Int)).toNat=a:=by
  rw [BitVec.toNat_ofInt]; omega
 have e2:(BitVec.ofInt 64 (b:Int)).toNat=b:=by
  rw [BitVec.toNat_ofInt]; omega
 show IntKind.wrap .i64 (((BitVec.ofInt 64 (a:Int)) ||| (BitVec.ofInt 64 (b:Int))).toNat:Nat)=_
 rw [BitVec.toNat_or,e1,e2]
 simp [IntKind.wrap,IntKind.bits,IntKind.signed]
 omega
theorem uJ (a b k:Nat)(ha:a*2 ^ k < 4611686018427387904)(hb:b < 2 ^ k)(hk:k≤20):iOr .i64 ((a*2 ^ k:Nat):Int) (b:Int)=((a*2 ^ k+b:Nat):Int):=by
 have hp:2 ^ k≤2 ^ 20:=Nat.pow_le_pow_right (by decide) hk
 have h20:(2:Nat) ^ 20=1048576:=rfl
 rw [or64 _ _ ha (by omega)]
 have:=Nat.shiftLeft_add_eq_or_of_lt hb a
 rw [Nat.shiftLeft_eq] at this
 rw [← this]
theorem uz (a k:Nat)(hk:k≤20)(ha:a*2 ^ k < 4611686018427387904):ji .i64 (a:Int) (k:Int)=((a*2 ^ k:Nat):Int):=by
 have:min (k:Int).toNat IntKind.i64.bits=k:=by
  have:IntKind.i64.bits=64:=rfl
  rw [this]; omega
 unfold ji
 rw [this]
 have e:(a:Int)*2 ^ k=((a*2 ^ k:Nat):Int):=by push_cast; rfl
 rw [e]
 generalize a*2 ^ k=v at ha
 simp [IntKind.wrap,IntKind.bits,IntKind.signed]
 omega
def B6 (l:Bytes):Int×Int:=if (decodeL l).1=65533∧(decodeL l).2=1 then (0,0) else (((decodeL l).1:Int),((decodeL l).2:Int))
theorem Cy (s:Bytes)(j:Nat)(lo hi:Int):dX s (j:Int) lo hi=some (decide (j < s.length∧lo≤((s.getD j 0).toNat:Int)∧((s.getD j 0).toNat:Int)≤hi)):=by
 unfold dX
 have hb:byt s (j:Int)=((s.getD j 0).toNat:Int):=cO s j
 rw [hb]
 by_cases h:j < s.length
 ·rw [if_pos (by omega),aM (by omega)]
  by_cases h2:lo≤((s.getD j 0).toNat:Int)
  ·rw [if_pos h2,aM (by omega)]
   refine congrArg some (eqB ?_)
   rw [decide_eq_true_eq,decide_eq_true_eq]
   exact ⟨λ q=>⟨h,h2,q⟩,λ q=>q.2.2⟩
  ·rw [if_neg h2,Option.bind_some]
   symm; rw [Option.some.injEq,decide_eq_false_iff_not]
   exact λ q=>h2 q.2.1
 ·rw [if_neg (by omega)]; simp [h]
set_option maxHeartbeats 8000000 in
theorem tC (s:Bytes)(i:Nat)(hi:i < s.length)(hs:s.length≤1000000000):ia s (i:Int)=some (B6 (s.drop i)):=by
 have hg:∀ k,(s.drop i).getD k 0=s.getD (i+k) 0:=λ k=>by
  rw [List.getD_eq_getElem?_getD,List.getElem?_drop,List.getD_eq_getElem?_getD]
 unfold ia B6
 rw [decodeL_N,hg,hg,hg,hg,Nat.add_zero,List.length_drop]
 have b:∀ k:Nat,byt s ((i:Int)+k)=((s.getD (i+k) 0).toNat:Int):=λ k=>by
  rw [show (i:Int)+(k:Int)=((i+k:Nat):Int) by omega]; exact cO s (i+k)
 have c:∀ (k:Nat) lo hi,dX s ((i:Int)+k) lo hi=some (decide (k < s.length - i∧lo≤((s.getD (i+k) 0).toNat:Int)∧((s.getD (i+k) 0).toNat:Int)≤hi)):=λ k lo hi=>by
  rw [show (i:Int)+(k:Int)=((i+k:Nat):Int) by omega,Cy]
  refine congrArg some (eqB ?_)
  rw [decide_eq_true_eq,decide_eq_true_eq]
  constructor
  ·rintro ⟨h1,h2⟩; exact ⟨by omega,h2⟩
  ·rintro ⟨h1,h2⟩; exact ⟨by omega,h2⟩
 have b0:byt s (i:Int)=((s.getD i 0).toNat:Int):=cO s i
 have b1:byt s ((i:Int)+1)=((s.getD (i+1) 0).toNat:Int):=b 1
 have b2:byt s ((i:Int)+2)=((s.getD (i+2) 0).toNat:Int):=b 2
 have b3:byt s ((i:Int)+3)=((s.getD (i+3) 0).toNat:Int):=b 3
 have c1:∀ lo hi,dX s ((i:Int)+1) lo hi=_:=c 1
 have c2:∀ lo hi,dX s ((i:Int)+2) lo hi=_:=c 2
 have c3:∀ lo hi,dX s ((i:Int)+3) lo hi=_:=c 3
 simp only [b0,b1,b2,b3,c1,c2,c3]
 obtain ⟨n,hn⟩:∃ n,s.length=i+n:=⟨s.length - i,by omega⟩
 have hn1:s.length - i=n:=by omega
 have hlen:(s.length:Int)=(i:Int)+n:=by omega
 rw [hn1,hlen]
 have l0:=(s.getD i 0).toNat_lt
 have l1:=(s.getD (i+1) 0).toNat_lt
 have l2:=(s.getD (i+2) 0).toNat_lt
 have l3:=(s.getD (i+3) 0).toNat_lt
 generalize (s.getD i 0).toNat=B0 at l0 ⊢
 generalize (s.getD (i+1) 0).toNat=B1 at l1 ⊢
 generalize (s.getD (i+2) 0).toNat=B2 at l2 ⊢
 generalize (s.getD (i+3) 0).toNat=B3 at l3 ⊢
 have hnp:0 < n:=by omega
 have hnb:n≤1000000000:=by omega
 have hib:i≤1000000000:=by omega
 clear hg b c b0 b1 b2 b3 c1 c2 c3 hn1 hlen hn hi hs
 have a31:bw .u8 (B0:Int) 31=((B0 % 32:Nat):Int):=tab t31 B0 (by omega)
 have a15:bw .u8 (B0:Int) 15=((B0 % 16:Nat):Int):=tab t15 B0 (by omega)
 have a7:bw .u8 (B0:Int) 7=((B0 % 8:Nat):Int):=tab t7 B0 (by omega)
 have a1:bw .u8 (B1:Int) 63=((B1 % 64:Nat):Int):=tab t63 B1 (by omega)
 have a2:bw .u8 (B2:Int) 63=((B2 % 64:Nat):Int):=tab t63 B2 (by omega)
 have a3:bw .u8 (B3:Int) 63=((B3 % 64:Nat):Int):=tab t63 B3 (by omega)
 have two:iOr .i64 (ji .i64 ((B0 % 32:Nat):Int) 6) ((B1 % 64:Nat):Int)=((B0 % 32*64+B1 % 64:Nat):Int):=by
  have h1:ji .i64 ((B0 % 32:Nat):Int) 6=((B0 % 32*2 ^ 6:Nat):Int):=uz _ 6 (by decide) (by omega)
  rw [h1]
  exact uJ _ _ 6 (by omega) (by omega) (by decide)
 have three:iOr .i64 (iOr .i64 (ji .i64 ((B0 % 16:Nat):Int) 12) (ji .i64 ((B1 % 64:Nat):Int) 6)) ((B2 % 64:Nat):Int)=((B0 % 16*4096+B1 % 64*64+B2 % 64:Nat):Int):=by
  have h1:ji .i64 ((B0 % 16:Nat):Int) 12=((B0 % 16*2 ^ 12:Nat):Int):=uz _ 12 (by decide) (by omega)
  have h2:ji .i64 ((B1 % 64:Nat):Int) 6=((B1 % 64*2 ^ 6:Nat):Int):=uz _ 6 (by decide) (by omega)
  have h3:=uJ (B0 % 16) (B1 % 64*2 ^ 6) 12 (by omega) (by omega) (by decide)
  have h4:=uJ (B0 % 16*64+B1 % 64) (B2 % 64) 6 (by omega) (by omega) (by decide)
  rw [h1,h2,h3,show B0 % 16*2 ^ 12+B1 % 64*2 ^ 6=(B0 % 16*64+B1 % 64)*2 ^ 6 by omega,h4]
 have four:iOr .i64 (iOr .i64 (iOr .i64 (ji .i64 ((B0 % 8:Nat):Int) 18) (ji .i64 ((B1 % 64:Nat):Int) 12)) (ji .i64 ((B2 % 64:Nat):Int) 6)) ((B3 % 64:Nat):Int)=((B0 % 8*262144+B1 % 64*4096+B2 % 64*64+B3 % 64:Nat):Int):=by
  have h1:ji .i64 ((B0 % 8:Nat):Int) 18=((B0 % 8*2 ^ 18:Nat):Int):=uz _ 18 (by decide) (by omega)
  have h2:ji .i64 ((B1 % 64:Nat):Int) 12=((B1 % 64*2 ^ 12:Nat):Int):=uz _ 12 (by decide) (by omega)
  have h2':ji .i64 ((B2 % 64:Nat):Int) 6=((B2 % 64*2 ^ 6:Nat):Int):=uz _ 6 (by decide) (by omega)
  have h3:=uJ (B0 % 8) (B1 % 64*2 ^ 12) 18 (by omega) (by omega) (by decide)
  have h4:=uJ (B0 % 8*64+B1 % 64) (B2 % 64*2 ^ 6) 12 (by omega) (by omega) (by decide)
  have h5:=uJ (B0 % 8*4096+B1 % 64*64+B2 % 64) (B3 % 64) 6 (by omega) (by omega) (by decide)
  rw [h1,h2,h2',h3,show B0 % 8*2 ^ 18+B1 % 64*2 ^ 12=(B0 % 8*64+B1 % 64)*2 ^ 12 by omega,h4,show (B0 % 8*64+B1 % 64)*2 ^ 12+B2 % 64*2 ^ 6=(B0 % 8*4096+B1 % 64*64+B2 % 64)*2 ^ 6 by omega,h5]
 rw [a31,a15,a7,a1,a2,a3,two,three,four]
 have i1:inR ((i:Int)+1):=aV (by omega) (by omega)
 have i2:inR ((i:Int)+2):=aV (by omega) (by omega)
 have i3:inR ((i:Int)+3):=aV (by omega) (by omega)
 have e0:((if (i:Int) < 0 then some true else some (decide ((i:Int)+n≤i))):Option Bool)=some false:=by
  rw [if_neg (by omega)]; simp; omega
 rw [e0,Option.bind_some,if_neg (by simp),aM (by omega)]
 unfold decodeN
 by_cases h0:B0 < 128
 ·rw [if_pos (show (B0:Int) < 128 by omega),aM (aV (by omega) (by omega)),if_pos h0]
  simp only
  rw [if_neg (by omega)]; rfl
 rw [if_neg (show ¬ (B0:Int) < 128 by omega),if_neg h0]
 have e12:((if 194≤(B0:Int) then if (B0:Int)≤223 then ck (inR ((i:Int)+1)) <| (some (decide (1 < n∧(128:Int)≤(B1:Int)∧(B1:Int)≤191))).bind λ r10=>some r10 else some false else some false):Option Bool)=some (decide (194≤B0∧B0≤223∧1 < n∧128≤B1∧B1≤191)):=by
  by_cases q1:194≤B0
  ·rw [if_pos (by omega)]
   by_cases q2:B0≤223
   ·rw [if_pos (by omega),aM i1,Option.bind_some]
    refine congrArg some (eqB ?_)
    rw [decide_eq_true_eq,decide_eq_true_eq]; omega
   ·rw [if_neg (by omega)]; simp; omega
  ·rw [if_neg (by omega)]; simp; omega
 rw [e12,Option.bind_some]
 by_cases h12:194≤B0∧B0≤223∧1 < n∧128≤B1∧B1≤191
 ·rw [if_pos (by simp only [decide_eq_true_eq]; exact h12),aM (aV (by omega) (by omega)),aM (by omega),aM i1,aM (by omega),aM (aV (by omega) (by omega))]
  rw [if_pos (show B0 / 32=6∧1 < n∧B1 / 64=2 by omega),if_pos (show B0 % 32*64+B1 % 64 ≥ 128 by omega)]
  show some _=some (if B0 % 32*64+B1 % 64=65533∧_ then _ else _)
  rw [if_neg (by omega)]; rfl
 rw [if_neg (by simp only [decide_eq_true_eq]; exact h12)]
 have hlo:((if (B0:Int)=224 then some 160 else some 128):Option Int)=some (if B0=224 then 160 else 128):=by
  by_cases q:B0=224
  ·rw [if_pos (by omega),if_pos q]
  ·rw [if_neg (by omega),if_neg q]
 have hhi:((if (B0:Int)=237 then some 159 else some 191):Option Int)=some (if B0=237 then 159 else 191):=by
  by_cases q:B0=237
  ·rw [if_pos (by omega),if_pos q]
  ·rw [if_neg (by omega),if_neg q]
 have hlo4:((if (B0:Int)=240 then some 144 else some 128):Option Int)=some (if B0=240 then 144 else 128):=by
  by_cases q:B0=240
  ·rw [if_pos (by omega),if_pos q]
  ·rw [if_neg (by omega),if_neg q]
 have hhi4:((if (B0:Int)=244 then some 143 else some 191):Option Int)=some (if B0=244 then 143 else 191):=by
  by_cases q:B0=244
  ·rw [if_pos (by omega),if_pos q]
  ·rw [if_neg (by omega),if_neg q]
 rw [hlo,Option.bind_some,hhi,Option.bind_some]
 have e32:∀ lo hi:Int,((if 224≤(B0:Int) then if (B0:Int)≤239 then ck (inR ((i:Int)+1)) <| (some (decide (1 < n∧lo≤(B1:Int)∧(B1:Int)≤hi))).bind λ r26=>if r26=true then ck (inR ((i:Int)+2)) <| (some (decide (2 < n∧(128:Int)≤(B2:Int)∧(B2:Int)≤191))).bind λ r30=>some r30 else some false else some false else some false):Option Bool)
   = some (decide (224≤B0∧B0≤239∧(1 < n∧lo≤(B1:Int)∧(B1:Int)≤hi)∧2 < n∧128≤B2∧B2≤191)):=by
  intro lo hi
  by_cases q1:224≤B0
  ·rw [if_pos (by omega)]
   by_cases q2:B0≤239
   ·rw [if_pos (by omega),aM i1,Option.bind_some]
    by_cases q3:1 < n∧lo≤(B1:Int)∧(B1:Int)≤hi
    ·rw [if_pos (by simp only [decide_eq_true_eq]; exact q3),aM i2,Option.bind_some]
     refine congrArg some (eqB ?_)
     rw [decide_eq_true_eq,decide_eq_true_eq]
     constructor
     ·intro q; exact ⟨q1,q2,q3,by omega⟩
     ·intro q; have:=q.2.2.2; omega
    ·rw [if_neg (by simp only [decide_eq_true_eq]; exact q3)]
     symm; rw [Option.some.injEq,decide_eq_false_iff_not]
     intro q; exact q3 q.2.2.1
   ·rw [if_neg (by omega)]
    symm; rw [Option.some.injEq,decide_eq_false_iff_not]
    intro q; exact q2 q.2.1
  ·rw [if_neg (by omega)]
   symm; rw [Option.some.injEq,decide_eq_false_iff_not]
   intro q; exact q1 q.1
 rw [e32,Option.bind_some]
 by_cases h32:224≤B0∧B0≤239∧(1 < n∧(if B0=224 then 160 else 128)≤(B1:Int)∧(B1:Int)≤(if B0=237 then 159 else 191))∧2 < n∧128≤B2∧B2≤191
 ·rw [if_pos (by simp only [decide_eq_true_eq]; exact h32)]
  obtain ⟨k1,k2,⟨k3,k4,k5⟩,k6,k7,k8⟩:=h32
  have k4':128≤B1∧(B0=224→160≤B1):=by split at k4 <;> omega
  have k5':B1≤191∧(B0=237→B1≤159):=by split at k5 <;> omega
  clear k4 k5
  repeat rw [aM (by first | exact i1 | exact i2 | omega | exact aV (by omega) (by omega))]
  rw [if_neg (show ¬ (B0 / 32=6∧1 < n∧B1 / 64=2) by omega),if_pos (show B0 / 16=14∧(1 < n∧B1 / 64=2)∧2 < n∧B2 / 64=2 by omega),if_pos (show B0 % 16*4096+B1 % 64*64+B2 % 64 ≥ 2048∧(B0 % 16*4096+B1 % 64*64+B2 % 64 < 55296∨57344≤B0 % 16*4096+B1 % 64*64+B2 % 64∧B0 % 16*4096+B1 % 64*64+B2 % 64≤1114111) by omega)]
  show some _=some (if B0 % 16*4096+B1 % 64*64+B2 % 64=65533∧(3:Nat)=1 then _ else _)
  rw [if_neg (by omega)]; rfl
 rw [if_neg (by simp only [decide_eq_true_eq]; exact h32)]
 rw [hlo4,Option.bind_some,hhi4,Option.bind_some]
 have h32':¬ (224≤B0∧B0≤239∧1 < n∧(B0=224→160≤B1)∧128≤B1∧B1≤191∧(B0=237→B1≤159)∧2 < n∧128≤B2∧B2≤191):=by
  rintro ⟨k1,k2,k3,k4,k5,k6,k7,k8⟩
  exact h32 ⟨k1,k2,⟨k3,by split <;> omega,by split <;> omega⟩,k8⟩
 clear h32 e32
 have e60:∀ lo hi:Int,((if 240≤(B0:Int) then if (B0:Int)≤244 then ck (inR ((i:Int)+1)) <| (some (decide (1 < n∧lo≤(B1:Int)∧(B1:Int)≤hi))).bind λ r50=>if r50=true then ck (inR ((i:Int)+2)) <| (some (decide (2 < n∧(128:Int)≤(B2:Int)∧(B2:Int)≤191))).bind λ r54=>if r54=true then ck (inR ((i:Int)+3)) <| (some (decide (3 < n∧(128:Int)≤(B3:Int)∧(B3:Int)≤191))).bind λ r58=>some r58 else some false else some false else some false else some false):Option Bool)
   = some (decide (240≤B0∧B0≤244∧(1 < n∧lo≤(B1:Int)∧(B1:Int)≤hi)∧(2 < n∧128≤B2∧B2≤191)∧3 < n∧128≤B3∧B3≤191)):=by
  intro lo hi
  by_cases q1:240≤B0
  ·rw [if_pos (by omega)]
   by_cases q2:B0≤244
   ·rw [if_pos (by omega),aM i1,Option.bind_some]
    by_cases q3:1 < n∧lo≤(B1:Int)∧(B1:Int)≤hi
    ·rw [if_pos (by simp only [decide_eq_true_eq]; exact q3),aM i2,Option.bind_some]
     by_cases q4:2 < n∧128≤B2∧B2≤191
     ·rw [if_pos (by simp only [decide_eq_true_eq]; omega),aM i3,Option.bind_some]
      refine congrArg some (eqB ?_)
      rw [decide_eq_true_eq,decide_eq_true_eq]
      constructor
      ·intro q; exact ⟨q1,q2,q3,q4,by omega⟩
      ·intro q; have:=q.2.2.2.2; omega
     ·rw [if_neg (by simp only [decide_eq_true_eq]; omega)]
      symm; rw [Option.some.injEq,decide_eq_false_iff_not]
      intro q; exact q4 q.2.2.2.1
    ·rw [if_neg (by simp only [decide_eq_true_eq]; exact q3)]
     symm; rw [Option.some.injEq,decide_eq_false_iff_not]
     intro q; exact q3 q.2.2.1
   ·rw [if_neg (by omega)]
    symm; rw [Option.some.injEq,decide_eq_false_iff_not]
    intro q; exact q2 q.2.1
  ·rw [if_neg (by omega)]
   symm; rw [Option.some.injEq,decide_eq_false_iff_not]
   intro q; exact q1 q.1
 rw [e60,Option.bind_some]
 by_cases h60:240≤B0∧B0≤244∧(1 < n∧(if B0=240 then 144 else 128)≤(B1:Int)∧(B1:Int)≤(if B0=244 then 143 else 191))∧(2 < n∧128≤B2∧B2≤191)∧3 < n∧128≤B3∧B3≤191
 ·rw [if_pos (by simp only [decide_eq_true_eq]; exact h60)]
  obtain ⟨k1,k2,⟨k3,k4,k5⟩,⟨k6,k7,k8⟩,k9,k10,k11⟩:=h60
  have k4':128≤B1∧(B0=240→144≤B1):=by split at k4 <;> omega
  have k5':B1≤191∧(B0=244→B1≤143):=by split at k5 <;> omega
  clear k4 k5
  repeat rw [aM (by first | exact i1 | exact i2 | exact i3 | omega | exact aV (by omega) (by omega))]
  rw [if_neg (show ¬ (B0 / 32=6∧1 < n∧B1 / 64=2) by omega),if_neg (show ¬ (B0 / 16=14∧(1 < n∧B1 / 64=2)∧2 < n∧B2 / 64=2) by omega),if_pos (show B0 / 8=30∧(1 < n∧B1 / 64=2)∧(2 < n∧B2 / 64=2)∧3 < n∧B3 / 64=2 by omega)]
  generalize hv:B0 % 8*262144+B1 % 64*4096+B2 % 64*64+B3 % 64=v
  rw [if_pos (show v ≥ 65536∧(v < 55296∨57344≤v∧v≤1114111) by omega)]
  show some _=some (if v=65533∧(4:Nat)=1 then _ else _)
  rw [if_neg (by omega)]; rfl
 rw [if_neg (by simp only [decide_eq_true_eq]; exact h60)]
 have h60':¬ (240≤B0∧B0≤244∧1 < n∧(B0=240→144≤B1)∧128≤B1∧B1≤191∧(B0=244→B1≤143)∧2 < n∧128≤B2∧B2≤191∧3 < n∧128≤B3∧B3≤191):=by
  rintro ⟨k1,k2,k3,k4,k5,k6,k7,k8,k9,k10,k11⟩
  exact h60 ⟨k1,k2,⟨k3,by split <;> omega,by split <;> omega⟩,⟨k8,k9,k10⟩,k11⟩
 clear h60 e60
 symm
 refine congrArg some (if_pos ?_)
 repeat' split
 all_goals first | exact ⟨rfl,rfl⟩ | (exfalso; omega)
theorem yN (s:Bytes)(hs:s.length≤1000000000):∀ (k i:Nat),s.length - i < k→i≤s.length→Ev2 (λ _ m=>fk s m (i:Int)) (·=if validD (s.drop i)=true then .inl () else .inr false):=by
 intro k
 induction k with
 | zero=>intro i h; omega
 | succ k ih =>
  intro i hk hi
  refine aS ?_
  simp only [fk]
  by_cases h:i < s.length
  ·have hne:s.drop i≠[]:=by intro q; have:=congrArg List.length q; rw [List.length_drop] at this; simp at this; omega
   refine au (by omega) (ak _ (aQ (tC s i h hs) rfl) ?_)
   have hv:=tZ _ hne
   have hdf:=kS _ hne
   rw [List.length_drop] at hdf
   unfold B6
   by_cases q:(decodeL (s.drop i)).1=65533∧(decodeL (s.drop i)).2=1
   ·rw [if_pos q]
    refine au rfl (aa ?_)
    rw [if_neg (λ z=>((hv.1 z).1 q))]
   ·rw [if_neg q]
    refine av (by simp only; omega) (ai (aV (by simp only; omega) (by simp only; omega)) ?_)
    have:=ih (i+(decodeL (s.drop i)).2) (by omega) (by omega)
    rw [Int.natCast_add] at this
    refine iQ this λ r hr=>?_
    rw [hr,← List.drop_drop]
    by_cases z:validD ((s.drop i).drop (decodeL (s.drop i)).2)=true
    ·rw [if_pos z,if_pos (hv.2 ⟨q,z⟩)]
    ·rw [if_neg z,if_neg (λ y=>z (hv.1 y).2)]
  ·refine av (by omega) (aa ?_)
   rw [List.drop_of_length_le (by omega),if_pos validD_nil]
theorem yM (s:Bytes)(hs:s.length≤1000000000):Ev2 (λ n _=>kf n s) (·=(decide (s.length≤4096)&&validD s)):=by
 simp only [kf]
 refine aA (λ h=>aa ?_) (λ h=>?_)
 ·have:¬ s.length≤4096:=by omega
  simp [this]
 ·have h':s.length≤4096:=by omega
  have l:=yN s hs (s.length+1) 0 (by omega) (by omega)
  rw [List.drop_zero] at l
  cases hv:validD s with
  | true=>rw [hv] at l; exact gZ () (bu l) (aa (by simp [h']))
  | false=>rw [hv] at l; exact gO false (bu l) (by simp)
theorem xr:∀ (k u:Nat),u < 10 ^ (k+1)→u≤9007199254740992→Ev2 (λ n _=>dC n (u:Int)) (·=decDigits u):=by
 intro k
 induction k with
 | zero =>
  intro u h _
  have h:u < 10:=by simpa using h
  refine qq ?_
  simp only [dC]
  have hw:IntKind.wrap .u8 (48+(u:Int))=((48+u:Nat):Int):=by rw [pH]; omega
  rw [hw]
  refine ak true (au (by omega) (aa (by simp; omega))) (au rfl (ai (aV (by omega) (by omega)) (ai (by omega) (aa ?_))))
  rw [decDigits,dif_pos h]
  rfl
 | succ k ih =>
  intro u h hm
  refine qq ?_
  simp only [dC]
  have hw:u < 10→IntKind.wrap .u8 (48+(u:Int))=((48+u:Nat):Int):=λ _=>by rw [pH]; omega
  by_cases h10:u < 10
  ·rw [hw h10]
   refine ak true (au (by omega) (aa (by simp; omega))) (au rfl (ai (aV (by omega) (by omega)) (ai (by omega) (aa ?_))))
   rw [decDigits,dif_pos h10]
   rfl
  ·have hd:IntKind.wrap .i64 ((u:Int).tdiv 10)=((u / 10:Nat):Int):=by
    have:(u:Int).tdiv 10=((u / 10:Nat):Int):=by
     rw [Int.tdiv_eq_ediv_of_nonneg (by omega)]; omega
    rw [this]
    simp [IntKind.wrap,IntKind.bits,IntKind.signed]
    omega
   have hmod:(u:Int).tmod 10=((u % 10:Nat):Int):=by
    rw [Int.tmod_eq_emod_of_nonneg (by omega)]; omega
   refine ak false (au (by omega) (aa (by simp; omega))) (av (by simp) ?_)
   refine ak false (av (by omega) (aa rfl)) (av (by simp) (av (by omega) (ai (by decide) ?_)))
   rw [hd,hmod]
   have i1:=ih (u / 10) (by rw [Nat.pow_succ] at h; omega) (by omega)
   have i2:=ih (u % 10) (by have:10 ^ 1≤10 ^ (k+1):=Nat.pow_le_pow_right (by decide) (by omega); omega) (by omega)
   have e2:decDigits (u % 10)=[UInt8.ofNat (48+u % 10)]:=by rw [decDigits,dif_pos (by omega)]
   have hl:(decDigits (u / 10)).length≤u / 10+1:=by
    have:∀ n v:Nat,v < n→(decDigits v).length≤v+1:=by
     intro n
     induction n with
     | zero=>intro v h; omega
     | succ n ihn =>
      intro v hv
      rw [decDigits]
      split
      ·simp
      ·have:=ihn (v / 10) (by omega)
       rw [List.length_append]; simp; omega
    exact this (u / 10+1) _ (by omega)
   refine ak _ i1 (ai (by decide) (ak _ i2 (ai ?_ (aa ?_))))
   ·rw [e2]; simp only [List.length_cons,List.length_nil]; omega
   ·conv=>rhs; rw [decDigits,dif_neg h10]
    rw [e2]
theorem AW {v:Int}(h0:0≤v)(h1:v≤iD):Ev2 (λ n _=>dC n v) (·=itoa v):=by
 obtain ⟨u,rfl⟩:∃ u:Nat,v=u:=⟨v.toNat,by omega⟩
 have e:itoa (u:Int)=decDigits u:=by unfold itoa; rw [if_neg (by omega)]; simp
 rw [e]
 have:u≤9007199254740992:=by unfold iD at h1; omega
 exact xr 15 u (by omega) this
theorem x5:∀ n:Fin 16,sub C2 ((n.1:Nat):Int) (((n.1:Nat):Int)+1)=[hexDigit n.1]:=by decide
theorem xG (u:Nat)(h:u < 256):Ev2 (λ n _=>fL n (u:Int)) (·=dm u):=by
 have one:∀ v:Nat,v < 16→Ev2 (λ n _=>fL n (v:Int)) (·=[hexDigit v]):=by
  intro v hv
  refine qq ?_
  simp only [fL]
  have hm:(v:Int).tmod 16=(v:Int):=by rw [Int.tmod_eq_emod_of_nonneg (by omega)]; omega
  rw [hm]
  refine ai (by decide) (ai (by decide) (ai (aV (by omega) (by omega)) (ai (by simp; omega) (au (by omega) (aa ?_)))))
  exact x5 ⟨v,hv⟩
 by_cases h1:u < 16
 ·have e:dm u=[hexDigit u]:=if_pos h1
  rw [e]; exact one u h1
 ·have e:dm u=[hexDigit (u / 16),hexDigit (u % 16)]:=if_neg h1
  rw [e]
  refine qq ?_
  simp only [fL]
  have hm:(u:Int).tmod 16=((u % 16:Nat):Int):=by rw [Int.tmod_eq_emod_of_nonneg (by omega)]; omega
  have hd:IntKind.wrap .i64 ((u:Int).tdiv 16)=((u / 16:Nat):Int):=by
   have:(u:Int).tdiv 16=((u / 16:Nat):Int):=by rw [Int.tdiv_eq_ediv_of_nonneg (by omega)]; omega
   rw [this]
   simp [IntKind.wrap,IntKind.bits,IntKind.signed]
   omega
  rw [hm,hd]
  have es:sub ([48,49,50,51,52,53,54,55,56,57,97,98,99,100,101,102]:Bytes) ((u % 16:Nat):Int) (((u % 16:Nat):Int)+1)=[hexDigit (u % 16)]:=x5 ⟨u % 16,by omega⟩
  rw [es]
  refine ai (by decide) (ai (by decide) (ai (aV (by omega) (by omega)) (ai (by simp; omega) (av (by omega) (ai (by decide) (ak _ (one _ (by omega)) (ai (by simp) (aa rfl))))))))
theorem BX (b:UInt8):Ev2 (λ n _=>iL n (b.toNat:Int)) (·=fF b):=by
 have hb:=b.toNat_lt
 simp only [iL]
 refine aA (λ h=>aa (yA (by omega)).symm) (λ h1=>aA (λ h=>aa (yD (by omega)).symm) (λ h2=>aA (λ h=>aa (yB (by omega)).symm) (λ h3=>aA (λ h=>aa ?_) (λ h4=>aA (λ h=>aa ?_) (λ h5=>?_)))))
 ·have e:b=34:=(lA (n:=34) (by decide)).1 (by omega)
  rw [e]; rfl
 ·have e:b=92:=(lA (n:=92) (by decide)).1 (by omega)
  rw [e]; rfl
 ·refine ak (decide (b.toNat < 32∨b.toNat=127)) ?_ ?_
  ·by_cases h:b.toNat < 32
   ·exact au (by omega) (aa (by simp [h]))
   ·exact av (by omega) (aa (eqB (by rw [decide_eq_true_eq,decide_eq_true_eq]; omega)))
  ·by_cases h6:b.toNat < 32∨b.toNat=127
   ·rw [yH (by omega) (by omega) (by omega) h6]
    have hl:=nU b.toNat
    exact au (by simp [h6]) (ai (aV (by omega) (by omega)) (ak _ (xG b.toNat (by omega)) (ai (by simp only [List.length_cons,List.length_nil]; omega) (ai (by simp only [List.length_append,List.length_cons,List.length_nil]; omega) (aa rfl)))))
   ·rw [vX (by omega) (by omega) h6]
    refine av (by simp only [decide_eq_true_eq]; exact h6) (ai (by omega) (aa ?_))
    rw [Au]
theorem yK (s:Bytes)(hs:s.length≤1000000000):∀ (k i:Nat) (f:Bytes),i+k=s.length→f.length≤6*i+1→Ev2 (λ n m=>ez n s m f (i:Int)) (·=f++(s.drop i).flatMap fF):=by
 intro k
 induction k with
 | zero =>
  intro i f hi hf
  refine aS ?_
  simp only [ez]
  refine av (by omega) (aa ?_)
  rw [List.drop_of_length_le (by omega)]; simp
 | succ k ih =>
  intro i f hi hf
  refine aS ?_
  simp only [ez]
  refine au (by omega) (ai (by omega) ?_)
  have hb:byt s i=((s.getD i 0).toNat:Int):=cO s i
  rw [hb]
  have hd:s.drop i=s.getD i 0::s.drop (i+1):=by
   rw [List.getD_eq_getElem?_getD,List.getElem?_eq_getElem (by omega),Option.getD_some]
   exact List.drop_eq_getElem_cons (by omega)
  rw [hd,List.flatMap_cons]
  have he:=qk (s.getD i 0)
  generalize s.getD i 0=b at he ⊢
  refine ak _ (BX b) (ai (by omega) (ai (aV (by omega) (by omega)) ?_))
  have:=ih (i+1) (f++fF b) (by omega) (by rw [List.length_append]; omega)
  rw [Int.natCast_add,Int.natCast_one] at this
  simpa using this
theorem uB (s:Bytes)(hs:s.length≤1000000000):Ev2 (λ n _=>jg n s) (·=dA s):=by
 simp only [jg]
 have hf:=tV s
 have l:=yK s hs s.length 0 [34] (by omega) (by simp)
 rw [List.drop_zero] at l
 refine ak _ (bu l) (ai (by simp only [List.length_append,List.length_cons,List.length_nil]; omega) (aa ?_))
 simp [dA]
theorem Es:(List.range 256).all (λ n=>kR (n:Int) == some (match qx (UInt8.ofNat n) with | some d=>(d:Int) | none=>-1))=true:=by kernel_rfl
theorem DK (b:UInt8):kR (b.toNat:Int)=some (match qx b with | some d=>(d:Int) | none=>-1):=by
 have:=eq_of_beq (List.all_eq_true.1 Es b.toNat (List.mem_range.2 b.toNat_lt))
 simpa using this
theorem getD_drop (s:Bytes)(j i:Nat):(s.drop j).getD i 0=s.getD (j+i) 0:=by
 rw [List.getD_eq_getElem?_getD,List.getElem?_drop,List.getD_eq_getElem?_getD]
theorem tI (s:Bytes)(j i:Nat):byt s ((j:Int)+(i:Int))=((s.getD (j+i) 0).toNat:Int):=by
 rw [show (j:Int)+(i:Int)=((j+i:Nat):Int) by omega]; exact cO s (j+i)
theorem drop_at (s:Bytes){i:Nat}(h:i < s.length):s.drop i=s.getD i 0::s.drop (i+1):=by
 rw [List.getD_eq_getElem?_getD,List.getElem?_eq_getElem h,Option.getD_some]
 exact List.drop_eq_getElem_cons h
theorem za (s:Bytes)(hs:s.length≤1000000000)(j:Nat)(hj:j≤s.length):∀ (k i a:Nat),i+k=6→j+i≤s.length→a < 16 ^ i→Ev2 (λ _ m=>ep s (j:Int) m (a:Int) (i:Int))
  (·=(((cX k (s.drop (j+i)) a).1:Int),((i+(cX k (s.drop (j+i)) a).2:Nat):Int))):=by
 intro k
 induction k with
 | zero =>
  intro i a hi hl ha
  refine aS ?_
  simp only [ep]
  refine ak false ?_ (av (by simp) (aa (by simp [cX])))
  exact ai (aV (by omega) (by omega)) (aA (λ h=>av (by omega) (aa rfl)) (λ h=>aa rfl))
 | succ k ih =>
  intro i a hi hl ha
  refine aS ?_
  simp only [ep]
  rw [tI]
  have hin:inR ((j:Int)+(i:Int)):=aV (by omega) (by omega)
  by_cases h:j+i < s.length
  ·rw [drop_at s h]
   generalize s.getD (j+i) 0=b
   unfold cX
   cases hh:qx b with
   | none =>
    refine ak false (ai hin (au (by omega) (au (by omega) (ai hin (ai (by omega) (ak _ (aQ (DK b) rfl) (aa ?_))))))) (av (by simp) (aa (by simp)))
    rw [hh]; rfl
   | some d =>
    have hlt:=yg hh
    have hp:16 ^ i≤16 ^ 5:=Nat.pow_le_pow_right (by decide) (by omega)
    have hp5:(16:Nat) ^ 5=1048576:=rfl
    refine ak true (ai hin (au (by omega) (au (by omega) (ai hin (ai (by omega) (ak _ (aQ (DK b) rfl) (aa ?_))))))) ?_
    ·rw [hh]; simp
    refine au rfl (ai (aV (by omega) (by omega)) (ai hin (ai (by omega) (ak _ (aQ (DK b) rfl) ?_))))
    rw [hh]
    simp only
    refine ai (aV (by omega) (by omega)) (ai (aV (by omega) (by omega)) ?_)
    have:=ih (i+1) (16*a+d) (by omega) (by omega) (by rw [Nat.pow_succ]; omega)
    rw [show (((i+1:Nat)):Int)=(i:Int)+1 by omega,show ((16*a+d:Nat):Int)=16*(a:Int)+(d:Int) by omega,← Nat.add_assoc] at this
    refine iQ this λ r hr=>?_
    rw [hr]
    refine Prod.ext rfl ?_
    show ((i+1+_:Nat):Int)=((i+(_+1):Nat):Int)
    omega
  ·refine ak false (ai hin (av (by omega) (aa rfl))) (av (by simp) (aa ?_))
   rw [List.drop_of_length_le (by omega)]
   simp [cX]
def shP (j:Int)(p:Int×Int×Int):Int×Int×Int:=if p.2.2=0 then (p.1,j+p.2.1,0) else (0,0,p.2.2)
theorem zJ (s:Bytes)(hs:s.length≤1000000000)(j:Nat)(hj:j≤s.length):Ev2 (λ n _=>ki n s (j:Int)) (·=shP (j:Int) (jh (s.drop j))):=by
 simp only [ki]
 have l:=za s hs j hj 6 0 0 rfl (by omega) (by decide)
 rw [Nat.add_zero,Nat.zero_add] at l
 have hle:=oG 6 (s.drop j) 0
 refine ak _ (bu l) ?_
 obtain ⟨v,c,hh⟩:∃ v c,cX 6 (s.drop j) 0=(v,c):=⟨_,_,rfl⟩
 have hP:=sv hh
 rw [hh] at hle ⊢
 rw [List.length_drop] at hle hP
 simp only at hle ⊢
 have hin:inR ((j:Int)+(c:Int)):=aV (by omega) (by omega)
 refine ai hin ?_
 refine aA (λ h=>aa ?_) (λ h=>?_)
 ·rw [hP,if_pos (by omega)]; rfl
 rw [if_neg (show ¬ c=s.length - j by omega),getD_drop,getD_drop,Nat.add_zero] at hP
 have hb0:byt s (j:Int)=((s.getD j 0).toNat:Int):=cO s j
 have h125:(s.getD (j+c) 0).toNat=125↔s.getD (j+c) 0=125:=lA (by decide)
 have h48:(s.getD j 0).toNat=48↔s.getD j 0=48:=lA (by decide)
 rw [tI,hb0]
 have hvr:validRune (v:Int)=false↔1114111 < (v:Int)∨(55296≤(v:Int)∧(v:Int)≤57343):=by
  simp only [validRune,decide_eq_false_iff_not]; omega
 have tail:Ev2 (λ _ _=>(if 1114111 < (v:Int) then some true else if 55296≤(v:Int) then some (decide ((v:Int)≤57343)) else some false:Option Bool)) (·=decide (validRune (v:Int)=false)):=by
  refine aA (λ h1=>aa ?_) (λ h1=>aA (λ h2=>aa (eqB ?_)) (λ h2=>aa ?_))
  ·symm; rw [decide_eq_true_eq,hvr]; exact .inl h1
  ·rw [decide_eq_true_eq,decide_eq_true_eq,hvr]; omega
  ·symm; rw [decide_eq_false_iff_not,hvr]; omega
 refine ak (decide (s.getD (j+c) 0≠125∨c=0∨(1 < c∧s.getD j 0=48)∨validRune (v:Int)=false)) ?_ ?_
 ·refine aA (λ h1=>aa ?_) (λ h1=>ai hin (ai (by omega) ?_))
  ·symm; rw [decide_eq_true_eq]; right; left; omega
  refine aA (λ h2=>?_) (λ h2=>aa ?_)
  ·have q1:¬ s.getD (j+c) 0≠125:=λ q=>q (h125.1 (by omega))
   have q0:¬ c=0:=by omega
   refine aA (λ h3=>ai (by omega) (aA (λ h4=>aa ?_) (λ h4=>?_))) (λ h3=>?_)
   ·symm; rw [decide_eq_true_eq]; right; right; left; exact ⟨by omega,h48.1 (by omega)⟩
   ·have q2:¬ (1 < c∧s.getD j 0=48):=λ q=>h4 (by have:=h48.2 q.2; omega)
    refine iQ tail λ r hr=>?_
    rw [hr]; simp only [q1,q0,q2,false_or]
   ·have q2:¬ (1 < c∧s.getD j 0=48):=λ q=>h3 (by omega)
    refine iQ tail λ r hr=>?_
    rw [hr]; simp only [q1,q0,q2,false_or]
  ·symm; rw [decide_eq_true_eq]; left; intro q; exact h2 (by have:=h125.2 q; omega)
 ·refine aA (λ h1=>aa ?_) (λ h1=>ai hin (ai (aV (by omega) (by omega)) (aa ?_)))
  ·rw [hP,if_pos (of_decide_eq_true h1)]; rfl
  ·rw [hP,if_neg (λ q=>h1 (decide_eq_true q))]
   unfold shP
   rw [if_pos rfl]
   refine Prod.ext rfl (Prod.ext ?_ rfl)
   show (j:Int)+(c:Int)+1=(j:Int)+((c+1:Nat):Int)
   omega
theorem u192:(List.range 32).all (λ n=>iOr .i64 192 (n:Int) == ((192+n:Nat):Int))=true:=by kernel_rfl
theorem DO:(List.range 64).all (λ n=>iOr .i64 128 (n:Int) == ((128+n:Nat):Int))=true:=by kernel_rfl
theorem u224:(List.range 16).all (λ n=>iOr .i64 224 (n:Int) == ((224+n:Nat):Int))=true:=by kernel_rfl
theorem u240:(List.range 8).all (λ n=>iOr .i64 240 (n:Int) == ((240+n:Nat):Int))=true:=by kernel_rfl
theorem xb (u:Nat)(h:u < 4611686018427387904):bw .i64 (u:Int) 63=((u % 64:Nat):Int):=by
 have e1:(BitVec.ofInt 64 (u:Int)).toNat=u:=by rw [BitVec.toNat_ofInt]; omega
 have e2:(BitVec.ofInt 64 (63:Int)).toNat=63:=by rw [BitVec.toNat_ofInt]; omega
 show IntKind.wrap .i64 (((BitVec.ofInt 64 (u:Int)) &&& (BitVec.ofInt 64 (63:Int))).toNat:Nat)=_
 rw [BitVec.toNat_and,e1,e2]
 have:=Nat.and_two_pow_sub_one_eq_mod u 6
 rw [show (2:Nat) ^ 6 - 1=63 from rfl,show (2:Nat) ^ 6=64 from rfl] at this
 rw [this]
 simp [IntKind.wrap,IntKind.bits,IntKind.signed]
 omega
theorem shw (u k:Nat)(hk:k < 64):cC .i64 (u:Int) (k:Int)=((u / 2 ^ k:Nat):Int):=by
 show (u:Int).fdiv (2 ^ (min (k:Int).toNat IntKind.i64.bits))=_
 have:min (k:Int).toNat IntKind.i64.bits=k:=by
  have:IntKind.i64.bits=64:=rfl
  rw [this]; omega
 rw [this,Int.fdiv_eq_ediv_of_nonneg _ (by exact Int.le_of_lt (Int.pow_pos (by decide)))]
 push_cast; rfl
theorem C3 (u:Nat)(h:fy (u:Int)):jt (u:Int)=some (encodeRune (u:Int)):=by
 have h0:(u:Int)≤1114111:=by unfold fy at h; omega
 unfold jt
 have s6:cC .i64 (u:Int) 6=((u / 64:Nat):Int):=shw u 6 (by decide)
 have s12:cC .i64 (u:Int) 12=((u / 4096:Nat):Int):=shw u 12 (by decide)
 have s18:cC .i64 (u:Int) 18=((u / 262144:Nat):Int):=shw u 18 (by decide)
 rw [s6,s12,s18,xb u (by omega),xb (u / 64) (by omega),xb (u / 4096) (by omega)]
 have o1:iOr .i64 128 ((u % 64:Nat):Int)=((128+u % 64:Nat):Int):=tab DO _ (by omega)
 have o2:iOr .i64 128 ((u / 64 % 64:Nat):Int)=((128+u / 64 % 64:Nat):Int):=tab DO _ (by omega)
 have o3:iOr .i64 128 ((u / 4096 % 64:Nat):Int)=((128+u / 4096 % 64:Nat):Int):=tab DO _ (by omega)
 rw [o1,o2,o3]
 have w8:∀ v:Nat,v < 256→IntKind.wrap .u8 (v:Int)=(v:Int):=λ v hv=>by rw [pH]; omega
 have eu:∀ (v:Nat) (w:Int),(v:Int)=w→u8 (v:Int)=w.toNat.toUInt8:=λ v w q=>by rw [← q]; rfl
 by_cases h1:u < 128
 ·rw [if_pos (by omega),w8 u (by omega),aM (by omega)]
  simp only [encodeRune,encodeRuneZ,if_pos (show 0≤(u:Int)∧(u:Int)≤127 by omega),List.map_cons,List.map_nil,u8]
 rw [if_neg (by omega)]
 have n1:¬ (0≤(u:Int)∧(u:Int)≤127):=by omega
 by_cases h2:u < 2048
 ·have p1:iOr .i64 192 ((u / 64:Nat):Int)=((192+u / 64:Nat):Int):=tab u192 _ (by omega)
  rw [if_pos (by omega),p1,w8 _ (by omega),w8 _ (by omega),aM (by omega),aM (by omega),aM (by omega)]
  simp only [encodeRune,encodeRuneZ,if_neg n1,if_pos (show 128≤(u:Int)∧(u:Int)≤2047 by omega),List.map_cons,List.map_nil]
  rw [eu _ (192+(u:Int) / 64) (by omega),eu _ (128+(u:Int) % 64) (by omega)]
 rw [if_neg (by omega)]
 have n2:¬ (128≤(u:Int)∧(u:Int)≤2047):=by omega
 by_cases h3:u < 65536
 ·have p1:iOr .i64 224 ((u / 4096:Nat):Int)=((224+u / 4096:Nat):Int):=tab u224 _ (by omega)
  rw [if_pos (by omega),p1,w8 _ (by omega),w8 _ (by omega),w8 _ (by omega)]
  repeat rw [aM (by omega)]
  simp only [encodeRune,encodeRuneZ,if_neg n1,if_neg n2,if_pos (show (2048≤(u:Int)∧(u:Int) < 55296)∨(57343 < (u:Int)∧(u:Int)≤65535) by unfold fy at h; omega),List.map_cons,List.map_nil]
  rw [eu _ (224+(u:Int) / 4096) (by omega),eu _ (128+(u:Int) / 64 % 64) (by omega),eu _ (128+(u:Int) % 64) (by omega)]
 ·have p1:iOr .i64 240 ((u / 262144:Nat):Int)=((240+u / 262144:Nat):Int):=tab u240 _ (by omega)
  rw [if_neg (by omega),p1,w8 _ (by omega),w8 _ (by omega),w8 _ (by omega),w8 _ (by omega)]
  repeat rw [aM (by omega)]
  simp only [encodeRune,encodeRuneZ,if_neg n1,if_neg n2,if_neg (show ¬ ((2048≤(u:Int)∧(u:Int) < 55296)∨(57343 < (u:Int)∧(u:Int)≤65535)) by omega),if_pos (show 65536≤(u:Int)∧(u:Int)≤1114111 by omega),List.map_cons,List.map_nil]
  rw [eu _ (240+(u:Int) / 262144) (by omega),eu _ (128+(u:Int) / 4096 % 64) (by omega),eu _ (128+(u:Int) / 64 % 64) (by omega),eu _ (128+(u:Int) % 64) (by omega)]
theorem oB (s:Bytes)(a w:Nat):sub s (a:Int) ((a:Int)+(w:Int))=(s.drop a).take w:=by
 show (s.take ((a:Int)+(w:Int)).toNat).drop (a:Int).toNat=_
 rw [show ((a:Int)+(w:Int)).toNat=a+w by omega,Int.toNat_natCast,List.drop_take,Nat.add_sub_cancel_left]
def shE (j:Int)(p:Int×Int×Int):Bytes×Int×Int:=if p.2.2=0 then (encodeRune p.1,j+p.2.1,0) else ([],0,p.2.2)
theorem mn (j v c:Int):shE j (v,c,0)=(encodeRune v,j+c,0):=if_pos rfl
theorem x6 (j v c e:Int)(h:e≠0):shE j (v,c,e)=([],0,e):=if_neg h
theorem wA (s:Bytes)(hs:s.length≤1000000000)(i:Nat)(hi:i < s.length):Ev2 (λ n _=>iA n s (i:Int)) (·=shE ((i:Int)+1) (jM (s.drop (i+1)))):=by
 simp only [iA]
 have i1:inR ((i:Int)+1):=aV (by omega) (by omega)
 have i2:inR ((i:Int)+2):=aV (by omega) (by omega)
 have i3:inR ((i:Int)+3):=aV (by omega) (by omega)
 refine ai i1 ?_
 by_cases h1:i+1 < s.length
 ·have hb:byt s ((i:Int)+1)=((s.getD (i+1) 0).toNat:Int):=tI s i 1
  have hb2:byt s ((i:Int)+2)=((s.getD (i+2) 0).toNat:Int):=tI s i 2
  have hsub:sub s ((i:Int)+1) ((i:Int)+2)=[s.getD (i+1) 0]:=by
   have:=oB s (i+1) 1
   rw [show ((i+1:Nat):Int)=(i:Int)+1 by omega,show (i:Int)+1+((1:Nat):Int)=(i:Int)+2 by omega] at this
   rw [this,drop_at s h1]; rfl
  have hd2:s.drop (i+1+1)=s.drop (i+2):=rfl
  rw [hb,hb2,hsub,drop_at s h1,hd2]
  generalize s.getD (i+1) 0=b
  have hbl:=b.toNat_lt
  have hP:=oo b (s.drop (i+2))
  refine av (by omega) (ai i1 (ai (by omega) ?_))
  have two:(i:Int)+2=(i:Int)+1+1:=by omega
  refine aA (λ h=>ai i2 (aa ?_)) (λ h1=>?_)
  ·rw [hP,if_pos (by omega),mn,two]; rfl
  rw [if_neg (show ¬ b.toNat=110 by omega)] at hP
  refine aA (λ h=>ai i2 (aa ?_)) (λ h2=>?_)
  ·rw [hP,if_pos (by omega),mn,two]; rfl
  rw [if_neg (show ¬ b.toNat=114 by omega)] at hP
  refine aA (λ h=>ai i2 (aa ?_)) (λ h3=>?_)
  ·rw [hP,if_pos (by omega),mn,two]; rfl
  rw [if_neg (show ¬ b.toNat=116 by omega)] at hP
  refine ak (decide (b.toNat=34∨b.toNat=92)) ?_ ?_
  ·by_cases h:b.toNat=34
   ·exact au (by omega) (aa (by simp [h]))
   ·exact av (by omega) (aa (eqB (by rw [decide_eq_true_eq,decide_eq_true_eq]; omega)))
  by_cases h4:b.toNat=34∨b.toNat=92
  ·rw [if_pos h4] at hP
   rw [hP,mn,q9 b (by omega)]
   exact au (by simp [h4]) (ai i1 (ai i2 (ai (by omega) (ai i2 (aa (by rw [two]))))))
  rw [if_neg h4] at hP
  refine av (by simp only [decide_eq_true_eq]; exact h4) ?_
  refine aA (λ h5=>?_) (λ h5=>aa (by rw [hP,if_neg (by omega)]; rfl))
  rw [if_pos (show b.toNat=117 by omega)] at hP
  rw [hP]
  refine ai i2 ?_
  by_cases h6:i+2 < s.length
  ·rw [drop_at s h6]
   have hd3:s.drop (i+2+1)=s.drop (i+3):=rfl
   rw [hd3]
   refine av (by omega) (ai i2 (ai (by omega) ?_))
   generalize s.getD (i+2) 0=c
   show Ev2 _ (·=shE ((i:Int)+1) (if c.toNat=123 then ((jh (s.drop (i+3))).1,(jh (s.drop (i+3))).2.1+2,(jh (s.drop (i+3))).2.2) else ((0,0,2):Int×Int×Int)))
   refine aA (λ h7=>ai i3 ?_) (λ h7=>aa (by rw [if_neg (by omega)]; rfl))
   rw [if_pos (show c.toNat=123 by omega)]
   have hpt:=zJ s hs (i+3) (by omega)
   rw [show ((i+3:Nat):Int)=(i:Int)+3 by omega] at hpt
   have hle:=vM (s.drop (i+3))
   generalize jh (s.drop (i+3))=p at hpt hle ⊢
   obtain ⟨v,w,e⟩:=p
   simp only at hle ⊢
   refine ak _ hpt ?_
   by_cases he:e=0
   ·subst he
    have hr:=hle.2.2.1 rfl
    obtain ⟨u,rfl⟩:∃ u:Nat,v=u:=⟨v.toNat,by unfold fy at hr; omega⟩
    rw [show shP ((i:Int)+3) ((u:Int),w,0)=((u:Int),(i:Int)+3+w,0) from if_pos rfl,mn]
    refine au rfl (ak _ (aQ (C3 u hr) rfl) (aa ?_))
    refine Prod.ext rfl (Prod.ext ?_ rfl)
    show (i:Int)+3+w=(i:Int)+1+(w+2)
    omega
   ·rw [show shP ((i:Int)+3) (v,w,e)=(0,0,e) from if_neg he,x6 _ _ _ _ he]
    exact av he (aa rfl)
  ·rw [List.drop_of_length_le (show s.length≤i+2 by omega)]
   exact au (by omega) (aa rfl)
 ·rw [List.drop_of_length_le (by omega)]
  exact au (by omega) (aa rfl)
theorem Dd (b:UInt8)(r:Bytes)(h:128≤b.toNat):128≤(decodeL (b::r)).1:=by
 have hN:=C5 (b::r).length ((b::r).getD 0 0).toNat ((b::r).getD 1 0).toNat ((b::r).getD 2 0).toNat ((b::r).getD 3 0).toNat (by simp) (UInt8.toNat_lt _)
 rw [← decodeL_N] at hN
 rcases Nat.lt_or_ge (decodeL (b::r)).1 128 with q | q
 ·have:=(hN.2.2.2.1 q).2
  have hb0:((b::r).getD 0 0).toNat=b.toNat:=rfl
  omega
 ·exact q
def Ef (i:Int)(b:UInt8)(r:Bytes):Bytes×Int×Int :=
 if (decodeL (b::r)).1=92 then shE (i+1) (jM r)
 else if pC (decodeL (b::r)) then ([],0,2)
 else (encodeRune ((decodeL (b::r)).1:Int),i+((decodeL (b::r)).2:Int),0)
theorem Ci (s:Bytes)(hs:s.length≤1000000000)(i:Nat)(b:UInt8)(r:Bytes)(hl:s.drop i=b::r)(hi:i+r.length+1=s.length):Ev2 (λ n _=>mA n s (i:Int)) (·=Ef (i:Int) b r):=by
 simp only [mA]
 have hil:i < s.length:=by omega
 have hd:=drop_at s hil
 rw [hl] at hd
 have hb:byt s i=(b.toNat:Int):=by rw [cO,← (List.cons.inj hd).1]
 have hr:s.drop (i+1)=r:=(List.cons.inj hd).2.symm
 rw [hb]
 have hbl:=b.toNat_lt
 unfold Ef
 refine ai (by omega) ?_
 by_cases h92:b.toNat=92
 ·have e:decodeL (b::r)=(b.toNat,1):=decodeL_ascii b r (by omega)
  rw [e,if_pos h92]
  have:=wA s hs i hil
  rw [hr] at this
  exact au (by omega) (ak _ this (aa rfl))
 ·have hdec:=tC s i hil hs
  rw [hl] at hdec
  have hdf:=kS (b::r) (by simp)
  have hc:((decodeL (b::r)).1=b.toNat∧(decodeL (b::r)).2=1∧b.toNat < 128)∨(128≤(decodeL (b::r)).1∧128≤b.toNat):=by
   rcases Nat.lt_or_ge b.toNat 128 with q | q
   ·left; rw [decodeL_ascii b r q]; exact ⟨rfl,rfl,q⟩
   ·right; exact ⟨Dd b r q,q⟩
  refine av (by omega) (ak _ (aQ hdec rfl) ?_)
  unfold B6
  generalize hD:decodeL (b::r)=D at hdf hc ⊢
  obtain ⟨c,w⟩:=D
  simp only at hdf hc ⊢
  rw [if_neg (show ¬ c=92 by omega)]
  simp only [List.length_cons] at hdf
  by_cases hbad:c=65533∧w=1
  ·rw [if_pos hbad,if_pos (show pC (c,w) from .inl hbad)]
   exact ak true (au rfl (aa rfl)) (au rfl (aa rfl))
  ·rw [if_neg hbad]
   have hgood:=hdf.2.2 hbad
   refine ak (decide (pC (c,w))) ?_ ?_
   ·refine av (by simp only; omega) (ai (by omega) (aA (λ h=>aa ?_) (λ h=>ai (by omega) (aa (eqB ?_)))))
    ·symm; rw [decide_eq_true_eq]; unfold pC; simp only; omega
    ·rw [decide_eq_true_eq,decide_eq_true_eq]; unfold pC; simp only; omega
   ·refine aA (λ h=>aa (by rw [if_pos (of_decide_eq_true h)])) (λ h=>?_)
    rw [if_neg (λ q=>h (decide_eq_true q))]
    have hin:inR ((i:Int)+(w:Int)):=aV (by omega) (by omega)
    refine ai hin (ai (by simp only; omega) (ai hin (aa ?_)))
    simp only
    rw [oB,hl,hgood.2]
def Ce (s:Bytes):(Int×Bytes)⊕(Bytes×Int×Int)→Unit⊕(Bytes×Int×Int)
 | .inl q=>if q.1=(s.length:Int) then .inl () else .inr (if 4096 < q.2.length then ([],0,3) else (q.2,q.1+1,0))
 | .inr e=>.inr e
theorem BZ (s:Bytes)(hs:s.length≤1000000000):∀ (k:Nat) (l:Bytes) (i:Nat) (f:Bytes),l.length < k→s.drop i=l→i+l.length=s.length→f.length≤4*i→Ev2 (λ n m=>ed n s m f (i:Int)) (·=Ce s (kI k l i f)):=by
 intro k
 induction k with
 | zero=>intro l i f h; omega
 | succ k ih =>
  intro l i f hk hl hi hf
  refine aS ?_
  simp only [ed]
  cases l with
  | nil =>
   simp only [List.length_nil] at hi
   refine av (by omega) (aa ?_)
   rw [kI]
   show _=(if (i:Int)=(s.length:Int) then _ else _)
   rw [if_pos (by omega)]
  | cons b r =>
   have hil:i < s.length:=by simp only [List.length_cons] at hi; omega
   have hd:=drop_at s hil
   rw [hl] at hd
   have hb:byt s i=(b.toNat:Int):=by rw [cO,← (List.cons.inj hd).1]
   have hr:s.drop (i+1)=r:=(List.cons.inj hd).2.symm
   have hlr:r.length+i+1=s.length:=by simp only [List.length_cons] at hi; omega
   have hU:=jf k b r i f
   have h1:=Ci s hs i b r hl (by omega)
   rw [hb]
   refine au (by omega) (ai (by omega) ?_)
   by_cases h34:b.toNat=34
   ·rw [if_pos h34] at hU
    have hO:Ce s (.inl ((i:Int),f))=.inr (if 4096 < f.length then ([],0,3) else (f,(i:Int)+1,0)):=if_neg (by simp only; omega)
    rw [hU,hO]
    refine au (by omega) (aA (λ h=>aa (by rw [if_pos (by omega)])) (λ h=>ai (aV (by omega) (by omega)) (aa (by rw [if_neg (by omega)]))))
   rw [if_neg h34] at hU
   refine av (by omega) (ak _ h1 ?_)
   unfold Ef
   have hdf:=kS (b::r) (by simp)
   generalize hD:decodeL (b::r)=D at hU hdf ⊢
   obtain ⟨c,w⟩:=D
   simp only at hU hdf ⊢
   by_cases h92:c=92
   ·rw [if_pos h92] at hU ⊢
    have hes:=vN r
    generalize jM r=E at hU hes ⊢
    obtain ⟨x,y,z⟩:=E
    simp only at hU hes
    by_cases hz:z=0
    ·subst hz
     rw [if_pos rfl] at hU
     rw [mn]
     obtain ⟨e1,e2⟩:=hes.2.2.1 rfl
     obtain ⟨y',rfl⟩:∃ y':Nat,y=y':=⟨y.toNat,by omega⟩
     rw [Int.toNat_natCast] at hU
     have hle:=lP x e1
     refine au rfl (ai (by dsimp only; omega) ?_)
     have:=ih (r.drop y') (i+(y'+1)) (f++encodeRune x) (by rw [List.length_drop]; simp only [List.length_cons] at hk; omega) (by rw [← hr,List.drop_drop]; congr 1; omega) (by rw [List.length_drop]; omega) (by rw [List.length_append]; omega)
     rw [← hU] at this
     rw [show ((i+(y'+1):Nat):Int)=(i:Int)+1+(y':Int) by omega] at this
     exact this
    ·rw [if_neg hz] at hU
     rw [x6 _ _ _ _ hz]
     exact av hz (aa (by rw [hU]; rfl))
   ·rw [if_neg h92] at hU ⊢
    by_cases hbd:pC (c,w)
    ·rw [if_pos hbd] at hU ⊢
     exact av (by simp) (aa (by rw [hU]; rfl))
    ·rw [if_neg hbd] at hU ⊢
     have hgood:=hdf.2.2 (λ q=>hbd (.inl q))
     have hle:=lP c hgood.1
     have hw:w≤r.length+1:=by simpa using hdf.2.1
     have hw1:=hdf.1
     refine au rfl (ai (by dsimp only; omega) ?_)
     have:=ih ((b::r).drop w) (i+w) (f++encodeRune (c:Int)) (by rw [List.length_drop]; simp only [List.length_cons] at hk ⊢; omega) (by rw [← hl,List.drop_drop]) (by rw [List.length_drop]; simp only [List.length_cons]; omega) (by rw [List.length_append]; omega)
     rw [← hU] at this
     rw [show ((i+w:Nat):Int)=(i:Int)+(w:Int) by omega] at this
     exact this
theorem Cm (s:Bytes)(hs:s.length≤1000000000):Ev2 (λ n _=>iB n s) (·=jW s):=by
 simp only [iB]
 cases s with
 | nil=>exact au rfl (aa rfl)
 | cons b r =>
  have hl:((b::r).length:Int)=(r.length:Int)+1:=by simp
  have hln:(b::r).length=r.length+1:=by simp
  refine av (by omega) (ai (by omega) ?_)
  have hb:byt (b::r) 0=(b.toNat:Int):=rfl
  rw [hb,mE]
  refine aA (λ h=>?_) (λ h=>aa (by rw [if_neg (show ¬ b.toNat=34 by omega)]))
  have l:=BZ (b::r) hs (r.length+1) r 1 [] (by omega) rfl (by omega) (by simp)
  rw [if_pos (show b.toNat=34 by omega)]
  generalize kI (r.length+1) r 1 []=U at l ⊢
  cases U with
  | inr e=>exact gO e (bu l) rfl
  | inl q =>
   obtain ⟨a,g⟩:=q
   by_cases ha:a=((r.length+1:Nat):Int)
   ·have e:Ce (b::r) (.inl (a,g))=.inl ():=if_pos (by simp only; omega)
    rw [e] at l
    refine gZ () (bu l) (aa ?_)
    show _=(if a=((r.length+1:Nat):Int) then _ else _)
    rw [if_pos ha]
   ·have e:Ce (b::r) (.inl (a,g))=.inr (if 4096 < g.length then ([],0,3) else (g,a+1,0)):=if_neg (by simp only; omega)
    rw [e] at l
    refine gO _ (bu l) ?_
    show _=(if a=((r.length+1:Nat):Int) then _ else if 4096 < g.length then _ else (g,a+1,0))
    rw [if_neg ha]
theorem CP (s:Bytes)(hs:s.length≤1000000000):∀ (k i:Nat),i+k=s.length→Ev2 (λ _ m=>d5 s m (i:Int)) (·=if l5 (λ j=>di (s.getD j 0)) i k then .inl () else .inr false):=by
 intro k
 induction k with
 | zero =>
  intro i hi
  refine aS ?_
  simp only [d5]
  exact av (by omega) (aa rfl)
 | succ k ih =>
  intro i hi
  refine aS ?_
  simp only [d5]
  have hb:byt s i=((s.getD i 0).toNat:Int):=cO s i
  rw [hb]
  refine au (by omega) (ak (!di (s.getD i 0)) ?_ ?_)
  ·have h:=iJ (s.getD i 0)
   generalize s.getD i 0=b at h ⊢
   refine ai (by omega) (aA (λ h1=>aa ?_) (λ h1=>ai (by omega) (aa ?_)))
   ·have:di b=false:=by rw [← Bool.not_eq_true,h]; omega
    simp [this]
   ·refine eqB ?_
    rw [decide_eq_true_eq,Bool.not_eq_true',← Bool.not_eq_true,h]
    omega
  ·cases hk:di (s.getD i 0) with
   | false=>exact au rfl (aa (by simp only [l5,hk,Bool.false_and]; rfl))
   | true =>
    refine av (by simp) (ai (aV (by omega) (by omega)) ?_)
    have:=ih (i+1) (by omega)
    rw [Int.natCast_add,Int.natCast_one] at this
    simp only [l5,hk,Bool.true_and]
    exact this
theorem Cs (s:Bytes)(hs:s.length≤1000000000):Ev2 (λ n _=>jC n s) (·=pA s):=by
 simp only [jC]
 have l:=CP s hs s.length 0 (by omega)
 rw [tP] at l
 have hc:=jB s
 have hb:byt s 0=((s.getD 0 0).toNat:Int):=cO s 0
 have h48:(s.getD 0 0).toNat=48↔s.getD 0 0=48:=lA (by decide)
 cases ha:s.all di with
 | false =>
  rw [ha] at l hc
  refine gO false (bu l) (eqB ?_)
  rw [hc]; simp
 | true =>
  rw [ha] at l hc
  refine gZ () (bu l) (kY (·=pA s) ?_ (λ x hx=>aa hx))
  refine aA (λ h=>aa (eqB ?_)) (λ h0=>aA (λ h=>aa (eqB ?_)) (λ h=>ai ?_ (aa (eqB ?_))))
  ·rw [hc,h]; simp
  ·rw [hc]; simp [h]
  ·have:=List.length_pos_iff.2 h; omega
  ·rw [hb,hc,Bool.not_eq_true',decide_eq_false_iff_not]
   constructor
   ·intro q; exact ⟨h,rfl,.inl λ z=>q (by have:=h48.2 z; omega)⟩
   ·rintro ⟨_,_,q | q⟩
    ·intro z; exact q (h48.1 (by omega))
    ·intro z
     obtain ⟨b,hb1⟩:=List.length_eq_one_iff.1 q
     have h3:=h48.1 (by omega)
     rw [hb1] at h3
     exact h0 (by rw [hb1]; exact congrArg (λ x=>[x]) h3)
def uj (l:Bytes):Int×Int:=if pA l=true then (if l.length≤16∧fx 0 l≤9007199254740992 then ((fx 0 l:Int),0) else (0,5)) else (0,2)
theorem u9:∀ (l:Bytes) (a:Nat),l.all di=true→fx a l < (a+1)*10 ^ l.length
 | [],a,_=>by simp [mz]
 | b::r,a,h=>by
  have hb:=j6 h (b:=b) List.mem_cons_self
  have hr:r.all di=true:=by
   rw [List.all_eq_true] at h ⊢
   exact λ x hx=>h x (List.mem_cons_of_mem _ hx)
  have:=u9 r (a*10+(b.toNat - 48)) hr
  rw [oz,List.length_cons,Nat.pow_succ]
  have h2:a*10+(b.toNat - 48)+1≤(a+1)*10:=by omega
  have h3:=Nat.mul_le_mul_right (10 ^ r.length) h2
  have h4:(a+1)*10*10 ^ r.length=(a+1)*(10 ^ r.length*10):=by rw [Nat.mul_assoc,Nat.mul_comm 10]
  omega
theorem CO (s:Bytes)(hs:s.length≤16)(hd:s.all di=true):∀ (k i:Nat),i+k=s.length→Ev2 (λ _ m=>eG s m (fx 0 (s.take i):Int) (i:Int)) (·=(fx 0 s:Int)):=by
 intro k
 induction k with
 | zero =>
  intro i hi
  refine aS ?_
  simp only [eG]
  refine av (by omega) (aa ?_)
  rw [List.take_of_length_le (by omega)]
 | succ k ih =>
  intro i hi
  refine aS ?_
  simp only [eG]
  have hil:i < s.length:=by omega
  have hb:byt s i=((s.getD i 0).toNat:Int):=cO s i
  have hm:s.getD i 0∈s:=by
   rw [List.getD_eq_getElem?_getD,List.getElem?_eq_getElem hil,Option.getD_some]; exact List.getElem_mem hil
  have hdig:=j6 hd hm
  have ht:s.take (i+1)=s.take i++[s.getD i 0]:=by
   rw [List.take_add_one,List.getElem?_eq_getElem hil,List.getD_eq_getElem?_getD,List.getElem?_eq_getElem hil]; rfl
  have hall:(s.take i).all di=true:=by
   rw [List.all_eq_true] at hd ⊢
   exact λ x hx=>hd x (List.mem_of_mem_take hx)
  have hlt:=u9 (s.take i) 0 hall
  rw [List.length_take] at hlt
  have hp:10 ^ min i s.length≤10 ^ 15:=Nat.pow_le_pow_right (by decide) (by omega)
  have hp15:(10:Nat) ^ 15=1000000000000000:=rfl
  have:=ih (i+1) (by omega)
  rw [ht,qX] at this
  rw [hb]
  generalize s.getD i 0=b at hdig this
  generalize fx 0 (s.take i)=v at hlt this
  have hw:IntKind.wrap .u8 ((b.toNat:Int) - 48)=((b.toNat - 48:Nat):Int):=by rw [pH]; omega
  rw [hw]
  refine au (by omega) (ai (aV (by omega) (by omega)) (ai (by omega) (ai (aV (by omega) (by omega)) (ai (aV (by omega) (by omega)) (ai (aV (by omega) (by omega)) ?_)))))
  rw [show ((v*10+(b.toNat - 48):Nat):Int)=10*(v:Int)+((b.toNat - 48:Nat):Int) by omega,show ((i+1:Nat):Int)=(i:Int)+1 by omega] at this
  exact this
theorem B4 (s:Bytes)(hs:s.length≤1000000000)(hd:s.all di=true):Ev2 (λ n _=>ko n s) (·=uj s):=by
 simp only [ko]
 have hneg:¬ (0 < s.length∧byt s 0=45):=by
  rintro ⟨h1,h2⟩
  have hb:byt s 0=((s.getD 0 0).toNat:Int):=cO s 0
  have hm:s.getD 0 0∈s:=by
   rw [List.getD_eq_getElem?_getD,List.getElem?_eq_getElem h1,Option.getD_some]; exact List.getElem_mem h1
  have:=j6 hd hm
  omega
 refine ak false ?_ ?_
 ·refine aA (λ h=>ai (by omega) (aa ?_)) (λ h=>aa rfl)
  rw [decide_eq_false_iff_not]; intro q; exact hneg ⟨by omega,q⟩
 refine ak s (av (by simp) (aa rfl)) ?_
 unfold uj
 refine ak (!pA s) ?_ ?_
 ·refine ak _ (Cs s hs) ?_
  cases pA s with
  | false=>exact au rfl (aa rfl)
  | true=>exact av (by simp) (av (by simp) (aa rfl))
 cases hc:pA s with
 | false=>exact au rfl (aa (by simp))
 | true =>
  refine av (by simp) ?_
  rw [if_pos rfl]
  refine aA (λ h=>aa (by rw [if_neg (by omega)])) (λ h=>?_)
  have l:=CO s (by omega) hd s.length 0 (by omega)
  rw [List.take_zero,mz] at l
  have hlt:=u9 s 0 hd
  have hp:10 ^ s.length≤10 ^ 16:=Nat.pow_le_pow_right (by decide) (by omega)
  have hp16:(10:Nat) ^ 16=10000000000000000:=rfl
  refine ak _ (bu l) (ak _ (av (by simp) (aa rfl)) (ak (decide (fx 0 s≤9007199254740992)) ?_ ?_))
  ·simp only [lS]
   refine kY (·=decide (fx 0 s≤9007199254740992)) (au (by omega) (aa (eqB ?_))) (λ t ht=>aa ht)
   rw [decide_eq_true_eq,decide_eq_true_eq]; omega
  ·by_cases hv:fx 0 s≤9007199254740992
   ·exact av (by simp [hv]) (aa (by rw [if_pos ⟨by omega,hv⟩]))
   ·exact au (by simp [hv]) (aa (by rw [if_neg (λ q=>hv q.2)]))
theorem yZ {v:Int}(h0:0≤v)(h1:v≤iD):uj (itoa v)=(v,0):=by
 have hl:=qg h0 h1
 obtain ⟨u,rfl⟩:∃ u:Nat,v=u:=⟨v.toNat,by omega⟩
 have e:itoa (u:Int)=decDigits u:=by unfold itoa; rw [if_neg (by omega)]; simp
 rw [e] at hl ⊢
 have hd:=ve (u+1) u (by omega)
 unfold uj
 rw [if_pos ((jB _).2 ⟨hd.2.2.1,hd.2.1,hd.2.2.2.1⟩),hd.1,if_pos ⟨hl,by unfold iD at h1; omega⟩]
theorem zD {l:Bytes}{v:Int}(h:uj l=(v,0)):itoa v=l∧0≤v∧v≤iD:=by
 unfold uj at h
 split at h
 ·rename_i hc
  split at h
  ·rename_i hv
   cases h
   have hb:=(rq l.length l (Nat.le_refl _) hc).1
   refine ⟨?_,by omega,by unfold iD; omega⟩
   have e:itoa ((fx 0 l:Nat):Int)=decDigits (fx 0 l):=by unfold itoa; rw [if_neg (by omega)]; simp
   rw [e,hb]
  ·cases h
 ·cases h
theorem su (k:bJ)(hk:k.fStr.length≤1000000000):Ev2 (λ n _=>iZ n k) (·=cq k):=by
 simp only [iZ]
 unfold cq
 by_cases h1:k.fKind=1
 ·refine au h1 ?_
  rw [if_neg (show ¬ k.fKind=0 by omega),if_pos h1]
  refine kY (·=decide (0≤k.fNum∧k.fNum≤iD∧k.fStr=[])) ?_ (λ t ht=>aa ht)
  refine aA (λ h2=>aA (λ h3=>aa ?_) (λ h3=>aa ?_)) (λ h2=>aa ?_)
  ·simp [h2,iD,h3]
  ·symm; rw [decide_eq_false_iff_not]; intro q; exact h3 q.2.1
  ·symm; rw [decide_eq_false_iff_not]; intro q; exact h2 q.1
 ·refine av h1 ?_
  by_cases h2:k.fKind=2
  ·refine au h2 ?_
   rw [if_neg (show ¬ k.fKind=0 by omega),if_neg h1,if_pos h2]
   refine kY (·=(decide (k.fNum=0)&&(decide (k.fStr.length≤4096)&&validD k.fStr))) ?_ (λ t ht=>aa ht)
   refine aA (λ h3=>ak _ (yM _ hk) (aa (by simp [h3]))) (λ h3=>aa (by simp [h3]))
  ·refine av h2 (aa ?_)
   by_cases h0:k.fKind=0
   ·rw [if_pos h0]; simp [h0]
   ·rw [if_neg h0,if_neg h1,if_neg h2]; simp [h0]
def vi:List Bytes:=[[109,111,100,117,108,101],[100,97,116,97],[118,97,114],[108,111,99,97,108],[111,117,116,112,117,116],[101,97,99,104],[99,111,117,110,116],[114,101,109,111,116,101],[112,97,116,104],[115,101,108,102],[99,104,97,110,103,101]]
theorem DZ (s:Bytes):vi.contains s=eH s:=by
 unfold vi eH
 simp only [List.contains_cons,List.contains_nil,Bool.or_false]
 ac_rfl
theorem D3 (s:Bytes):∀ (k i:Nat),i+k=11→Ev2 (λ _ m=>cS s m (i:Int)) (·=if (vi.drop i).contains s=true then .inr true else .inl ()):=by
 intro k
 induction k with
 | zero =>
  intro i hi
  refine aS ?_
  simp only [cS]
  obtain rfl:i=11:=by omega
  exact av (by simp) (aa rfl)
 | succ k ih =>
  intro i hi
  refine aS ?_
  simp only [cS]
  have hlen:vi.length=11:=rfl
  have hil:i < vi.length:=by omega
  have:=ih (i+1) (by omega)
  rw [Int.natCast_add,Int.natCast_one] at this
  show Ev2 (λ _ m=>if (i:Int) < (vi.length:Int) then ck ((0:Int)≤i∧(i:Int) < (vi.length:Int)) <| if lat vi (i:Int)=s then some (Sum.inr true) else ck (inR ((i:Int)+1)) <| cS s m ((i:Int)+1) else some (Sum.inl ())) _
  refine au (by omega) (ai (by omega) ?_)
  rw [gV _ _ hil,List.drop_eq_getElem_cons hil,List.contains_cons]
  refine aA (λ h=>aa ?_) (λ h=>ai (aV (by omega) (by omega)) ?_)
  ·rw [h]; simp
  ·have hb:(s == vi[i])=false:=by simp; exact λ q=>h q.symm
   rw [hb,Bool.false_or]; exact this
theorem z8 (s:Bytes):Ev2 (λ n _=>f0 n s) (·=eH s):=by
 simp only [f0]
 have l:=D3 s 11 0 rfl
 rw [List.drop_zero,DZ] at l
 cases h:eH s with
 | true=>rw [h] at l; exact gO true (bu l) rfl
 | false=>rw [h] at l; exact gZ () (bu l) (aa rfl)
def Sk (a:ae):Prop:=a.fKey.fStr.length≤100000∧∀ x∈a.fModule,x.fKey.fStr.length≤100000
theorem zF (a:ae)(ha:Sm a)(hk:Sk a):∀ (k i:Nat),i+k=a.fModule.length→Ev2 (λ n m=>em n a m (i:Int)) (·=if iR (a.fModule.drop i)=0 then .inl () else .inr (iR (a.fModule.drop i))):=by
 intro k
 induction k with
 | zero =>
  intro i hi
  refine aS ?_
  simp only [em]
  refine av (by omega) (aa ?_)
  rw [List.drop_of_length_le (by omega)]; rfl
 | succ k ih =>
  intro i hi
  refine aS ?_
  simp only [em]
  have hil:i < a.fModule.length:=by omega
  refine au (by omega) (ai (by omega) ?_)
  rw [gV _ _ hil,List.drop_eq_getElem_cons hil]
  have hx:=ha.2.2.2 _ (List.getElem_mem hil)
  have hx2:=hk.2 _ (List.getElem_mem hil)
  have:=ih (i+1) (by omega)
  have hlen:=ha.1
  generalize a.fModule[i]=x at hx hx2 ⊢
  unfold iR
  refine ak _ (kU x.fName (by omega)) ?_
  cases h1:bO x.fName with
  | false=>exact au rfl (aa (by simp))
  | true =>
   refine av (by simp) (ai (by omega) (ak _ (su _ (by omega)) ?_))
   cases h2:cq x.fKey with
   | false=>exact au rfl (aa (by simp))
   | true =>
    refine av (by simp) (ai (aV (by omega) (by omega)) ?_)
    rw [Int.natCast_add,Int.natCast_one] at this
    simpa using this
theorem yS (a:ae)(ha:Sm a)(hk:Sk a):Ev2 (λ n _=>j7 n a) (·=m9 a):=by
 simp only [j7]
 unfold m9
 refine aA (λ h=>aa (by rw [if_pos (by omega)])) (λ h=>?_)
 rw [if_neg (show ¬ 16 < a.fModule.length by omega)]
 have l:=zF a ha hk a.fModule.length 0 (by omega)
 rw [List.drop_zero] at l
 by_cases he:iR a.fModule=0
 ·rw [if_pos he] at l
  rw [if_neg (by simp [he])]
  refine gZ () (bu l) ?_
  refine ak (decide (gS a.fType=false∨bO a.fName=false)) ?_ ?_
  ·refine ak _ (kU _ (by have:=ha.2.1; omega)) ?_
   unfold gS
   cases bO a.fType with
   | false=>exact au rfl (aa (by simp))
   | true =>
    refine av (by simp) (ak _ (z8 _) ?_)
    cases eH a.fType with
    | true=>exact au rfl (aa (by simp))
    | false =>
     refine av (by simp) (ak _ (kU _ (by have:=ha.2.2.1; omega)) (aa ?_))
     cases bO a.fName <;> simp
  ·refine aA (λ h=>aa (by rw [if_pos (of_decide_eq_true h)])) (λ h=>?_)
   rw [if_neg (λ q=>h (decide_eq_true q))]
   refine ak _ (su _ (by have:=hk.1; omega)) ?_
   cases cq a.fKey with
   | false=>exact au rfl (aa (by simp))
   | true=>exact av (by simp) (aa (by simp))
 ·rw [if_neg he] at l
  rw [if_pos he]
  exact gO _ (bu l) rfl
theorem wn (k:bJ)(hk:k.fStr.length≤1000000000):Ev2 (λ n _=>fC n k) (·=aK k):=by
 simp only [fC]
 unfold aK
 refine ak (decide (cq k=false∨k.fKind=0)) ?_ ?_
 ·refine ak _ (su _ hk) ?_
  cases cq k with
  | false=>exact au rfl (aa (by simp))
  | true=>exact av (by simp) (aa (by simp))
 ·refine aA (λ h=>aa (by rw [if_pos (of_decide_eq_true h)])) (λ h=>?_)
  have h:=λ q=>h (decide_eq_true q)
  rw [if_neg h]
  have hko:cq k=true:=by
   cases hh:cq k with
   | true=>rfl
   | false=>exact absurd (.inl hh) h
  refine aA (λ h1=>?_) (λ h1=>?_)
  ·rw [if_pos h1]
   have hn:=mc hko h1
   have hl:=qg hn.1 hn.2.1
   refine ak _ (AW hn.1 hn.2.1) (ai (by simp only [List.length_cons,List.length_nil]; omega) (ai (by simp only [List.length_append,List.length_cons,List.length_nil]; omega) (aa rfl)))
  ·rw [if_neg h1]
   have h2:k.fKind=2:=by
    rcases kb hko with q | q | q
    ·exact absurd (.inr q) h
    ·exact absurd q h1
    ·exact q
   have hs:=mh hko h2
   have hl:=qM k.fStr
   refine ak _ (uB _ (by omega)) (ai (by simp only [List.length_cons,List.length_nil]; omega) (ai (by simp only [List.length_append,List.length_cons,List.length_nil]; omega) (aa rfl)))
theorem zk (l:List ab)(hm:l.length≤16)(ha:∀ x∈l,bO x.fName=true)(hk:∀ x∈l,x.fKey.fStr.length≤100000):∀ (k i:Nat) (f:Bytes),i+k=l.length→f.length≤25000*i→Ev2 (λ n m=>ey n l m f (i:Int)) (·=f++(l.drop i).flatMap bC):=by
 intro k
 induction k with
 | zero =>
  intro i f hi hf
  refine aS ?_
  simp only [ey]
  refine av (by omega) (aa ?_)
  rw [List.drop_of_length_le (by omega)]; simp
 | succ k ih =>
  intro i f hi hf
  refine aS ?_
  simp only [ey]
  have hil:i < l.length:=by omega
  refine au (by omega) (ai (by simp only [List.length_cons,List.length_nil]; omega) (ai (by omega) ?_))
  rw [gV _ _ hil,List.drop_eq_getElem_cons hil]
  have hx:=ha _ (List.getElem_mem hil)
  have hx2:=hk _ (List.getElem_mem hil)
  generalize l[i]=x at hx hx2 ⊢
  have h1:=d9 hx
  have h2:=j9 x.fKey
  have h3:=m7 hx
  refine ai (by simp only [List.length_append,List.length_cons,List.length_nil]; omega) (ai (by omega) (ak _ (wn x.fKey (by omega)) ?_))
  refine ai (by simp only [List.length_append,List.length_cons,List.length_nil]; omega) (ai (by simp only [List.length_append,List.length_cons,List.length_nil]; omega) (ai (aV (by omega) (by omega)) ?_))
  have e:(((f++([109,111,100,117,108,101,46]:Bytes))++x.fName)++aK x.fKey)++([46]:Bytes)=f++bC x:=by simp [bC,iC]
  rw [e]
  have:=ih (i+1) (f++bC x) (by omega) (by rw [List.length_append]; omega)
  rw [Int.natCast_add,Int.natCast_one] at this
  simpa using this
theorem wv (a:ae)(ha:Sm a)(hk:Sk a):Ev2 (λ n _=>jx n a) (·=mM a):=by
 simp only [jx,lR]
 unfold mM
 refine ak _ (yS a ha hk) (aA (λ h=>?_) (λ h=>aa (by rw [if_neg h])))
 rw [if_pos h]
 obtain ⟨c1,c2,c3,c4,c5⟩:=(lK a).1 h
 have l:=zk a.fModule c1 (λ x hx=>(c2 x hx).1) hk.2 a.fModule.length 0 [] (by omega) (by simp)
 have hl:=q8 a.fModule (λ x hx=>(c2 x hx).1)
 rw [List.drop_zero,List.nil_append] at l
 refine ak _ (ak _ (bu l) (aa rfl)) ?_
 unfold ga
 generalize a.fModule.flatMap bC=st at hl ⊢
 have h1:=d9 ((jU _).1 c3).2
 have h2:=d9 c4
 have h3:=j9 a.fKey
 have hd:(if a.fData=true then bv else ([]:Bytes)).length≤5:=by split <;> simp [bv]
 refine ak (st++(if a.fData=true then bv else [])) ?_ ?_
 ·refine aA (λ h=>?_) (λ h=>aa (by rw [if_neg h]; simp))
  rw [if_pos h]
  exact ai (by simp only [List.length_cons,List.length_nil]; omega) (aa (by simp [bv]))
 ·refine ai (by simp only [List.length_append]; omega) (ai (by simp only [List.length_append,List.length_cons,List.length_nil]; omega) (ai (by simp only [List.length_append,List.length_cons,List.length_nil]; omega) (ak _ (wn a.fKey (by have:=hk.1; omega)) (ai (by simp only [List.length_append,List.length_cons,List.length_nil]; omega) (aa ?_)))))
  simp
end Go.Ab.R06
end
section
namespace Go.Ab.R06
open Go.Proofs Go.Ab Go.Ab.RB
attribute [local irreducible] awp d8 aP aw bH AV.sub M dD
abbrev mC:List AV:=[.p (.val (.slice none 0 0)),.p (eB false),.p (eS ([]:Bytes)),.p (eS ([]:Bytes)),.p (eI 0),.p (eI 0),.p (eS ([]:Bytes)),.p (eB false)]
abbrev li:List AV:=[.p (.val (.slice none 0 0)),.p (eB false),.p (eS ([]:Bytes)),.p (eS ([]:Bytes)),.p (eI 0),.p (eI 0),.p (eS ([]:Bytes))]
abbrev qa:List AV:=[.p (eS ([]:Bytes)),.p (eI 0),.p (eI 0),.p (eS ([]:Bytes))]
abbrev hC:List AV:=[.p (eI 0),.p (eI 0),.p (eS ([]:Bytes))]
def ig (s_0:Bytes)(p_1:Bytes):Option Bool :=
 (
   if (p_1.length:Int)≤(s_0.length:Int) then
    ck ((0:Int)≤0∧0≤(p_1.length:Int)∧(p_1.length:Int)≤(s_0.length:Int)) <|
    some (decide (sub s_0 0 (p_1.length:Int)=p_1))
   else
    some false
  : Option Bool).bind λ t3 =>
 some t3
theorem nn (s_0:Bytes)(p_1:Bytes)(r:Bool)(h0:ig s_0 p_1=some r):aw Tryz.prog 102 [eS s_0,eS p_1] (·=.p (eB r)):=by
 unfold ig at h0
 refine a6 good Tryz.func102 rfl rfl rfl λ w0=>mP (λ v:Bool=>.p (eB v)) ?_
 refine nx 5 rfl (bd h0 λ o5 h1 h0=>?_)
 refine kN o5 (λ v6=>⟨[(4,.p (eB v6))],[]⟩) ?_ ?_
 ·exact nx 2 rfl (mQ (oi h0) rfl (sr))
 refine nx 2 rfl (oLs rfl (nx 1 rfl (oLs rfl (nx 2 rfl (fD [9,10] h1 rfl (λ c1 h1=>?_) λ c1 h1=>?_)))))
 ·exact nx 2 rfl (oLs rfl (oP h1 rfl rfl rfl λ hk2 h1=>nx 1 rfl (oS rfl rfl (nx 3 rfl (eX _ (oi h1).symm (gE rfl rfl))))))
 exact nx 9 rfl (eX _ (oi h1).symm (gE rfl rfl))
def fc (s_0:Bytes):Nat→Int→Option Int
 | 0,_=>none
 | m+1,n13 =>
 (
   if n13 < (s_0.length:Int) then
    ck ((0:Int)≤n13∧n13 < (s_0.length:Int)) <|
    (gz (byt s_0 n13)).bind λ r16 =>
    if r16=true then
     some true
    else
     ck ((0:Int)≤n13∧n13 < (s_0.length:Int)) <|
     if 48≤byt s_0 n13 then
      ck ((0:Int)≤n13∧n13 < (s_0.length:Int)) <|
      some (decide (byt s_0 n13≤57))
     else
      some false
   else
    some false
  : Option Bool).bind λ t22 =>
 if t22=true then
  ck (inR (n13+1)) <|
  fc s_0 m (n13+1)
 else
  some n13
def iT (n:Nat)(s_0:Bytes):Option (Bytes×Bytes) :=
 (fc s_0 n 0).bind λ n26 =>
 ck ((0:Int)≤0∧0≤n26∧n26≤(s_0.length:Int)) <|
 ck ((0:Int)≤n26∧n26≤(s_0.length:Int)∧(s_0.length:Int)≤(s_0.length:Int)) <|
 some (sub s_0 0 n26,sub s_0 n26 (s_0.length:Int))
theorem lY (n:Nat)(s_0:Bytes)(r:Bytes×Bytes)(h0:iT n s_0=some r):aw Tryz.prog 104 [eS s_0] (·=.tuple [.p (eS r.1),.p (eS r.2)]):=by
 unfold iT at h0
 refine a6 good Tryz.func104 rfl rfl rfl λ w0=>mP (λ v:Bytes×Bytes=>.tuple [.p (eS v.1),.p (eS v.2)]) ?_
 refine nx 11 rfl (bd h0 λ o31 h1 h0=>?_)
 refine kE 0 o31 (λ v32=>⟨[(0,.p (eS s_0)),(4,.p (eI v32))],[]⟩) ?_ ?_
 ·refine nx 2 rfl (cc' h0 λ hk27 h0=>cc' h0 λ hk28 h0=>mD [(0,.p (eS s_0)),(4,.p (eI o31))] rfl ⟨rfl,rfl,trivial⟩ rfl (dR 2 rfl (dq (.p (eS (sub s_0 0 o31))) [29,30] rfl (λ _ e _ q=>ay rfl (gI (a:=s_0) (l:=0) (h:=o31) rfl rfl rfl rfl rfl (e _ _ rfl) rfl (pT (e _ _ rfl)) hk27 q)) rfl (dR 2 rfl (dq (.p (eS (sub s_0 o31 (s_0.length:Int)))) [32,33] rfl (λ _ e _ q=>ay rfl (gI (a:=s_0) (l:=o31) (h:=(s_0.length:Int)) rfl rfl rfl rfl rfl (e _ _ rfl) (pJ (e _ _ rfl)) rfl hk28 q)) rfl (dR 2 rfl ?_))))))
  refine dE rfl (nx 2 rfl ?_)
  exact mQ (oi h0) rfl (ar ⟨sr,sr,trivial⟩)
 refine lG (λ (q33:Int)=>⟨[(0,.p (eS s_0)),(4,.p (eI q33))],[]⟩) (λ m (q33:Int)=>fc s_0 m q33) (λ _=>rfl) 0 h1 (gE rfl rfl) ?_
 rintro m n13 h1
 replace h1:fc s_0 (m+1) n13=some o31:=h1
 rw [fc] at h1
 refine nx 2 rfl (bd h1 λ o34 h2 h1=>?_)
 refine kN o34 (λ v35=>⟨[(0,.p (eS s_0)),(4,.p (eI n13)),(26,.p (eB v35))],[]⟩) ?_ ?_
 ·refine nx 1 rfl (fB [26] h1 rfl (λ c23 h1=>?_) λ c23 h1=>?_)
  ·exact nx 5 rfl (oA h1 rfl rfl λ hk24 h1=>nx 2 rfl (eX (n13+1) h1 (gE rfl rfl)))
  exact nx 2 rfl (eXi _ (oi h1).symm (gE rfl rfl))
 refine nx 3 rfl (oLs rfl (nx 2 rfl (fD [8,9] h2 rfl (λ c14 h2=>?_) λ c14 h2=>?_)))
 ·refine nx 2 rfl (oI h2 rfl λ hk15 h2=>bd h2 λ r16 e17 h2=>oK (kC (byt s_0 n13) _ e17) rfl ⟨sr,trivial⟩ Tryz.call129 rfl (nx 1 rfl ?_))
  refine fB [13,14] h2 rfl (λ c18 h2=>?_) λ c18 h2=>?_
  ·exact nx 13 rfl (eX _ (oi h2).symm (gE rfl rfl))
  refine nx 2 rfl (oI h2 rfl λ hk19 h2=>nx 2 rfl (fD [18,19] h2 rfl (λ c20 h2=>?_) λ c20 h2=>?_))
  ·exact nx 2 rfl (oI h2 rfl λ hk21 h2=>nx 5 rfl (eX _ (oi h2).symm (gE rfl rfl)))
  exact nx 8 rfl (eX _ (oi h2).symm (gE rfl rfl))
 exact nx 18 rfl (eX _ (oi h2).symm (gE rfl rfl))
def fG (s_0:Bytes):Nat→Int→Option Int
 | 0,_=>none
 | m+1,n37 =>
 (
   if n37 < (s_0.length:Int) then
    ck ((0:Int)≤n37∧n37 < (s_0.length:Int)) <|
    if 48≤byt s_0 n37 then
     ck ((0:Int)≤n37∧n37 < (s_0.length:Int)) <|
     some (decide (byt s_0 n37≤57))
    else
     some false
   else
    some false
  : Option Bool).bind λ t42 =>
 if t42=true then
  ck (inR (n37+1)) <|
  fG s_0 m (n37+1)
 else
  some n37
def kW (n:Nat)(s_0:Bytes):Option (bJ×Bytes×Bool) :=
 (
   if s_0=([]:Bytes) then
    some true
   else
    ck ((0:Int)≤0∧0 < (s_0.length:Int)) <|
    some (!decide (byt s_0 0=91))
  : Option Bool).bind λ t3 =>
 if t3=true then
  some ((bJ.mk 0 0 ([]:Bytes)),s_0,true)
 else
  (
    if 1 < (s_0.length:Int) then
     ck ((0:Int)≤1∧1 < (s_0.length:Int)) <|
     some (decide (byt s_0 1=34))
    else
     some false
   : Option Bool).bind λ t7 =>
  if t7=true then
   ck ((0:Int)≤1∧1≤(s_0.length:Int)∧(s_0.length:Int)≤(s_0.length:Int)) <|
   (iB n (sub s_0 1 (s_0.length:Int))).bind λ r10 =>
   (
     if r10.2.2=0 then
      ck (inR (r10.2.1+1)) <|
      if (s_0.length:Int)≤r10.2.1+1 then
       some true
      else
       ck (inR (r10.2.1+1)) <|
       ck ((0:Int)≤r10.2.1+1∧r10.2.1+1 < (s_0.length:Int)) <|
       if byt s_0 (r10.2.1+1)=93 then
        ck (inR (r10.2.1+1)) <|
        ck ((0:Int)≤1∧1≤r10.2.1+1∧r10.2.1+1≤(s_0.length:Int)) <|
        (jg n r10.1).bind λ r20 =>
        if sub s_0 1 (r10.2.1+1)=r20 then
         (iZ n (bJ.mk 2 0 r10.1)).bind λ r23 =>
         some (!r23)
        else
         some true
       else
        some true
     else
      some true
    : Option Bool).bind λ t25 =>
   if t25=true then
    some ((bJ.mk 0 0 ([]:Bytes)),([]:Bytes),false)
   else
    ck (inR (r10.2.1+2)) <|
    ck ((0:Int)≤r10.2.1+2∧r10.2.1+2≤(s_0.length:Int)∧(s_0.length:Int)≤(s_0.length:Int)) <|
    some ((bJ.mk 2 0 r10.1),sub s_0 (r10.2.1+2) (s_0.length:Int),true)
  else
   (fG s_0 n 1).bind λ n46 =>
   ck ((0:Int)≤1∧1≤n46∧n46≤(s_0.length:Int)) <|
   (ko n (sub s_0 1 n46)).bind λ r48 =>
   (
     if r48.2=0 then
      if (s_0.length:Int)≤n46 then
       some true
      else
       ck ((0:Int)≤n46∧n46 < (s_0.length:Int)) <|
       some (!decide (byt s_0 n46=93))
     else
      some true
    : Option Bool).bind λ t53 =>
   if t53=true then
    some ((bJ.mk 0 0 ([]:Bytes)),([]:Bytes),false)
   else
    ck (inR (n46+1)) <|
    ck ((0:Int)≤n46+1∧n46+1≤(s_0.length:Int)∧(s_0.length:Int)≤(s_0.length:Int)) <|
    some ((bJ.mk 1 r48.1 ([]:Bytes)),sub s_0 (n46+1) (s_0.length:Int),true)
theorem p7 (n:Nat)(s_0:Bytes)(r:bJ×Bytes×Bool)(h0:kW n s_0=some r):aw Tryz.prog 107 [eS s_0] (·=.tuple [.p (.agg (bJ.cs r.1)),.p (eS r.2.1),.p (eB r.2.2)]):=by
 unfold kW at h0
 refine a6 good Tryz.func107 rfl rfl rfl λ w0=>mP (λ v:bJ×Bytes×Bool=>.tuple [.p (.agg (bJ.cs v.1)),.p (eS v.2.1),.p (eB v.2.2)]) ?_
 refine nx 8 rfl (bd h0 λ o63 h1 h0=>?_)
 refine kN o63 (λ v64=>⟨[(0,.p (eS s_0)),(2,.ptr 2 0),(18,.p (eB v64))],[(2,hC)]⟩) ?_ ?_
 ·refine nx 1 rfl (fB [18] h0 rfl (λ c4 h0=>?_) λ c4 h0=>?_)
  ·exact nx 10 rfl (mQ (oi h0) rfl (ar ⟨sr,sr,sr,trivial⟩))
  refine nx 4 rfl (bd h0 λ o65 h1 h0=>?_)
  refine kN o65 (λ v66=>⟨[(0,.p (eS s_0)),(2,.ptr 2 0),(28,.p (eB v66))],[(2,hC)]⟩) ?_ ?_
  ·refine nx 1 rfl (fB [28] h0 rfl (λ c8 h0=>?_) λ c8 h0=>?_)
   ·refine nx 4 rfl (oP h0 rfl rfl rfl λ hk9 h0=>bd h0 λ r10 e11 h0=>oK (qA _ (sub s_0 1 (s_0.length:Int)) _ e11) rfl ⟨sr,trivial⟩ Tryz.call130 rfl (nx 17 rfl (bd h0 λ o67 h1 h0=>kN o67 (λ v68=>⟨[(0,.p (eS s_0)),(2,.ptr 2 0),(6,.p (eI r10.2.1)),(8,.ptr 8 0),(67,.p (eB v68))],[(2,hC),(8,[.p (eI 2),.p (eI 0),.p (eS r10.1)])]⟩) ?_ ?_)))
    ·refine nx 1 rfl (fB [67] h0 rfl (λ c26 h0=>?_) λ c26 h0=>?_)
     ·exact nx 9 rfl (mQ (oi h0) rfl (ar ⟨sr,sr,sr,trivial⟩))
     refine nx 3 rfl (cc' h0 λ hk27 h0=>cc' h0 λ hk28 h0=>mG (gE (t:=⟨[(0,.p (eS s_0)),(2,.ptr 2 0),(6,.p (eI r10.2.1)),(8,.ptr 8 0)],[(2,hC),(8,[.p (eI 2),.p (eI 0),.p (eS r10.1)])]⟩) rfl rfl) (mSq ⟨1,[5],(λ _=>.none),(λ _=>[(0,.p (eS s_0)),(2,.ptr 2 0),(6,.p (eI r10.2.1)),(8,.ptr 8 0)]),(ob2 ([(2,hC),(8,[.p (eI 2),.p (eI 0),.p (eS r10.1)])]) (2,[.p (eI 2),.p (eI 0),.p (eS r10.1)]))⟩ rfl (dPc (.p (.agg [eI 2,eI 0,eS r10.1])) rfl (dPc (.p (eS s_0)) rfl (dPc (.p (eI r10.2.1)) rfl (bs (λ _=>.p (eI (r10.2.1+2))) rfl rfl rfl (gP rfl (λ _=>rfl)) (lt1 rfl) (aT [(71,_)] ⟨.inr ⟨2,_,rfl,rfl,rfl⟩,trivial⟩ (λ sl hsl K hK=>ay rfl (d4 rfl rfl rfl (hsl _ _ rfl) rfl rfl hk27 hK)) (aT [(71,_)] ⟨.inr ⟨2,_,rfl,rfl,rfl⟩,trivial⟩ (λ sl hsl K hK=>ay rfl (d4 rfl rfl rfl (hsl _ _ rfl) rfl rfl hk27 hK)) bp)) ?_))))))
     refine bs (λ _=>.p (eS (sub s_0 (r10.2.1+2) (s_0.length:Int)))) rfl rfl rfl (gP rfl (λ _=>rfl)) (lt1 rfl) (aT [(70,_),(72,_)] ⟨.inr ⟨1,_,rfl,rfl,rfl⟩,.inr ⟨3,_,rfl,rfl,rfl⟩,trivial⟩ (λ sl hsl K hK=>ay rfl (gI (a:=s_0) (l:=r10.2.1+2) (h:=(s_0.length:Int)) rfl rfl rfl rfl rfl (hsl _ _ rfl) (pJ (hsl _ _ rfl)) rfl hk28 hK)) (aT [(70,_),(72,_)] ⟨.inr ⟨1,_,rfl,rfl,rfl⟩,.inr ⟨3,_,rfl,rfl,rfl⟩,trivial⟩ (λ sl hsl K hK=>ay rfl (gI (a:=s_0) (l:=r10.2.1+2) (h:=(s_0.length:Int)) rfl rfl rfl rfl rfl (hsl _ _ rfl) (pJ (hsl _ _ rfl)) rfl hk28 hK)) bp)) (dS rfl ?_)
     refine dPc (.p (eS (sub s_0 (r10.2.1+2) (s_0.length:Int)))) rfl (dPc (.p (eB true)) rfl ?_)
     refine iq (nx 2 rfl ?_)
     exact mQ (oi h0) rfl (ar ⟨sr,sr,sr,trivial⟩)
    refine fN (p:=r10.2.2=0) [] h1 rfl (λ c12 h1=>?_) λ c12 h1=>?_
    ·refine cc' h1 λ hk13 h1=>fD (p:=(s_0.length:Int)≤r10.2.1+1) [] h1 rfl (λ c14 h1=>?_) λ c14 h1=>?_
     ·exact mD [(0,.p (eS s_0)),(2,.ptr 2 0),(5,.p (eS r10.1)),(6,.p (eI r10.2.1)),(7,.p (eI r10.2.2)),(8,.ptr 8 0)] rfl ⟨rfl,rfl,rfl,rfl,rfl,rfl,trivial⟩ rfl (dR 1 rfl (dL (aE c12) rfl (dR 2 rfl (dq (.p (eI (r10.2.1+1))) [40,41] rfl (λ _ e _ q=>cm (d4 rfl rfl rfl (e _ _ rfl) rfl rfl hk13 q) rfl rfl (e _ _ rfl) (rfl)) rfl (dR 1 rfl (dq (.p (eI (s_0.length:Int))) [40,43] rfl (λ _ e _ q=>cm (d6 rfl rfl rfl rfl rfl (e _ _ rfl) q) rfl rfl (e _ _ rfl) (rfl)) rfl (dL (dt c14) rfl (dR 22 rfl (dE rfl (nx 1 rfl (eX _ (oi h1).symm (gE rfl rfl))))))))))))
     refine cc' h1 λ hk15 h1=>cc' h1 λ hk16 h1=>fN (p:=byt s_0 (r10.2.1+1)=93) [] h1 rfl (λ c17 h1=>?_) λ c17 h1=>?_
     ·refine cc' h1 λ hk18 h1=>cc' h1 λ hk19 h1=>bd h1 λ r20 e21 h1=>fN (p:=sub s_0 1 (r10.2.1+1)=r20) [] h1 rfl (λ c22 h1=>?_) λ c22 h1=>?_
      ·refine bd h1 λ r23 e24 h1=>mD [(0,.p (eS s_0)),(2,.ptr 2 0),(5,.p (eS r10.1)),(6,.p (eI r10.2.1)),(7,.p (eI r10.2.2)),(8,.ptr 8 0)] rfl ⟨rfl,rfl,rfl,rfl,rfl,rfl,trivial⟩ rfl (dR 1 rfl (dL (aE c12) rfl (dR 2 rfl (dq (.p (eI (r10.2.1+1))) [40,41] rfl (λ _ e _ q=>cm (d4 rfl rfl rfl (e _ _ rfl) rfl rfl hk13 q) rfl rfl (e _ _ rfl) (rfl)) rfl (dR 1 rfl (dq (.p (eI (s_0.length:Int))) [40,43] rfl (λ _ e _ q=>cm (d6 rfl rfl rfl rfl rfl (e _ _ rfl) q) rfl rfl (e _ _ rfl) (rfl)) rfl (dL (df c14) rfl (dR 4 rfl (dq (.p (eI (r10.2.1+1))) [47,49] rfl (λ _ e _ q=>cm (d4 rfl rfl rfl (e _ _ rfl) rfl rfl hk15 q) rfl rfl (e _ _ rfl) (rfl)) rfl (dq (.p (eK .u8 (byt s_0 (r10.2.1+1)))) [47,48,50] rfl (λ _ e _ q=>cm (ib rfl rfl rfl rfl rfl (e _ _ rfl) (e _ _ rfl) hk16 q) rfl rfl (e _ _ rfl) (rfl)) rfl (dL (aE c17) rfl (dR 4 rfl (dq (.p (eI (r10.2.1+1))) [54,56] rfl (λ _ e _ q=>cm (d4 rfl rfl rfl (e _ _ rfl) rfl rfl hk18 q) rfl rfl (e _ _ rfl) (rfl)) rfl ?_)))))))))))))
       refine dq (.p (eS (sub s_0 1 (r10.2.1+1)))) [54,55,57] rfl (λ _ e _ q=>cm (gI (a:=s_0) (l:=1) (h:=r10.2.1+1) rfl rfl rfl rfl rfl (e _ _ rfl) rfl (pT (e _ _ rfl)) hk19 q) rfl rfl (e _ _ rfl) (rfl)) rfl (dR 1 rfl (dq (.p (eS r20)) [54,59] rfl (λ _ e _ q=>cm (b6 (lk _ r10.1 _ e21) rfl rfl rfl (aX (e _ _ rfl) b5) ⟨sr,trivial⟩ Tryz.call110 rfl q) rfl rfl (e _ _ rfl) (rfl)) rfl (dq (.p (eB (!decide (sub s_0 1 (r10.2.1+1)=r20)))) [54,58,60] rfl (λ _ e _ q=>cm (eh rfl rfl rfl (e _ _ rfl) (e _ _ rfl) rfl q) rfl rfl (e _ _ rfl) (rfl)) rfl (dL (aE c22) rfl (dR 2 rfl (dq (.p (eB r23)) [63,64] rfl (λ _ e _ q=>cm (b6 (kM _ (bJ.mk 2 0 r10.1) _ e24) rfl rfl rfl (aX (e _ _ rfl) b5) ⟨sr,trivial⟩ Tryz.call108 rfl q) rfl rfl (e _ _ rfl) (rfl)) rfl (dR 2 rfl ?_)))))))
       refine dE rfl (nx 1 rfl ?_)
       exact eX _ (oi h1).symm (gE rfl rfl)
      refine mD [(0,.p (eS s_0)),(2,.ptr 2 0),(5,.p (eS r10.1)),(6,.p (eI r10.2.1)),(7,.p (eI r10.2.2)),(8,.ptr 8 0)] rfl ⟨rfl,rfl,rfl,rfl,rfl,rfl,trivial⟩ rfl (dR 1 rfl (dL (aE c12) rfl (dR 2 rfl (dq (.p (eI (r10.2.1+1))) [40,41] rfl (λ _ e _ q=>cm (d4 rfl rfl rfl (e _ _ rfl) rfl rfl hk13 q) rfl rfl (e _ _ rfl) (rfl)) rfl (dR 1 rfl (dq (.p (eI (s_0.length:Int))) [40,43] rfl (λ _ e _ q=>cm (d6 rfl rfl rfl rfl rfl (e _ _ rfl) q) rfl rfl (e _ _ rfl) (rfl)) rfl (dL (df c14) rfl (dR 4 rfl (dq (.p (eI (r10.2.1+1))) [47,49] rfl (λ _ e _ q=>cm (d4 rfl rfl rfl (e _ _ rfl) rfl rfl hk15 q) rfl rfl (e _ _ rfl) (rfl)) rfl (dq (.p (eK .u8 (byt s_0 (r10.2.1+1)))) [47,48,50] rfl (λ _ e _ q=>cm (ib rfl rfl rfl rfl rfl (e _ _ rfl) (e _ _ rfl) hk16 q) rfl rfl (e _ _ rfl) (rfl)) rfl (dL (aE c17) rfl (dR 4 rfl (dq (.p (eI (r10.2.1+1))) [54,56] rfl (λ _ e _ q=>cm (d4 rfl rfl rfl (e _ _ rfl) rfl rfl hk18 q) rfl rfl (e _ _ rfl) (rfl)) rfl ?_)))))))))))))
      refine dq (.p (eS (sub s_0 1 (r10.2.1+1)))) [54,55,57] rfl (λ _ e _ q=>cm (gI (a:=s_0) (l:=1) (h:=r10.2.1+1) rfl rfl rfl rfl rfl (e _ _ rfl) rfl (pT (e _ _ rfl)) hk19 q) rfl rfl (e _ _ rfl) (rfl)) rfl (dR 1 rfl (dq (.p (eS r20)) [54,59] rfl (λ _ e _ q=>cm (b6 (lk _ r10.1 _ e21) rfl rfl rfl (aX (e _ _ rfl) b5) ⟨sr,trivial⟩ Tryz.call110 rfl q) rfl rfl (e _ _ rfl) (rfl)) rfl (dq (.p (eB (!decide (sub s_0 1 (r10.2.1+1)=r20)))) [54,58,60] rfl (λ _ e _ q=>cm (eh rfl rfl rfl (e _ _ rfl) (e _ _ rfl) rfl q) rfl rfl (e _ _ rfl) (rfl)) rfl (dL (aN c22) rfl (dR 5 rfl ?_)))))
      refine dE rfl (nx 1 rfl ?_)
      exact eX _ (oi h1).symm (gE rfl rfl)
     refine mD [(0,.p (eS s_0)),(2,.ptr 2 0),(5,.p (eS r10.1)),(6,.p (eI r10.2.1)),(7,.p (eI r10.2.2)),(8,.ptr 8 0)] rfl ⟨rfl,rfl,rfl,rfl,rfl,rfl,trivial⟩ rfl (dR 1 rfl (dL (aE c12) rfl (dR 2 rfl (dq (.p (eI (r10.2.1+1))) [40,41] rfl (λ _ e _ q=>cm (d4 rfl rfl rfl (e _ _ rfl) rfl rfl hk13 q) rfl rfl (e _ _ rfl) (rfl)) rfl (dR 1 rfl (dq (.p (eI (s_0.length:Int))) [40,43] rfl (λ _ e _ q=>cm (d6 rfl rfl rfl rfl rfl (e _ _ rfl) q) rfl rfl (e _ _ rfl) (rfl)) rfl (dL (df c14) rfl (dR 4 rfl (dq (.p (eI (r10.2.1+1))) [47,49] rfl (λ _ e _ q=>cm (d4 rfl rfl rfl (e _ _ rfl) rfl rfl hk15 q) rfl rfl (e _ _ rfl) (rfl)) rfl (dq (.p (eK .u8 (byt s_0 (r10.2.1+1)))) [47,48,50] rfl (λ _ e _ q=>cm (ib rfl rfl rfl rfl rfl (e _ _ rfl) (e _ _ rfl) hk16 q) rfl rfl (e _ _ rfl) (rfl)) rfl (dL (aN c17) rfl (dR 15 rfl (dE rfl ?_)))))))))))))
     exact nx 1 rfl (eX _ (oi h1).symm (gE rfl rfl))
    refine mD [(0,.p (eS s_0)),(2,.ptr 2 0),(5,.p (eS r10.1)),(6,.p (eI r10.2.1)),(7,.p (eI r10.2.2)),(8,.ptr 8 0)] rfl ⟨rfl,rfl,rfl,rfl,rfl,rfl,trivial⟩ rfl (dR 1 rfl (dL (aN c12) rfl (dR 28 rfl ?_)))
    refine dE rfl (nx 1 rfl ?_)
    exact eX _ (oi h1).symm (gE rfl rfl)
   refine nx 8 rfl (bd h0 λ o69 h1 h0=>?_)
   refine kE 0 o69 (λ v70=>⟨[(0,.p (eS s_0)),(2,.ptr 2 0),(9,.p (eI v70))],[(2,hC)]⟩) ?_ ?_
   ·refine nx 5 rfl (oP h0 rfl rfl rfl λ hk47 h0=>bd h0 λ r48 e49 h0=>oK (t1 _ (sub s_0 1 o69) _ e49) rfl ⟨sr,trivial⟩ Tryz.call131 rfl (nx 8 rfl (bd h0 λ o71 h1 h0=>kN o71 (λ v72=>⟨[(0,.p (eS s_0)),(2,.ptr 2 0),(9,.p (eI o69)),(10,.p (eI r48.1)),(112,.p (eB v72))],[(2,hC)]⟩) ?_ ?_)))
    ·refine nx 1 rfl (fB [112] h0 rfl (λ c54 h0=>?_) λ c54 h0=>?_)
     ·exact nx 9 rfl (mQ (oi h0) rfl (ar ⟨sr,sr,sr,trivial⟩))
     refine nx 3 rfl (cc' h0 λ hk55 h0=>cc' h0 λ hk56 h0=>mG (gE (t:=⟨[(0,.p (eS s_0)),(2,.ptr 2 0),(9,.p (eI o69)),(10,.p (eI r48.1))],[(2,hC)]⟩) rfl rfl) (mSq ⟨1,[6],(λ _=>.none),(λ _=>[(0,.p (eS s_0)),(2,.ptr 2 0),(9,.p (eI o69)),(10,.p (eI r48.1))]),(ob2 ([(2,hC)]) (2,[.p (eI 1),.p (eI r48.1),.p (eS ([]:Bytes))]))⟩ rfl (dPc (.p (eI r48.1)) rfl (dPc (.p (.agg [eI 1,eI r48.1,eS ([]:Bytes)])) rfl (dPc (.p (eS s_0)) rfl (dPc (.p (eI o69)) rfl ?_))))))
     refine bs (λ _=>.p (eI (o69+1))) rfl rfl rfl (gP rfl (λ _=>rfl)) (lt1 rfl) (aT [(117,_)] ⟨.inr ⟨3,_,rfl,rfl,rfl⟩,trivial⟩ (λ sl hsl K hK=>ay rfl (d4 rfl rfl rfl (hsl _ _ rfl) rfl rfl hk55 hK)) (aT [(117,_)] ⟨.inr ⟨3,_,rfl,rfl,rfl⟩,trivial⟩ (λ sl hsl K hK=>ay rfl (d4 rfl rfl rfl (hsl _ _ rfl) rfl rfl hk55 hK)) bp)) (bs (λ _=>.p (eS (sub s_0 (o69+1) (s_0.length:Int)))) rfl rfl rfl (gP rfl (λ _=>rfl)) (lt1 rfl) (aT [(116,_),(118,_)] ⟨.inr ⟨2,_,rfl,rfl,rfl⟩,.inr ⟨4,_,rfl,rfl,rfl⟩,trivial⟩ (λ sl hsl K hK=>ay rfl (gI (a:=s_0) (l:=o69+1) (h:=(s_0.length:Int)) rfl rfl rfl rfl rfl (hsl _ _ rfl) (pJ (hsl _ _ rfl)) rfl hk56 hK)) (aT [(116,_),(118,_)] ⟨.inr ⟨2,_,rfl,rfl,rfl⟩,.inr ⟨4,_,rfl,rfl,rfl⟩,trivial⟩ (λ sl hsl K hK=>ay rfl (gI (a:=s_0) (l:=o69+1) (h:=(s_0.length:Int)) rfl rfl rfl rfl rfl (hsl _ _ rfl) (pJ (hsl _ _ rfl)) rfl hk56 hK)) bp)) ?_)
     exact dS rfl (dPc (.p (eS (sub s_0 (o69+1) (s_0.length:Int)))) rfl (dPc (.p (eB true)) rfl (iq (nx 2 rfl (mQ (oi h0) rfl (ar ⟨sr,sr,sr,trivial⟩))))))
    refine nx 4 rfl (fN [100,101] h1 rfl (λ c50 h1=>?_) λ c50 h1=>?_)
    ·refine nx 2 rfl (oLs rfl (nx 3 rfl (fD [105,106,107] h1 rfl (λ c51 h1=>?_) λ c51 h1=>?_)))
     ·exact nx 6 rfl (eX _ (oi h1).symm (gE rfl rfl))
     exact nx 2 rfl (oI h1 rfl λ hk52 h1=>nx 3 rfl (eX _ (oi h1).symm (gE rfl rfl)))
    exact nx 12 rfl (eX _ (oi h1).symm (gE rfl rfl))
   refine lG (λ (q73:Int)=>⟨[(0,.p (eS s_0)),(2,.ptr 2 0),(9,.p (eI q73))],[(2,hC)]⟩) (λ m (q73:Int)=>fG s_0 m q73) (λ _=>rfl) 1 h1 (gE rfl rfl) ?_
   rintro m n37 h1
   replace h1:fG s_0 (m+1) n37=some o69:=h1
   rw [fG] at h1
   refine nx 2 rfl (bd h1 λ o74 h2 h1=>?_)
   refine kN o74 (λ v75=>⟨[(0,.p (eS s_0)),(2,.ptr 2 0),(9,.p (eI n37)),(89,.p (eB v75))],[(2,hC)]⟩) ?_ ?_
   ·refine nx 1 rfl (fB [89] h1 rfl (λ c43 h1=>?_) λ c43 h1=>?_)
    ·exact nx 5 rfl (oA h1 rfl rfl λ hk44 h1=>nx 2 rfl (eX (n37+1) h1 (gE rfl rfl)))
    exact nx 2 rfl (eXi _ (oi h1).symm (gE rfl rfl))
   refine nx 3 rfl (oLs rfl (nx 2 rfl (fD [77,78] h2 rfl (λ c38 h2=>?_) λ c38 h2=>?_)))
   ·refine nx 2 rfl (oI h2 rfl λ hk39 h2=>nx 3 rfl (fD [82,83,84] h2 rfl (λ c40 h2=>?_) λ c40 h2=>?_))
    ·exact nx 2 rfl (oI h2 rfl λ hk41 h2=>nx 3 rfl (eX _ (oi h2).symm (gE rfl rfl)))
    exact nx 6 rfl (eX _ (oi h2).symm (gE rfl rfl))
   exact nx 12 rfl (eX _ (oi h2).symm (gE rfl rfl))
  refine nx 2 rfl (oLs rfl (nx 2 rfl (fD [23,24] h1 rfl (λ c5 h1=>?_) λ c5 h1=>?_)))
  ·exact nx 1 rfl (oI h1 rfl λ hk6 h1=>nx 3 rfl (eX _ (oi h1).symm (gE rfl rfl)))
  exact nx 5 rfl (eX _ (oi h1).symm (gE rfl rfl))
 refine nx 2 rfl (oS rfl rfl (nx 1 rfl (fD [13,14] h1 rfl (λ c1 h1=>?_) λ c1 h1=>?_)))
 ·exact nx 5 rfl (eX _ (oi h1).symm (gE rfl rfl))
 exact nx 1 rfl (oI h1 rfl λ hk2 h1=>nx 3 rfl (eX _ (oi h1).symm (gE rfl rfl)))
def lr (n:Nat)(s_0:Bytes):Option (ab×Bytes×Bool) :=
 ck ((0:Int)≤7∧7≤(s_0.length:Int)∧(s_0.length:Int)≤(s_0.length:Int)) <|
 (iT n (sub s_0 7 (s_0.length:Int))).bind λ r2 =>
 (kW n r2.2).bind λ r4 =>
 (
   if r4.2.2=true then
    (cH n r2.1).bind λ r7 =>
    some r7
   else
    some false
  : Option Bool).bind λ t9 =>
 some ((ab.mk r2.1 r4.1),r4.2.1,t9)
theorem ue (n:Nat)(s_0:Bytes)(r:ab×Bytes×Bool)(h0:lr n s_0=some r):aw Tryz.prog 103 [eS s_0] (·=.tuple [.p (.agg (ab.cs r.1)),.p (eS r.2.1),.p (eB r.2.2)]):=by
 unfold lr at h0
 refine a6 good Tryz.func103 rfl rfl rfl λ w0=>mP (λ v:ab×Bytes×Bool=>.tuple [.p (.agg (ab.cs v.1)),.p (eS v.2.1),.p (eB v.2.2)]) ?_
 refine nx 9 rfl (oP h0 rfl rfl rfl λ hk1 h0=>bd h0 λ r2 e3 h0=>oK (lY _ (sub s_0 7 (s_0.length:Int)) _ e3) rfl ⟨sr,trivial⟩ Tryz.call104 rfl (nx 9 rfl (bd h0 λ r4 e5 h0=>oK (p7 _ r2.2 _ e5) rfl ⟨sr,trivial⟩ Tryz.call107 rfl (nx 10 rfl (bd h0 λ o11 h1 h0=>kN o11 (λ v12=>⟨[(2,.ptr 2 0),(3,.p (eS r4.2.1)),(4,.p (eB v12))],[(2,[.p (eS r2.1),.p (eI r4.1.fKind),.p (eI r4.1.fNum),.p (eS r4.1.fStr)])]⟩) ?_ ?_)))))
 ·exact nx 2 rfl (mQ (oi h0) rfl (ar ⟨sr,sr,sr,trivial⟩))
 refine fB [8,20] h1 rfl (λ c6 h1=>?_) λ c6 h1=>?_
 ·refine bd h1 λ r7 e8 h1=>mG (gE (t:=⟨[(2,.ptr 2 0),(5,.p (eS r2.1)),(6,.p (eS r4.2.1)),(7,.ptr 7 0),(8,.p (eB true))],[(2,qa),(7,(bJ.cs r4.1).map .p)]⟩) rfl rfl) (mSq ⟨1,[9],(λ _=>.none),(λ _=>[(2,.ptr 2 0),(5,.p (eS r2.1)),(6,.p (eS r4.2.1)),(7,.ptr 7 0),(8,.p (eB true))]),(ob2 ([(2,qa),(7,((bJ.cs r4.1).map .p))]) (2,[.p (eS r2.1),.p (eI r4.1.fKind),.p (eI r4.1.fNum),.p (eS r4.1.fStr)]))⟩ rfl (dPc (.p (eS r2.1)) rfl (dPc (.p (.agg (bJ.cs r4.1))) rfl (dPc (.p (.agg [eS r2.1,eI r4.1.fKind,eI r4.1.fNum,eS r4.1.fStr])) rfl (dPc (.p (eS r4.2.1)) rfl (dPc (.p (eB true)) rfl (dPc (.p (eB true)) rfl (dPy (λ _=>.p (eS r2.1)) (rfl) rfl (bs (λ _=>.p (eB r7)) rfl rfl rfl (gP rfl (λ _=>rfl)) (lt1 rfl) (bi rfl (aT [(26,_),(27,_)] ⟨.inr ⟨5,_,rfl,rfl,rfl⟩,.inr ⟨6,_,rfl,rfl,rfl⟩,trivial⟩ (λ sl hsl K hK=>cm (b6 (dY _ r2.1 _ e8) rfl rfl rfl (aX (hsl _ _ rfl) b5) ⟨sr,trivial⟩ Tryz.call105 rfl hK) rfl rfl (hsl _ _ rfl) (rfl)) bp)) ?_)))))))))
  refine bs (λ _=>.p (eB r7)) rfl rfl rfl (gP rfl (λ _=>rfl)) (lt1 rfl) (aT [(26,_),(28,_)] ⟨.inr ⟨5,_,rfl,rfl,rfl⟩,.inr ⟨7,_,rfl,rfl,rfl⟩,trivial⟩ (λ sl hsl K hK=>ay rfl (bV rfl rfl rfl (hsl _ _ rfl) (rfl) (hsl _ _ rfl) hK)) (aT [(26,_),(28,_)] ⟨.inr ⟨5,_,rfl,rfl,rfl⟩,.inr ⟨7,_,rfl,rfl,rfl⟩,trivial⟩ (λ sl hsl K hK=>ay rfl (bV rfl rfl rfl (hsl _ _ rfl) (rfl) (hsl _ _ rfl) hK)) bp)) (dS rfl ?_)
  refine dPc (.p (eS r4.2.1)) rfl (dPc (.p (eB r7)) rfl ?_)
  refine iq (nx 1 rfl ?_)
  exact eX _ (oi h1).symm (gE rfl rfl)
 refine mG (gE (t:=⟨[(2,.ptr 2 0),(5,.p (eS r2.1)),(6,.p (eS r4.2.1)),(7,.ptr 7 0),(8,.p (eB false))],[(2,qa),(7,(bJ.cs r4.1).map .p)]⟩) rfl rfl) (mSq ⟨1,[9],(λ _=>.none),(λ _=>[(2,.ptr 2 0),(5,.p (eS r2.1)),(6,.p (eS r4.2.1)),(7,.ptr 7 0),(8,.p (eB false))]),(ob2 ([(2,qa),(7,((bJ.cs r4.1).map .p))]) (2,[.p (eS r2.1),.p (eI r4.1.fKind),.p (eI r4.1.fNum),.p (eS r4.1.fStr)]))⟩ rfl (dPc (.p (eS r2.1)) rfl (dPc (.p (.agg (bJ.cs r4.1))) rfl (dPc (.p (.agg [eS r2.1,eI r4.1.fKind,eI r4.1.fNum,eS r4.1.fStr])) rfl (dPc (.p (eS r4.2.1)) rfl (dPc (.p (eB false)) rfl (dPc (.p (eB false)) rfl (dPn (rfl) rfl (dPn (rfl) rfl ?_)))))))))
 refine bs (λ _=>.p (eB false)) rfl rfl rfl (gP rfl (λ _=>rfl)) (lt1 rfl) (aT [(26,_),(28,_)] ⟨.inr ⟨5,_,rfl,rfl,rfl⟩,.inr ⟨7,_,rfl,rfl,rfl⟩,trivial⟩ (λ sl hsl K hK=>ay rfl (bE rfl rfl rfl (hsl _ _ rfl) (rfl) rfl hK)) (aT [(26,_),(28,_)] ⟨.inr ⟨5,_,rfl,rfl,rfl⟩,.inr ⟨7,_,rfl,rfl,rfl⟩,trivial⟩ (λ sl hsl K hK=>ay rfl (bE rfl rfl rfl (hsl _ _ rfl) (rfl) rfl hK)) bp)) (dS rfl ?_)
 refine dPc (.p (eS r4.2.1)) rfl (dPc (.p (eB false)) rfl ?_)
 refine iq (nx 1 rfl ?_)
 exact eX _ (oi h1).symm (gE rfl rfl)
def ff (n:Nat):Nat→Bytes→(List ab)→Option ((Bytes×(List ab))⊕(ek×Bool))
 | 0,_,_=>none
 | m+1,s14,f15 =>
 (ig s14 ([109,111,100,117,108,101,46]:Bytes)).bind λ r16 =>
 if r16=true then
  (lr n s14).bind λ r19 =>
  if (!r19.2.2)=true then
   some (.inr ((ek.mk (ae.mk [] false ([]:Bytes) ([]:Bytes) (bJ.mk 0 0 ([]:Bytes))) false),false))
  else
   ck ((f15.length+[r19.1].length)*48≤140737488355328) <|
   if r19.2.1=([]:Bytes) then
    some (.inr ((ek.mk (ae.mk (f15++[r19.1]) false ([]:Bytes) ([]:Bytes) (bJ.mk 0 0 ([]:Bytes))) false),true))
   else
    ck ((0:Int)≤0∧0 < (r19.2.1.length:Int)) <|
    if byt r19.2.1 0=46 then
     ck ((0:Int)≤1∧1≤(r19.2.1.length:Int)∧(r19.2.1.length:Int)≤(r19.2.1.length:Int)) <|
     ff n m (sub r19.2.1 1 (r19.2.1.length:Int)) (f15++[r19.1])
    else
     some (.inr ((ek.mk (ae.mk [] false ([]:Bytes) ([]:Bytes) (bJ.mk 0 0 ([]:Bytes))) false),false))
 else
  some (.inl (s14,f15))
def kp (n:Nat)(s_0:Bytes):Option (ek×Bool) :=
 jn (ff n n s_0 []) λ q60 =>
 (
   (ig q60.1 ([100,97,116,97,46]:Bytes)).bind λ r31 =>
   if r31=true then
    ck ((0:Int)≤5∧5≤(q60.1.length:Int)∧(q60.1.length:Int)≤(q60.1.length:Int)) <|
    some (sub q60.1 5 (q60.1.length:Int),true)
   else
    some (q60.1,false)
  : Option (Bytes×Bool)).bind λ q61 =>
 (iT n q61.1).bind λ r37 =>
 (
   (cH n r37.1).bind λ r39 =>
   if (!r39)=true then
    some true
   else
    (f0 n r37.1).bind λ r42 =>
    if r42=true then
     some true
    else
     if r37.2=([]:Bytes) then
      some true
     else
      ck ((0:Int)≤0∧0 < (r37.2.length:Int)) <|
      some (!decide (byt r37.2 0=46))
  : Option Bool).bind λ t47 =>
 if t47=true then
  some ((ek.mk (ae.mk [] false ([]:Bytes) ([]:Bytes) (bJ.mk 0 0 ([]:Bytes))) false),false)
 else
  ck ((0:Int)≤1∧1≤(r37.2.length:Int)∧(r37.2.length:Int)≤(r37.2.length:Int)) <|
  (iT n (sub r37.2 1 (r37.2.length:Int))).bind λ r50 =>
  (kW n r50.2).bind λ r52 =>
  (
    (cH n r50.1).bind λ r54 =>
    if (!r54)=true then
     some true
    else
     if (!r52.2.2)=true then
      some true
     else
      some (!decide (r52.2.1=([]:Bytes)))
   : Option Bool).bind λ t58 =>
  if t58=true then
   some ((ek.mk (ae.mk [] false ([]:Bytes) ([]:Bytes) (bJ.mk 0 0 ([]:Bytes))) false),false)
  else
   some ((ek.mk (ae.mk q60.2 q61.2 r37.1 r50.1 r52.1) true),true)
theorem tg (n:Nat)(s_0:Bytes)(r:ek×Bool)(h0:kp n s_0=some r):aw Tryz.prog 82 [eS s_0] (·=.tuple [.p (.agg (ek.cs r.1)),.p (eB r.2)]):=by
 unfold kp at h0
 refine a6 good Tryz.func82 rfl rfl rfl λ w0=>mP (λ v:ek×Bool=>.tuple [.p (.agg (ek.cs v.1)),.p (eB v.2)]) ?_
 refine nx 13 rfl ?_
 obtain ⟨o64,h1,hL0,hR0⟩:=fQ h0
 refine kEx 0 (λ v65:Bytes×(List ab)=>o64=.inl v65) (λ v65=>⟨[(0,.p (eS v65.1)),(2,.ptr 2 0),(4,.ptr 4 0)],[(2,mC),(4,[.vec 30 4 0 (v65.2.map ac),.p (eB false),.p (eS ([]:Bytes)),.p (eS ([]:Bytes)),.p (eI 0),.p (eI 0),.p (eS ([]:Bytes)),.p (eB false)])]⟩) (λ v65 hv=>?_) ?_
 ·have h0:=hL0 _ hv
  refine nx 2 rfl (bd h0 λ o66 h1 h0=>?_)
  refine kN o66 (λ v67=>⟨[(0,.p (eS v67.1)),(2,.ptr 2 0),(4,.ptr 4 0)],[(2,mC),(4,[.vec 30 4 0 (v65.2.map ac),.p (eB v67.2),.p (eS ([]:Bytes)),.p (eS ([]:Bytes)),.p (eI 0),.p (eI 0),.p (eS ([]:Bytes)),.p (eB false)])]⟩) ?_ ?_
  ·refine nx 4 rfl (bd h0 λ r37 e38 h0=>oK (lY _ o66.1 _ e38) rfl ⟨sr,trivial⟩ Tryz.call104 rfl (nx 8 rfl (bd h0 λ o68 h1 h0=>kN o68 (λ v69=>⟨[(2,.ptr 2 0),(4,.ptr 4 0),(8,.p (eS r37.1)),(9,.p (eS r37.2)),(68,.p (eB v69))],[(2,mC),(4,[.vec 30 4 0 (v65.2.map ac),.p (eB o66.2),.p (eS ([]:Bytes)),.p (eS ([]:Bytes)),.p (eI 0),.p (eI 0),.p (eS ([]:Bytes)),.p (eB false)])]⟩) ?_ ?_)))
   ·refine nx 1 rfl (fB [68] h0 rfl (λ c48 h0=>?_) λ c48 h0=>?_)
    ·exact nx 8 rfl (mQ (oi h0) rfl (ar ⟨im ⟨.inr ⟨rfl,rfl⟩,.inl rfl,.inl rfl,.inl rfl,.inl rfl,.inl rfl,.inl rfl,.inl rfl,trivial⟩,sr,trivial⟩))
    refine nx 5 rfl (oP h0 rfl rfl rfl λ hk49 h0=>bd h0 λ r50 e51 h0=>oK (lY _ (sub r37.2 1 (r37.2.length:Int)) _ e51) rfl ⟨sr,trivial⟩ Tryz.call104 rfl (nx 9 rfl (bd h0 λ r52 e53 h0=>oK (p7 _ r50.2 _ e53) rfl ⟨sr,trivial⟩ Tryz.call107 rfl (nx 11 rfl (bd h0 λ o70 h1 h0=>kN o70 (λ v71=>⟨[(2,.ptr 2 0),(4,.ptr 4 0),(8,.p (eS r37.1)),(10,.p (eS r50.1)),(11,.ptr 11 0),(92,.p (eB v71))],[(2,mC),(4,[.vec 30 4 0 (v65.2.map ac),.p (eB o66.2),.p (eS ([]:Bytes)),.p (eS ([]:Bytes)),.p (eI 0),.p (eI 0),.p (eS ([]:Bytes)),.p (eB false)]),(11,(bJ.cs r52.1).map .p)]⟩) ?_ ?_)))))
    ·refine nx 1 rfl (fB [92] h0 rfl (λ c59 h0=>?_) λ c59 h0=>?_)
     ·exact nx 8 rfl (mQ (oi h0) rfl (ar ⟨im ⟨.inr ⟨rfl,rfl⟩,.inl rfl,.inl rfl,.inl rfl,.inl rfl,.inl rfl,.inl rfl,.inl rfl,trivial⟩,sr,trivial⟩))
     exact nx 35 rfl (mQ (oi h0) rfl (ar ⟨pI ⟨AV.sub_vec _ _ _ _,sr,sr,sr,sr,sr,sr,sr,trivial⟩,sr,trivial⟩))
    refine nx 2 rfl (bd h1 λ r54 e55 h1=>oK (dY _ r50.1 _ e55) rfl ⟨sr,trivial⟩ Tryz.call105 rfl (nx 2 rfl ?_))
    refine fB [84,85] h1 rfl (λ c56 h1=>?_) λ c56 h1=>?_
    ·exact nx 8 rfl (eX _ (oi h1).symm (gE rfl rfl))
    refine nx 4 rfl (fB [87,88,89] h1 rfl (λ c57 h1=>?_) λ c57 h1=>?_)
    ·exact nx 4 rfl (eX _ (oi h1).symm (gE rfl rfl))
    exact nx 1 rfl (oS rfl rfl (nx 2 rfl (eX _ (oi h1).symm (gE rfl rfl))))
   refine nx 2 rfl (bd h1 λ r39 e40 h1=>oK (dY _ r37.1 _ e40) rfl ⟨sr,trivial⟩ Tryz.call105 rfl (nx 2 rfl ?_))
   refine fB [55,56] h1 rfl (λ c41 h1=>?_) λ c41 h1=>?_
   ·exact nx 13 rfl (eX _ (oi h1).symm (gE rfl rfl))
   refine nx 1 rfl (bd h1 λ r42 e43 h1=>oK (lL _ r37.1 _ e43) rfl ⟨sr,trivial⟩ Tryz.call106 rfl (nx 2 rfl ?_))
   refine fB [58,59,60] h1 rfl (λ c44 h1=>?_) λ c44 h1=>?_
   ·exact nx 9 rfl (eX _ (oi h1).symm (gE rfl rfl))
   refine nx 1 rfl (oS rfl rfl (nx 2 rfl (fD [62,63,64] h1 rfl (λ c45 h1=>?_) λ c45 h1=>?_)))
   ·exact nx 5 rfl (eX _ (oi h1).symm (gE rfl rfl))
   exact nx 1 rfl (oI h1 rfl λ hk46 h1=>nx 3 rfl (eX _ (oi h1).symm (gE rfl rfl)))
  refine nx 3 rfl (bd h1 λ r31 e32 h1=>oK (nn v65.1 ([100,97,116,97,46]:Bytes) _ e32) rfl ⟨sr,sr,trivial⟩ Tryz.call102 rfl (nx 1 rfl ?_))
  refine fB [43] h1 rfl (λ c33 h1=>?_) λ c33 h1=>?_
  ·exact nx 9 rfl (oP h1 rfl rfl rfl λ hk34 h1=>nx 2 rfl (eX _ (oi h1).symm (gE rfl rfl)))
  exact nx 2 rfl (eX _ (oi h1).symm (gE rfl rfl))
 refine lG (λ (q72:Bytes×(List ab))=>⟨[(0,.p (eS q72.1)),(2,.ptr 2 0),(4,.ptr 4 0)],[(2,mC),(4,[.vec 30 4 0 (q72.2.map ac),.p (eB false),.p (eS ([]:Bytes)),.p (eS ([]:Bytes)),.p (eI 0),.p (eI 0),.p (eS ([]:Bytes)),.p (eB false)])]⟩) (λ m (q72:Bytes×(List ab))=>ff n m q72.1 q72.2) (λ _=>rfl) (s_0,[]) h1 (aW (bo ⟨er rfl,er rfl,er rfl,trivial⟩ ⟨⟨_,rfl,⟨sr,sr,sr,sr,sr,sr,sr,sr,trivial⟩⟩,⟨_,rfl,⟨AV.sub_nilvec _ _ _,sr,sr,sr,sr,sr,sr,sr,trivial⟩⟩,trivial⟩)) ?_
 rintro m ⟨s14,f15⟩ h1
 replace h1:ff n (m+1) s14 f15=some o64:=h1
 rw [ff] at h1
 refine nx 4 rfl (bd h1 λ r16 e17 h1=>oK (nn s14 ([109,111,100,117,108,101,46]:Bytes) _ e17) rfl ⟨sr,sr,trivial⟩ Tryz.call102 rfl (nx 1 rfl ?_))
 refine fB [15] h1 rfl (λ c18 h1=>?_) λ c18 h1=>?_
 ·refine nx 6 rfl (bd h1 λ r19 e20 h1=>oK (ue _ s14 _ e20) rfl ⟨sr,trivial⟩ Tryz.call103 rfl (nx 15 rfl ?_))
  refine fB [23] h1 rfl (λ c21 h1=>?_) λ c21 h1=>?_
  ·exact nx 8 rfl (mQ (hR0 _ (oi h1).symm) rfl (ar ⟨im ⟨.inr ⟨rfl,rfl⟩,.inl rfl,.inl rfl,.inl rfl,.inl rfl,.inl rfl,.inl rfl,.inl rfl,trivial⟩,sr,trivial⟩))
  refine nx 8 rfl (mO rfl (bn ac [r19.1] rfl rfl rfl rfl rfl rfl rfl rfl rfl rfl rfl rfl rfl (by first | rfl | (simp only [List.map_cons,List.map_nil,ab.agg_eq]; done) | (simp only [List.map_cons,List.map_nil,ab.agg_eq]; rfl)) (cc' h1 λ hk22 h1=>mO rfl (gw ac f15 [r19.1] rfl rfl rfl rfl rfl rfl rfl rfl rfl rfl rfl rfl rfl (λ x=>congrArg List.length (ab.cells_eq x)) rfl rfl rfl rfl hk22 (nx 8 rfl (oS rfl rfl (nx 1 rfl (fD [34] h1 rfl (λ c23 h1=>?_) λ c23 h1=>?_))))))))
  ·exact nx 7 rfl (mG (gE (t:=⟨[(2,.ptr 2 0),(3,.p (eB true))],[(2,[.vec 30 4 0 ((f15++[r19.1]).map ac),.p (eB false),.p (eS ([]:Bytes)),.p (eS ([]:Bytes)),.p (eI 0),.p (eI 0),.p (eS ([]:Bytes)),.p (eB false)])]⟩) rfl rfl) (nx 1 rfl (mQ (hR0 _ (oi h1).symm) rfl (ar ⟨pI ⟨AV.sub_vec _ _ _ _,sr,sr,sr,sr,sr,sr,sr,trivial⟩,sr,trivial⟩))))
  refine nx 6 rfl (oI h1 rfl λ hk24 h1=>nx 2 rfl (mG (gE (t:=⟨[(2,.ptr 2 0),(4,.ptr 4 0),(6,.p (eS r19.2.1)),(38,.p (eB (!decide (byt r19.2.1 0=46))))],[(2,mC),(4,[.vec 30 4 0 ((f15++[r19.1]).map ac),.p (eB false),.p (eS ([]:Bytes)),.p (eS ([]:Bytes)),.p (eI 0),.p (eI 0),.p (eS ([]:Bytes)),.p (eB false)])]⟩) rfl rfl) ?_))
  refine fN [38] h1 rfl (λ c25 h1=>?_) λ c25 h1=>?_
  ·exact nx 4 rfl (oP h1 rfl rfl rfl λ hk26 h1=>nx 2 rfl (eX (sub r19.2.1 1 (r19.2.1.length:Int),f15++[r19.1]) h1 (gE rfl rfl)))
  exact nx 8 rfl (mQ (hR0 _ (oi h1).symm) rfl (ar ⟨im ⟨.inr ⟨rfl,rfl⟩,.inl rfl,.inl rfl,.inl rfl,.inl rfl,.inl rfl,.inl rfl,.inl rfl,trivial⟩,sr,trivial⟩))
 exact nx 2 rfl (eXi _ (oi h1).symm (gE rfl rfl))
def kq (n:Nat)(s_0:Bytes):Option (ae×Int) :=
 (kp n s_0).bind λ r1 =>
 (
   if (!r1.2)=true then
    some true
   else
    some (!r1.1.fWhole)
  : Option Bool).bind λ t4 =>
 if t4=true then
  some ((ae.mk [] false ([]:Bytes) ([]:Bytes) (bJ.mk 0 0 ([]:Bytes))),2)
 else
  if 16 < (r1.1.fAddr.fModule.length:Int) then
   some ((ae.mk [] false ([]:Bytes) ([]:Bytes) (bJ.mk 0 0 ([]:Bytes))),4)
  else
   some (r1.1.fAddr,0)
theorem s5 (n:Nat)(s_0:Bytes)(r:ae×Int)(h0:kq n s_0=some r):aw Tryz.prog 53 [eS s_0] (·=.tuple [.p (.agg (ae.cs r.1)),.p (eI r.2)]):=by
 unfold kq at h0
 refine a6 good Tryz.func53 rfl rfl rfl λ w0=>mP (λ v:ae×Int=>.tuple [.p (.agg (ae.cs v.1)),.p (eI v.2)]) ?_
 refine nx 8 rfl (bd h0 λ r1 e2 h0=>oK (tg _ s_0 _ e2) rfl ⟨sr,trivial⟩ Tryz.call82 rfl (nx 9 rfl (bd h0 λ o8 h1 h0=>kN o8 (λ v9=>⟨[(2,.ptr 2 0),(4,.ptr 4 0),(17,.p (eB v9))],[(2,li),(4,(ek.cs r1.1).map .p)]⟩) ?_ ?_)))
 ·refine nx 1 rfl (fB [17] h0 rfl (λ c5 h0=>?_) λ c5 h0=>?_)
  ·exact nx 8 rfl (mQ (oi h0) rfl (ar ⟨im ⟨.inr ⟨rfl,rfl⟩,.inl rfl,.inl rfl,.inl rfl,.inl rfl,.inl rfl,.inl rfl,trivial⟩,sr,trivial⟩))
  refine nx 8 rfl (oLl (f:=ac) rfl rfl (nx 2 rfl (fD [23] h0 rfl (λ c6 h0=>?_) λ c6 h0=>?_)))
  ·exact nx 8 rfl (mQ (oi h0) rfl (ar ⟨im ⟨.inr ⟨rfl,rfl⟩,.inl rfl,.inl rfl,.inl rfl,.inl rfl,.inl rfl,.inl rfl,trivial⟩,sr,trivial⟩))
  exact nx 10 rfl (mQ (oi h0) rfl (ar ⟨sr,sr,trivial⟩))
 refine nx 4 rfl (fB [12,13] h1 rfl (λ c3 h1=>?_) λ c3 h1=>?_)
 ·exact nx 5 rfl (eX _ (oi h1).symm (gE rfl rfl))
 exact nx 5 rfl (eX _ (oi h1).symm (gE rfl rfl))
def eY (a_0:ae):Nat→Int→(List ab)→Option (List ab)
 | 0,_,_=>none
 | m+1,i7,f8 =>
 if i7 < (a_0.fModule.length:Int) then
  ck ((0:Int)≤i7∧i7 < (a_0.fModule.length:Int)) <|
  ck ((f8.length+([(ab.mk ((lat a_0.fModule i7).fName) (bJ.mk 0 0 ([]:Bytes)))]).length)*48≤140737488355328) <|
  ck (inR (i7+1)) <|
  eY a_0 m (i7+1) (f8++([(ab.mk ((lat a_0.fModule i7).fName) (bJ.mk 0 0 ([]:Bytes)))]))
 else
  some f8
def ls (n:Nat)(a_0:ae):Option ae :=
 (eY a_0 n 0 []).bind λ f15 =>
 some (ae.mk f15 a_0.fData a_0.fType a_0.fName (bJ.mk 0 0 ([]:Bytes)))
theorem uh (n:Nat)(a_0:ae)(r:ae)(h0:ls n a_0=some r):aw Tryz.prog 55 [.agg (ae.cs a_0)] (·=.p (.agg (ae.cs r))):=by
 unfold ls at h0
 refine a6 good Tryz.func55 rfl rfl rfl λ w0=>mP (λ v:ae=>.p (.agg (ae.cs v))) ?_
 refine nx 23 rfl (bd h0 λ o17 h1 h0=>?_)
 refine kE 0 o17 (λ v18=>⟨[(2,.ptr 2 0),(3,.ptr 3 0)],[(2,li),(3,[.vec 29 4 0 (v18.map ac),.p (eB a_0.fData),.p (eS a_0.fType),.p (eS a_0.fName),.p (eI 0),.p (eI 0),.p (eS ([]:Bytes))])]⟩) ?_ ?_
 ·exact nx 7 rfl (mQ (oi h0) rfl (pI ⟨AV.sub_vec _ _ _ _,sr,sr,sr,sr,sr,sr,trivial⟩))
 refine lG (λ (q19:Int×(List ab))=>⟨[(1,.ptr 1 0),(2,.ptr 2 0),(3,.ptr 3 0),(4,.p (eI q19.1))],[(1,(ae.cs a_0).map .p),(2,li),(3,[.vec 29 4 0 (q19.2.map ac),.p (eB a_0.fData),.p (eS a_0.fType),.p (eS a_0.fName),.p (eI 0),.p (eI 0),.p (eS ([]:Bytes))])]⟩) (λ m (q19:Int×(List ab))=>eY a_0 m q19.1 q19.2) (λ _=>rfl) (0,[]) h1 (aW (bo ⟨er rfl,er rfl,er rfl,er rfl,trivial⟩ ⟨⟨_,rfl,⟨sr,sr,sr,sr,sr,sr,sr,trivial⟩⟩,⟨_,rfl,⟨sr,sr,sr,sr,sr,sr,sr,trivial⟩⟩,⟨_,rfl,⟨AV.sub_nilvec _ _ _,sr,sr,sr,sr,sr,sr,trivial⟩⟩,trivial⟩)) ?_
 rintro m ⟨i7,f8⟩ h1
 replace h1:eY a_0 (m+1) i7 f8=some o17:=h1
 rw [eY] at h1
 refine nx 6 rfl (oLl (f:=ac) rfl rfl (nx 2 rfl (fD [16] h1 rfl (λ c9 h1=>?_) λ c9 h1=>?_)))
 ·refine nx 4 rfl (cc' h1 λ hk10 h1=>cc' h1 λ hk11 h1=>mG (gE (t:=⟨[(1,.ptr 1 0),(2,.ptr 2 0),(3,.ptr 3 0),(4,.p (eI i7))],[(1,(ae.cs a_0).map .p),(2,li),(3,[.vec 29 4 0 (f8.map ac),.p (eB a_0.fData),.p (eS a_0.fType),.p (eS a_0.fName),.p (eI 0),.p (eI 0),.p (eS ([]:Bytes))])]⟩) rfl rfl) (mSq ⟨2,[10,12],(by3 (.some λ i=>Nat.beq i 29||Nat.beq i 29) .none .none),(λ _=>[(1,.ptr 1 0),(2,.ptr 2 0),(3,.ptr 3 0),(4,.p (eI i7))]),(by3 ([(1,((ae.cs a_0).map .p)),(2,li),(3,[.vec 29 4 0 (f8.map ac),.p (eB a_0.fData),.p (eS a_0.fType),.p (eS a_0.fName),.p (eI 0),.p (eI 0),.p (eS ([]:Bytes))])]) ([(1,((ae.cs a_0).map .p)),(2,li),(3,[.p (eL ac f8),.p (eB a_0.fData),.p (eS a_0.fType),.p (eS a_0.fName),.p (eI 0),.p (eI 0),.p (eS ([]:Bytes))])]) ([(3,[.vec 29 4 0 ((f8++([(ab.mk ((lat a_0.fModule i7).fName) (bJ.mk 0 0 ([]:Bytes)))])).map ac),.p (eB a_0.fData),.p (eS a_0.fType),.p (eS a_0.fName),.p (eI 0),.p (eI 0),.p (eS ([]:Bytes))]),(1,((ae.cs a_0).map .p)),(2,li),(3,[.p (eL ac f8),.p (eB a_0.fData),.p (eS a_0.fType),.p (eS a_0.fName),.p (eI 0),.p (eI 0),.p (eS ([]:Bytes))])]))⟩ rfl (dPc (.ptr 3 0) rfl (dP (by3 (.vec 29 4 0 (f8.map ac)) (.p (eL ac f8)) (.p (eL ac f8))) rfl (dPc (.ptr 1 0) rfl (dPc (.p (eL ac a_0.fModule)) rfl (dPc (.p (eI i7)) rfl (bs (λ _=>.rptr (ab.cs (lat a_0.fModule i7))) rfl rfl rfl (vb rfl rfl (λ _=>rfl)) (lt2 rfl rfl) (bi rfl (aT [(22,_),(23,_)] ⟨.inr ⟨3,_,rfl,rfl,rfl⟩,.inr ⟨4,_,rfl,rfl,rfl⟩,trivial⟩ (λ sl hsl K hK=>ay rfl (vU (f:=ac) (l:=a_0.fModule) ab.cs rfl rfl rfl rfl rfl rfl (hsl _ _ rfl) rfl (hsl _ _ rfl) hk10 ab.cells_eq (λ _=>rfl) hK)) (aT [(22,_),(23,_)] ⟨.inr ⟨3,_,rfl,rfl,rfl⟩,.inr ⟨4,_,rfl,rfl,rfl⟩,trivial⟩ (λ sl hsl K hK=>ay rfl (vU (f:=ac) (l:=a_0.fModule) ab.cs rfl rfl rfl rfl rfl rfl (hsl _ _ rfl) rfl (hsl _ _ rfl) hk10 ab.cells_eq (λ _=>rfl) hK)) bp))) (dPc (.rptr (List.drop 0 (ab.cs (lat a_0.fModule i7)))) rfl (dPc (.p (eS ((lat a_0.fModule i7).fName))) rfl (dPc (.p (.agg [eS ((lat a_0.fModule i7).fName),eI 0,eI 0,eS ([]:Bytes)])) rfl (bs (λ _=>.p (eL ac ([(ab.mk ((lat a_0.fModule i7).fName) (bJ.mk 0 0 ([]:Bytes)))]))) rfl rfl rfl (vb rfl rfl (λ _=>rfl)) (lt2 rfl rfl) (bi rfl (bi rfl (aT [(27,_)] ⟨.inr ⟨8,_,rfl,rfl,rfl⟩,trivial⟩ (λ sl hsl K hK=>ay rfl (bn ac [(ab.mk ((lat a_0.fModule i7).fName) (bJ.mk 0 0 ([]:Bytes)))] rfl rfl rfl rfl rfl rfl (mV (hsl _ _ rfl) rfl ov) rfl rfl rfl rfl rfl rfl (by first | rfl | (simp only [List.map_cons,List.map_nil,ab.agg_eq]; done) | (simp only [List.map_cons,List.map_nil,ab.agg_eq]; rfl)) hK)) bp))) ?_))))))))))))
  refine gx (λ _=>.vec 29 4 0 ((f8++([(ab.mk ((lat a_0.fModule i7).fName) (bJ.mk 0 0 ([]:Bytes)))])).map ac)) [(20,_),(28,_)] rfl ⟨.inr ⟨1,_,rfl,rfl,rfl⟩,.inr ⟨9,_,rfl,rfl,rfl⟩,trivial⟩ rfl rfl (gP rfl (λ _=>rfl)) (lt2 (λ h=>absurd h (by decide)) (λ _=>rfl)) (λ sl hsl K hK=>ay rfl (gw ac f8 ([(ab.mk ((lat a_0.fModule i7).fName) (bJ.mk 0 0 ([]:Bytes)))]) rfl rfl rfl rfl rfl rfl rfl rfl (hsl _ _ rfl) rfl rfl (hsl _ _ rfl) rfl (λ x=>congrArg List.length (ab.cells_eq x)) rfl rfl rfl rfl hk11 hK)) (dPc (.ptr 3 0) rfl ?_)
  exact dS rfl (iq (nx 3 rfl (oA h1 rfl rfl λ hk12 h1=>nx 2 rfl (eX (i7+1,f8++([(ab.mk ((lat a_0.fModule i7).fName) (bJ.mk 0 0 ([]:Bytes)))])) h1 (gE rfl rfl)))))
 exact nx 2 rfl (eXi _ (oi h1).symm (gE rfl rfl))
def jp (n:Nat)(s_0:Bytes):Option (Bytes×Int) :=
 (kq n s_0).bind λ r1 =>
 if r1.2=0 then
  (ls n r1.1).bind λ r4 =>
  (jx n r4).bind λ r6 =>
  some (r6,0)
 else
  some (([]:Bytes),r1.2)
theorem rT (n:Nat)(s_0:Bytes)(r:Bytes×Int)(h0:jp n s_0=some r):aw Tryz.prog 33 [eS s_0] (·=.tuple [.p (eS r.1),.p (eI r.2)]):=by
 unfold jp at h0
 refine a6 good Tryz.func33 rfl rfl rfl λ w0=>mP (λ v:Bytes×Int=>.tuple [.p (eS v.1),.p (eI v.2)]) ?_
 refine nx 8 rfl (bd h0 λ r1 e2 h0=>oK (s5 _ s_0 _ e2) rfl ⟨sr,trivial⟩ Tryz.call53 rfl (nx 13 rfl ?_))
 refine fN [12] h0 rfl (λ c3 h0=>?_) λ c3 h0=>?_
 ·exact nx 5 rfl (bd h0 λ r4 e5 h0=>oK (uh _ r1.1 _ e5) rfl ⟨sr,trivial⟩ Tryz.call55 rfl (bd h0 λ r6 e7 h0=>oK (rU _ r4 _ e7) rfl ⟨sr,trivial⟩ Tryz.call54 rfl (nx 4 rfl (mQ (oi h0) rfl (ar ⟨sr,sr,trivial⟩)))))
 exact nx 8 rfl (mQ (oi h0) rfl (ar ⟨sr,sr,trivial⟩))
end Go.Ab.R06
end
section
namespace Go.Ab.R06
open Go.Ab Go.Ab.RB Go.Lib
theorem uZ (s p:Bytes):ig s p=some (hasPrefix s p):=by
 unfold ig
 by_cases h:p.length≤s.length
 ·rw [if_pos (by omega),aM (by omega),Option.bind_some]
  refine congrArg some (eqB ?_)
  rw [decide_eq_true_eq,dp,n0,Int.toNat_natCast]
  constructor
  ·intro q; exact ⟨s.drop p.length,by conv=>lhs; rw [← List.take_append_drop p.length s,q]⟩
  ·rintro ⟨t,rfl⟩; rw [List.take_left]
 ·rw [if_neg (by omega),Option.bind_some]
  refine congrArg some (Eq.symm ?_)
  rw [← Bool.not_eq_true]
  intro q; exact h (ql q)
theorem kO {b c:UInt8}{t:Bytes}:hasPrefix (b::t) [c]=decide (b=c):=by
 refine eqB ?_
 rw [dp,decide_eq_true_eq]
 exact ⟨λ ⟨u,hu⟩=>(List.cons.inj hu).1,λ h=>⟨t,by rw [h]; rfl⟩⟩
theorem pre_nil {c:UInt8}:hasPrefix [] [c]=false:=by
 rw [← Bool.not_eq_true,dp]; rintro ⟨u,hu⟩; cases hu
def cG (s:Bytes):Bytes×Bytes:=(s.takeWhile idB,s.dropWhile idB)
theorem tS (p:UInt8→Bool)(s:Bytes):s.take (s.takeWhile p).length=s.takeWhile p∧s.drop (s.takeWhile p).length=s.dropWhile p:=by
 have h:=List.takeWhile_append_dropWhile (p:=p) (l:=s)
 constructor
 ·have:s.take (s.takeWhile p).length=(s.takeWhile p++s.dropWhile p).take (s.takeWhile p).length:=by rw [h]
  rw [this,List.take_left]
 ·have:s.drop (s.takeWhile p).length=(s.takeWhile p++s.dropWhile p).drop (s.takeWhile p).length:=by rw [h]
  rw [this,List.drop_left]
theorem Ao (p:UInt8→Bool)(s:Bytes):(s.takeWhile p).length≤s.length:=by
 have h:=congrArg List.length (List.takeWhile_append_dropWhile (p:=p) (l:=s))
 rw [List.length_append] at h; omega
theorem Bu (s:Bytes)(hs:s.length≤1000000000):∀ (k i:Nat),i+k=s.length→Ev2 (λ _ m=>fc s m (i:Int)) (·=((i+((s.drop i).takeWhile idB).length:Nat):Int)):=by
 intro k
 induction k with
 | zero =>
  intro i hi
  refine aS ?_
  simp only [fc]
  refine ak false (av (by omega) (aa rfl)) (av (by simp) (aa ?_))
  rw [List.drop_of_length_le (by omega)]; simp
 | succ k ih =>
  intro i hi
  refine aS ?_
  simp only [fc]
  have hil:i < s.length:=by omega
  have hb:byt s i=((s.getD i 0).toNat:Int):=cO s i
  have:=ih (i+1) (by omega)
  rw [hb,drop_at s hil]
  have hid:idB (s.getD i 0)=(oY (s.getD i 0)||di (s.getD i 0)):=rfl
  have hdg:=iJ (s.getD i 0)
  have hlt:=vn (s.getD i 0)
  generalize s.getD i 0=b at hid hdg hlt ⊢
  refine ak (idB b) ?_ ?_
  ·refine au (by omega) (ai (by omega) (ak _ (aQ hlt rfl) ?_))
   rw [hid]
   cases oY b with
   | true=>exact au rfl (aa rfl)
   | false =>
    refine av (by simp) (ai (by omega) (aA (λ h=>ai (by omega) (aa (eqB ?_))) (λ h=>aa (eqB ?_))))
    ·rw [decide_eq_true_eq,Bool.false_or,hdg]; omega
    ·rw [Bool.false_or,hdg]
     constructor
     ·intro q; cases q
     ·intro q; omega
  ·cases hi:idB b with
   | true =>
    refine au rfl (ai (aV (by omega) (by omega)) ?_)
    rw [show ((i+1:Nat):Int)=(i:Int)+1 by omega] at this
    refine iQ this λ r hr=>?_
    rw [hr,List.takeWhile_cons,if_pos hi,List.length_cons]; omega
   | false =>
    refine av (by simp) (aa ?_)
    rw [List.takeWhile_cons,if_neg (by simp [hi])]; simp
theorem sG (s:Bytes)(hs:s.length≤1000000000):Ev2 (λ n _=>iT n s) (·=cG s):=by
 simp only [iT]
 have l:=Bu s hs s.length 0 (by omega)
 rw [List.drop_zero,Nat.zero_add] at l
 have hle:=Ao idB s
 have hw:=tS idB s
 refine ak _ (bu l) (ai (by omega) (ai (by omega) (aa ?_)))
 rw [n0,fg,Int.toNat_natCast,hw.1,hw.2]; rfl
theorem wZ (p:UInt8→Bool):∀ (w t:Bytes),(∀ b∈w,p b=true)→(t=[]∨∃ b r,t=b::r∧p b=false)→(w++t).takeWhile p=w∧(w++t).dropWhile p=t
 | [],t,_,h=>by
  rcases h with rfl | ⟨b,r,rfl,hb⟩
  ·exact ⟨rfl,rfl⟩
  ·simp [List.takeWhile_cons,List.dropWhile_cons,hb]
 | b::w,t,hw,h=>by
  have ih:=wZ p w t (λ y hy=>hw y (List.mem_cons_of_mem _ hy)) h
  have hb:=hw b List.mem_cons_self
  simp only [List.cons_append,List.takeWhile_cons,List.dropWhile_cons,hb,if_true]
  exact ⟨by rw [ih.1],ih.2⟩
theorem yU {b:UInt8}(h:jH b=true):idB b=false:=by
 cases hi:idB b with
 | false=>rfl
 | true=>rw [mU hi] at h; cases h
theorem pz {w t:Bytes}(hw:bO w=true)(h:t=[]∨∃ b r,t=b::r∧jH b=true):cG (w++t)=(w,t):=by
 have:=wZ idB w t (λ b hb=>kP hw hb) (h.imp id λ ⟨b,r,e,q⟩=>⟨b,r,e,yU q⟩)
 unfold cG; rw [this.1,this.2]
theorem lQ (s:Bytes):s=(cG s).1++(cG s).2:=(List.takeWhile_append_dropWhile).symm
theorem oy (s:Bytes):(cG s).1.length≤s.length∧(cG s).2.length≤s.length:=by
 have:=congrArg List.length (lQ s)
 rw [List.length_append] at this; omega
def Bg (r:Bytes):bJ×Bytes×Bool:=if (uj (r.takeWhile di)).2=0∧hasPrefix (r.dropWhile di) [93]=true then (bJ.mk 1 (uj (r.takeWhile di)).1 [],(r.dropWhile di).drop 1,true) else (jI,[],false)
def Ai (r:Bytes):bJ×Bytes×Bool:=if (jW r).2.2=0∧r.take (jW r).2.1.toNat=dA (jW r).1∧hasPrefix (r.drop (jW r).2.1.toNat) [93]=true then (bJ.mk 2 0 (jW r).1,r.drop ((jW r).2.1.toNat+1),true) else (jI,[],false)
def ir (s:Bytes):bJ×Bytes×Bool:=if hasPrefix s [91]=true then (if hasPrefix (s.drop 1) [34]=true then Ai (s.drop 1) else Bg (s.drop 1)) else (jI,s,true)
theorem zV (s:Bytes)(hs:s.length≤1000000000):∀ (k i:Nat),i+k=s.length→Ev2 (λ _ m=>fG s m (i:Int)) (·=((i+((s.drop i).takeWhile di).length:Nat):Int)):=by
 intro k
 induction k with
 | zero =>
  intro i hi
  refine aS ?_
  simp only [fG]
  refine ak false (av (by omega) (aa rfl)) (av (by simp) (aa ?_))
  rw [List.drop_of_length_le (by omega)]; simp
 | succ k ih =>
  intro i hi
  refine aS ?_
  simp only [fG]
  have hil:i < s.length:=by omega
  have hb:byt s i=((s.getD i 0).toNat:Int):=cO s i
  have:=ih (i+1) (by omega)
  rw [hb,drop_at s hil]
  have hdg:=iJ (s.getD i 0)
  generalize s.getD i 0=b at hdg ⊢
  refine ak (di b) ?_ ?_
  ·refine au (by omega) (ai (by omega) (aA (λ h=>ai (by omega) (aa (eqB ?_))) (λ h=>aa (eqB ?_))))
   ·rw [decide_eq_true_eq,hdg]; omega
   ·rw [hdg]
    constructor
    ·intro q; cases q
    ·intro q; omega
  ·cases hi:di b with
   | true =>
    refine au rfl (ai (aV (by omega) (by omega)) ?_)
    rw [show ((i+1:Nat):Int)=(i:Int)+1 by omega] at this
    refine iQ this λ r hr=>?_
    rw [hr,List.takeWhile_cons,if_pos hi,List.length_cons]; omega
   | false =>
    refine av (by simp) (aa ?_)
    rw [List.takeWhile_cons,if_neg (by simp [hi])]; simp
theorem wN (s:Bytes)(hs:s.length≤900000000):Ev2 (λ n _=>kW n s) (·=ir s):=by
 simp only [kW]
 unfold ir
 cases s with
 | nil=>exact ak true (au rfl (aa rfl)) (au rfl (aa rfl))
 | cons b r =>
  have hln:(b::r).length=r.length+1:=by simp
  have hb:byt (b::r) 0=(b.toNat:Int):=rfl
  have h91:b.toNat=91↔b=91:=lA (by decide)
  rw [kO]
  refine ak (!decide (b=91)) ?_ ?_
  ·refine av (by simp) (ai (by omega) (aa ?_))
   rw [hb]
   refine congrArg not (eqB ?_)
   rw [decide_eq_true_eq,decide_eq_true_eq,← h91]; omega
  by_cases hbr:b=91
  ·subst hbr
   rw [if_pos (show decide ((91:UInt8)=91)=true by simp)]
   refine av (by simp) ?_
   have hd1:(91::r:Bytes).drop 1=r:=rfl
   rw [hd1]
   refine ak (hasPrefix r [34]) ?_ ?_
   ·refine aA (λ h=>ai (by omega) (aa ?_)) (λ h=>aa ?_)
    ·cases r with
     | nil=>simp at h
     | cons c q =>
      have hc:byt (91::c::q) 1=(c.toNat:Int):=rfl
      have h34:c.toNat=34↔c=34:=lA (by decide)
      rw [hc,kO]
      refine eqB ?_
      rw [decide_eq_true_eq,decide_eq_true_eq,← h34]; omega
    ·cases r with
     | nil=>exact pre_nil.symm
     | cons c q=>simp only [List.length_cons] at h; omega
   cases hq:hasPrefix r [34] with
   | true =>
    refine au rfl (ai (by omega) ?_)
    rw [if_pos rfl]
    have s1:sub (91::r) 1 ((91::r:Bytes).length:Int)=r:=by rw [fg]; rfl
    rw [s1]
    unfold Ai
    have hu:=Cm r (by omega)
    have hok:=@vE r
    have hle:=x7 r
    generalize jW r=U at hu hok hle ⊢
    obtain ⟨x,m,e⟩:=U
    simp only at hok hle ⊢
    obtain ⟨m,rfl⟩:∃ m':Nat,m=m':=⟨m.toNat,by omega⟩
    rw [Int.toNat_natCast]
    have hin1:inR ((m:Int)+1):=aV (by omega) (by omega)
    have hin2:inR ((m:Int)+2):=aV (by omega) (by omega)
    refine ak _ hu ?_
    dsimp only
    refine (ak (!decide (e=0∧r.take m=dA x∧hasPrefix (r.drop m) [93]=true)) ?_ ?_)
    ·refine aA (λ h=>ai hin1 ?_) (λ h=>aa (by simp [h]))
     subst h
     refine aA (λ h=>aa ?_) (λ h=>ai hin1 (ai (by omega) ?_))
     ·rw [List.drop_of_length_le (by omega),pre_nil]; simp
     have hml:m < r.length:=by omega
     have hb1:byt (91::r) ((m:Int)+1)=((r.getD m 0).toNat:Int):=by
      have:=tI (91::r) m 1
      rw [show ((1:Nat):Int)=1 from rfl] at this
      rw [this]; rfl
     rw [hb1,drop_at r hml,kO]
     have h93:(r.getD m 0).toNat=93↔r.getD m 0=93:=lA (by decide)
     refine aA (λ h2=>ai hin1 (ai (by omega) ?_)) (λ h2=>aa ?_)
     ·have h3:r.getD m 0=93:=h93.1 (by omega)
      have hsub:sub (91::r) 1 ((m:Int)+1)=r.take m:=by
       have:=oB (91::r) 1 m
       rw [show ((1:Nat):Int)=1 from rfl,show (1:Int)+(m:Int)=(m:Int)+1 by omega] at this
       exact this
      rw [hsub,h3]
      refine ak _ (uB x (by omega)) (aA (λ h4=>?_) (λ h4=>aa (by simp [h4])))
      have hx:=hok rfl
      have hko:cq (bJ.mk 2 0 x)=true:=by unfold cq; simp [hx.1,hx.2.1]
      have hk:=su (bJ.mk 2 0 x) (by show x.length≤_; omega)
      rw [hko] at hk
      exact ak _ hk (aa (by simp [h4]))
     ·have h3:¬ r.getD m 0=93:=λ q=>h2 (by have:=h93.2 q; omega)
      symm; rw [Bool.not_eq_true',decide_eq_false_iff_not]; intro q; exact h3 (of_decide_eq_true q.2.2)
    ·by_cases h:e=0∧r.take m=dA x∧hasPrefix (r.drop m) [93]=true
     ·rw [if_pos h]
      have hx:=hok (by rw [h.1])
      have hml:m < r.length:=by
       rcases Nat.lt_or_ge m r.length with q | q
       ·exact q
       ·have:=h.2.2
        rw [List.drop_of_length_le q,pre_nil] at this; cases this
      refine av (by simp [h]) (ai hin2 (ai (by omega) (aa ?_)))
      rw [fg,show ((m:Int)+2).toNat=m+1+1 by omega]; rfl
     ·rw [if_neg h]
      exact au (by simp only [h,decide_false,Bool.not_false]) (aa rfl)
   | false =>
    refine av (by simp) ?_
    rw [if_neg (by simp)]
    unfold Bg
    have l:=zV (91::r) (by omega) r.length 1 (by omega)
    rw [hd1] at l
    have hle:=Ao di r
    have hw:=tS di r
    have hall:(r.takeWhile di).all di=true:=by simp
    have hn:=B4 (r.takeWhile di) (by omega) hall
    generalize uj (r.takeWhile di)=N at hn ⊢
    obtain ⟨v,e⟩:=N
    have hsub:sub (91::r) 1 ((1+(r.takeWhile di).length:Nat):Int)=r.takeWhile di:=by
     have:=oB (91::r) 1 (r.takeWhile di).length
     rw [show ((1:Nat):Int)+((r.takeWhile di).length:Int)=((1+(r.takeWhile di).length:Nat):Int) by omega] at this
     rw [hd1,hw.1] at this
     exact this
    refine ak _ (bu l) (ai (by omega) ?_)
    rw [hsub]
    refine ak _ hn ?_
    dsimp only
    refine (ak (!decide (e=0∧hasPrefix (r.dropWhile di) [93]=true)) ?_ ?_)
    ·refine aA (λ h=>?_) (λ h=>aa (by simp [h]))
     subst h
     rw [← hw.2]
     refine aA (λ h=>aa ?_) (λ h=>ai (by omega) (aa ?_))
     ·rw [List.drop_of_length_le (by omega),pre_nil]; simp
     ·have hml:(r.takeWhile di).length < r.length:=by omega
      have hb1:byt (91::r) ((1+(r.takeWhile di).length:Nat):Int)=((r.getD (r.takeWhile di).length 0).toNat:Int):=by
       rw [cO,Nat.add_comm]; rfl
      rw [hb1,drop_at r hml,kO]
      have h93:(r.getD (r.takeWhile di).length 0).toNat=93↔r.getD (r.takeWhile di).length 0=93:=lA (by decide)
      refine congrArg not (eqB ?_)
      rw [decide_eq_true_eq,decide_eq_true_eq]
      exact ⟨λ q=>⟨rfl,decide_eq_true (h93.1 (by omega))⟩,λ q=>by have:=h93.2 (of_decide_eq_true q.2); omega⟩
    ·by_cases h:e=0∧hasPrefix (r.dropWhile di) [93]=true
     ·rw [if_pos h]
      have hml:(r.takeWhile di).length < r.length:=by
       rcases Nat.lt_or_ge (r.takeWhile di).length r.length with q | q
       ·exact q
       ·have:=h.2
        rw [← hw.2,List.drop_of_length_le q,pre_nil] at this; cases this
      refine av (by simp [h]) (ai (aV (by omega) (by omega)) (ai (by omega) (aa ?_)))
      rw [fg,show (((1+(r.takeWhile di).length:Nat):Int)+1).toNat=(r.takeWhile di).length+1+1 by omega]
      refine Prod.ext rfl (Prod.ext ?_ rfl)
      show r.drop ((r.takeWhile di).length+1)=(r.dropWhile di).drop 1
      rw [← hw.2,List.drop_drop]
     ·rw [if_neg h]
      exact au (by simp only [h,decide_false,Bool.not_false]) (aa rfl)
  ·rw [if_neg (show ¬ decide (b=91)=true by simp [hbr])]
   exact au (by simp [hbr]) (aa rfl)
theorem s9 {s:Bytes}{k:bJ}{t:Bytes}(h:ir s=(k,t,true)):cq k=true∧s=aK k++t:=by
 unfold ir at h
 by_cases hp:hasPrefix s [91]=true
 ·rw [if_pos hp] at h
  obtain ⟨l,rfl⟩:=(dp _ _).1 hp
  have hd:([91]++l).drop 1=l:=rfl
  rw [hd] at h
  by_cases hq:hasPrefix l [34]=true
  ·rw [if_pos hq] at h
   unfold Ai at h
   have hok:=@vE l
   generalize jW l=U at h hok
   obtain ⟨x,n,e⟩:=U
   simp only at h hok
   split at h
   ·rename_i hc
    obtain ⟨rfl,he,hp2⟩:=hc
    cases h
    have hx:=hok rfl
    have hko:cq (bJ.mk 2 0 x)=true:=by unfold cq; simp [hx.1,hx.2.1]
    refine ⟨hko,?_⟩
    have ht:aK (bJ.mk 2 0 x)=[91]++dA x++[93]:=by
     unfold aK
     rw [if_neg (by rw [hko]; simp),if_neg (by simp)]
    obtain ⟨u,hu⟩:=(dp _ _).1 hp2
    have hu2:l.drop (n.toNat+1)=u:=by rw [← List.drop_drop,hu]; rfl
    rw [ht,hu2,← he,List.append_assoc,List.append_assoc,← hu,List.take_append_drop]
   ·cases h
  ·rw [if_neg hq] at h
   unfold Bg at h
   have hin:=@zD (l.takeWhile di)
   have hsp:=List.takeWhile_append_dropWhile (p:=di) (l:=l)
   generalize uj (l.takeWhile di)=N at h hin
   obtain ⟨v,e⟩:=N
   simp only at h hin
   split at h
   ·rename_i hc
    obtain ⟨rfl,hp2⟩:=hc
    cases h
    have hi:=hin rfl
    have hko:cq (bJ.mk 1 v [])=true:=by unfold cq; simp; exact ⟨hi.2.1,hi.2.2⟩
    refine ⟨hko,?_⟩
    have ht:aK (bJ.mk 1 v [])=[91]++itoa v++[93]:=by
     unfold aK
     rw [if_neg (by rw [hko]; simp),if_pos rfl]
    obtain ⟨u,hu⟩:=(dp _ _).1 hp2
    rw [ht,hi.1,hu]
    conv=>lhs; rw [← hsp,hu]
    simp
   ·cases h
 ·rw [if_neg hp] at h
  cases h
  exact ⟨rfl,rfl⟩
theorem ux {k:bJ}{t:Bytes}(hk:cq k=true)(h:hasPrefix t [91]=false):ir (aK k++t)=(k,t,true):=by
 rcases kb hk with h0 | h0 | h0
 ·have e:=tK hk h0
  subst e
  have et:aK jI=[]:=rfl
  rw [et,List.nil_append]
  unfold ir
  rw [if_neg (by rw [h]; simp)]
 ·have hn:=mc hk h0
  have et:aK k=[91]++itoa k.fNum++[93]:=by
   unfold aK
   rw [if_neg (by rw [hk]; simp [h0]),if_pos h0]
  obtain ⟨hd,hne⟩:=rn hn.1
  have e1:aK k++t=[91]++(itoa k.fNum++93::t):=by rw [et]; simp
  have hnp:hasPrefix (itoa k.fNum++93::t) [34]=false:=by
   cases hx:itoa k.fNum with
   | nil=>exact absurd hx hne
   | cons c r =>
    rw [hx] at hd
    have:=j6 hd (b:=c) List.mem_cons_self
    rw [List.cons_append,kO,decide_eq_false_iff_not]
    intro q
    rw [q] at this
    have h34:(34:UInt8).toNat=34:=rfl
    omega
  have htw:=wZ di (itoa k.fNum) (93::t) (λ b hb=>List.all_eq_true.1 hd b hb) (.inr ⟨93,t,rfl,by decide⟩)
  unfold ir
  rw [e1,if_pos (iN _ _)]
  have hd1:([91]++(itoa k.fNum++93::t)).drop 1=itoa k.fNum++93::t:=rfl
  rw [hd1,if_neg (by rw [hnp]; simp)]
  unfold Bg
  rw [htw.1,htw.2,yZ hn.1 hn.2.1,if_pos ⟨rfl,by rw [kO]; simp⟩]
  refine Prod.ext ?_ rfl
  cases k
  simp only at *
  rw [h0,hn.2.2]
 ·have hs:=mh hk h0
  have et:aK k=[91]++dA k.fStr++[93]:=by
   unfold aK
   rw [if_neg (by rw [hk]; simp [h0]),if_neg (by omega)]
  have e1:aK k++t=[91]++(dA k.fStr++(93::t)):=by rw [et]; simp
  have hu:=tF k.fStr (93::t) hs.2.2 hs.2.1
  unfold ir
  rw [e1,if_pos (iN _ _)]
  have hd1:([91]++(dA k.fStr++(93::t))).drop 1=dA k.fStr++(93::t):=rfl
  have hq:hasPrefix (dA k.fStr++(93::t)) [34]=true:=by
   rw [dp]; exact ⟨k.fStr.flatMap fF++[34]++(93::t),by simp [dA]⟩
  rw [hd1,if_pos hq]
  unfold Ai
  rw [hu]
  simp only [Int.toNat_natCast]
  rw [← List.drop_drop,List.take_left,List.drop_left,if_pos ⟨trivial,rfl,by rw [kO]; simp⟩]
  refine Prod.ext ?_ rfl
  cases k
  simp only at *
  rw [h0,hs.1]
theorem BN (s:Bytes):(ir s).2.1.length≤s.length:=by
 unfold ir
 split
 ·split
  ·unfold Ai
   split
   ·simp only [List.length_drop]; omega
   ·simp
  ·unfold Bg
   split
   ·have:=congrArg List.length (List.takeWhile_append_dropWhile (p:=di) (l:=s.drop 1))
    simp only [List.length_append,List.length_drop] at this ⊢
    omega
   ·simp
 ·exact Nat.le_refl _
def ma (s:Bytes):ab×Bytes×Bool:=(ab.mk (cG (s.drop 7)).1 (ir (cG (s.drop 7)).2).1,(ir (cG (s.drop 7)).2).2.1,(ir (cG (s.drop 7)).2).2.2&&bO (cG (s.drop 7)).1)
theorem uE (s:Bytes)(h:7≤s.length):(ma s).2.1.length+7≤s.length:=by
 have h1:=BN (cG (s.drop 7)).2
 have h2:=(oy (s.drop 7)).2
 rw [List.length_drop] at h2
 show (ir (cG (s.drop 7)).2).2.1.length+7≤_
 omega
theorem zY (s:Bytes)(hs:s.length≤900000000)(h7:7≤s.length):Ev2 (λ n _=>lr n s) (·=ma s):=by
 simp only [lr]
 have e:sub s 7 (s.length:Int)=s.drop 7:=by rw [fg]; rfl
 rw [e]
 have h2:=oy (s.drop 7)
 rw [List.length_drop] at h2
 refine ai (by omega) (ak _ (sG _ (by rw [List.length_drop]; omega)) (ak _ (wN _ (by omega)) (ak ((ir (cG (s.drop 7)).2).2.2&&bO (cG (s.drop 7)).1) ?_ (aa rfl))))
 cases (ir (cG (s.drop 7)).2).2.2 with
 | false=>exact av (by simp) (aa rfl)
 | true=>exact au rfl (ak _ (kU _ (by omega)) (aa (by simp)))
def si:ek:=ek.mk lU false
def iy:Nat→Bytes→List ab→(Bytes×List ab)⊕(ek×Bool)
 | 0,s,f=>.inl (s,f)
 | n+1,s,f=>if hasPrefix s iC=true then
   (if (ma s).2.2=true then
    (if (ma s).2.1=[] then .inr (ek.mk (ae.mk (f++[(ma s).1]) false [] [] jI) false,true)
     else if hasPrefix (ma s).2.1 [46]=true then iy n ((ma s).2.1.drop 1) (f++[(ma s).1]) else .inr (si,false))
    else .inr (si,false))
  else .inl (s,f)
theorem yQ:∀ (k:Nat) (s:Bytes) (f:List ab),s.length < k→s.length+f.length≤900000000→Ev2 (λ n m=>ff n m s f) (·=iy k s f):=by
 intro k
 induction k with
 | zero=>intro s f h; omega
 | succ k ih =>
  intro s f hk hs
  refine aS ?_
  simp only [ff]
  unfold iy
  refine ak (hasPrefix s iC) (aQ (uZ s iC) rfl) (aA (λ h=>?_) (λ h=>aa (by rw [if_neg h])))
  rw [if_pos h]
  have h7:7≤s.length:=ql h
  refine ak _ (zY s (by omega) h7) ?_
  have hl:=uE s h7
  generalize ma s=st at hl ⊢
  obtain ⟨x,t,b⟩:=st
  dsimp only at hl ⊢
  cases b with
  | false=>exact au rfl (aa (by rw [if_neg (by simp)]; rfl))
  | true =>
   rw [if_pos (show true=true from rfl)]
   refine av (by simp) (ai (by simp only [List.length_cons,List.length_nil]; omega) ?_)
   cases t with
   | nil=>exact au rfl (aa (by rw [if_pos rfl]; rfl))
   | cons c q =>
    rw [if_neg (show ¬ (c::q:Bytes)=[] by simp),kO]
    have hb:byt (c::q) 0=(c.toNat:Int):=rfl
    have h46:c.toNat=46↔c=46:=lA (by decide)
    simp only [List.length_cons] at hl
    refine av (by simp) (ai (by simp only [List.length_cons]; omega) ?_)
    rw [hb]
    refine aA (λ h1=>ai (by simp only [List.length_cons]; omega) ?_) (λ h1=>aa ?_)
    ·rw [if_pos (decide_eq_true (h46.1 (by omega))),fg]
     exact ih q (f++[x]) (by omega) (by rw [List.length_append]; simp only [List.length_cons,List.length_nil]; omega)
    ·rw [if_neg (λ z=>h1 (by have:=h46.2 (of_decide_eq_true z); omega))]; rfl
def rz (s:Bytes)(f:List ab):ek×Bool :=
 let w:=cG (trimPrefix s bv)
 let v:=cG (w.2.drop 1)
 let k:=ir v.2
 if bO w.1=false∨eH w.1=true∨hasPrefix w.2 [46]=false then (si,false)
 else if bO v.1=false∨k.2.2=false∨k.2.1≠[] then (si,false)
 else (ek.mk (ae.mk f (hasPrefix s bv) w.1 v.1 k.1) true,true)
def Dr (o:(Bytes×List ab)⊕(ek×Bool)):ek×Bool:=match o with
 | .inl q=>rz q.1 q.2
 | .inr p=>p
def iW (s:Bytes):ek×Bool:=Dr (iy (s.length+1) s [])
theorem sC:∀ (k:Nat) (s:Bytes) (f:List ab) (q:Bytes×List ab),iy k s f=.inl q→q.1.length≤s.length
 | 0,s,f,q,h=>by cases h; exact Nat.le_refl _
 | k+1,s,f,q,h=>by
  unfold iy at h
  split at h
  ·rename_i hp
   have hl:=uE s (ql hp)
   split at h
   ·split at h
    ·cases h
    ·split at h
     ·have:=sC k _ _ q h
      rw [List.length_drop] at this; omega
     ·cases h
   ·cases h
  ·cases h; exact Nat.le_refl _
theorem yY (s:Bytes)(hs:s.length≤900000000):Ev2 (λ n _=>kp n s) (·=iW s):=by
 simp only [kp]
 have l:=yQ (s.length+1) s [] (by omega) (by simp; omega)
 have hlen:=sC (s.length+1) s []
 unfold iW
 generalize iy (s.length+1) s []=o at l hlen ⊢
 cases o with
 | inr p=>exact gO p (bu l) rfl
 | inl q =>
  obtain ⟨t,f⟩:=q
  have ht:=hlen (t,f) rfl
  simp only at ht
  refine gZ (t,f) (bu l) ?_
  dsimp only
  show Ev2 _ (·=rz t f)
  unfold rz
  have htl:=mB t bv
  refine ak (trimPrefix t bv,hasPrefix t bv) ?_ ?_
  ·refine ak (hasPrefix t bv) (aQ (uZ t bv) rfl) ?_
   cases hp:hasPrefix t bv with
   | true =>
    obtain ⟨u,rfl⟩:=(dp _ _).1 hp
    have h5:(bv++u).length=5+u.length:=by rw [List.length_append]; rfl
    refine au rfl (ai (by omega) (aa ?_))
    rw [fg,iG]; rfl
   | false=>exact av (by simp) (aa (by rw [lN hp]))
  dsimp only
  have hw:=oy (trimPrefix t bv)
  refine ak _ (sG _ (by omega)) ?_
  generalize cG (trimPrefix t bv)=W at hw ⊢
  obtain ⟨w,r⟩:=W
  dsimp only at hw ⊢
  refine ak (decide (bO w=false∨eH w=true∨hasPrefix r [46]=false)) ?_ ?_
  ·refine ak _ (kU w (by omega)) ?_
   cases bO w with
   | false=>exact au rfl (aa (by simp))
   | true =>
    refine av (by simp) (ak _ (z8 w) ?_)
    cases eH w with
    | true=>exact au rfl (aa (by simp))
    | false =>
     refine av (by simp) ?_
     cases r with
     | nil=>exact au rfl (aa (by rw [pre_nil]; simp))
     | cons c q =>
      have hb:byt (c::q) 0=(c.toNat:Int):=rfl
      have h46:c.toNat=46↔c=46:=lA (by decide)
      refine av (by simp) (ai (by simp only [List.length_cons]; omega) (aa (eqB ?_)))
      rw [hb,kO,Bool.not_eq_true',decide_eq_false_iff_not,decide_eq_true_eq,decide_eq_false_iff_not,← h46]
      constructor
      ·intro z; right; right; omega
      ·rintro (z | z | z)
       ·cases z
       ·cases z
       ·omega
  refine aA (λ h=>aa (by rw [if_pos (of_decide_eq_true h)]; rfl)) (λ h=>?_)
  have h:=λ z=>h (decide_eq_true z)
  rw [if_neg h]
  have hp:hasPrefix r [46]=true:=by
   cases hh:hasPrefix r [46] with
   | true=>rfl
   | false=>exact absurd (.inr (.inr hh)) h
  have h1:1≤r.length:=ql hp
  have e:sub r 1 (r.length:Int)=r.drop 1:=by rw [fg]; rfl
  rw [e]
  refine ai (by omega) ?_
  have hv:=oy (r.drop 1)
  rw [List.length_drop] at hv
  refine ak _ (sG _ (by rw [List.length_drop]; omega)) ?_
  generalize cG (r.drop 1)=V at hv ⊢
  obtain ⟨v,z⟩:=V
  dsimp only at hv ⊢
  refine ak _ (wN _ (by omega)) ?_
  generalize ir z=K
  obtain ⟨k,y,b⟩:=K
  dsimp only
  refine ak (decide (bO v=false∨b=false∨y≠[])) ?_ ?_
  ·refine ak _ (kU v (by omega)) ?_
   cases bO v with
   | false=>exact au rfl (aa (by simp))
   | true =>
    refine av (by simp) ?_
    cases b with
    | false=>exact au rfl (aa (by simp))
    | true=>exact av (by simp) (aa (by simp))
  ·exact aA (λ h=>aa (by rw [if_pos (of_decide_eq_true h)]; rfl)) (λ h=>aa (by rw [if_neg (λ q=>h (decide_eq_true q))]))
def u7 (s:Bytes):ae×Int:=if (iW s).2=false∨(iW s).1.fWhole=false then (lU,2) else if 16 < (iW s).1.fAddr.fModule.length then (lU,4) else ((iW s).1.fAddr,0)
theorem y6 (s:Bytes)(hs:s.length≤900000000):Ev2 (λ n _=>kq n s) (·=u7 s):=by
 simp only [kq]
 refine ak _ (yY s hs) ?_
 unfold u7
 generalize iW s=p
 obtain ⟨p,b⟩:=p
 dsimp only
 refine ak (decide (b=false∨p.fWhole=false)) ?_ ?_
 ·cases b with
  | false=>exact au rfl (aa (by simp))
  | true=>exact av (by simp) (aa (by cases p.fWhole <;> simp))
 ·refine aA (λ h=>aa (by rw [if_pos (of_decide_eq_true h)]; rfl)) (λ h=>?_)
  rw [if_neg (λ q=>h (decide_eq_true q))]
  exact aA (λ h=>aa (by rw [if_pos (by omega)]; rfl)) (λ h=>aa (by rw [if_neg (by omega)]))
end Go.Ab.R06
end
section
namespace Go.Ab.R06
open Go.Proofs Go.Ab Go.Ab.RB Go.Lib
def Grm (s:Bytes)(a:ae):Prop:=(∀ x∈a.fModule,bO x.fName=true∧cq x.fKey=true)∧gS a.fType=true∧bO a.fName=true∧cq a.fKey=true∧ga a=s
theorem zd (s:Bytes):iU s=(lU,2)∨∃ a,Grm s a∧iU s=if 16 < a.fModule.length then (lU,4) else (a,0):=by
 unfold iU
 simp only
 have hL:=mW (s.length+1) [] (ah.mk s false)
 generalize gf (s.length+1) [] (ah.mk s false)=p at hL ⊢
 obtain ⟨ms,r⟩:=p
 simp only at hL ⊢
 split
 ·exact .inl rfl
 ·rename_i h0
  right
  simp only [not_or] at h0
  obtain ⟨hb,hr,hk⟩:=h0
  have hb:(j3 (cT (ge (cT (gX r bv).2).2 [46])).2).2.fbad=false:=by
   have:(fK r).2.2.2.2.fbad=false:=by simpa using hb
   exact this
  have hr:(j3 (cT (ge (cT (gX r bv).2).2 [46])).2).2.frest=[]:=by
   have:(fK r).2.2.2.2.frest=[]:=by simpa using hr
   exact this
  have hk:gS (cT (gX r bv).2).1=true:=by
   have:gS (fK r).2.1=true:=by simpa using hk
   exact this
  have s1:=qz hb
  have s2:=lC s1.1
  have s3:=lu s2.1
  have s4:=lC s3.1
  have hrb:r.fbad=false:=s4.1
  obtain ⟨_,new,e1,e2,e3⟩:=hL hrb
  simp only [List.nil_append] at e1
  subst e1
  have hdat:r.frest=(if (gX r bv).1=true then bv else [])++(gX r bv).2.frest:=by
   unfold gX
   simp only
   cases hp:hasPrefix r.frest bv with
   | true =>
    obtain ⟨t,ht⟩:=(dp _ _).1 hp
    rw [ht,iG]; rfl
   | false=>rw [lN hp]; rfl
  refine ⟨ae.mk ms (fK r).1 (fK r).2.1 (fK r).2.2.1 (fK r).2.2.2.1,⟨e3,hk,s2.2.1,s1.2.1,?_⟩,rfl⟩
  show ms.flatMap bC++((if (gX r bv).1=true then bv else [])++((cT (gX r bv).2).1++[46]++(cT (ge (cT (gX r bv).2).2 [46])).1++aK (j3 (cT (ge (cT (gX r bv).2).2 [46])).2).1))=s
  have x1:=s1.2.2
  rw [hr,List.append_nil] at x1
  rw [← x1,List.append_assoc,← s2.2.2,List.append_assoc,← s3.2,← s4.2.2,← hdat,← e2]
theorem yG {a:ae}(h:gS a.fType=true):hasPrefix (a.fType++[46]++a.fName++aK a.fKey) bv=false:=by
 obtain ⟨hres,hid⟩:=(jU _).1 h
 have hns:∀ b∈a.fType,jH b=false:=λ b hb=>mU (kP hid hb)
 rw [← Bool.not_eq_true,dp]
 rintro ⟨u,hu⟩
 have:a.fType=[100,97,116,97]:=sy _ _ (a.fName++aK a.fKey) u (by decide) hns (by simpa [bv] using hu)
 rw [this] at hres
 exact absurd hres (by decide)
theorem AA {a:ae}(h:gS a.fType=true):hasPrefix ((if a.fData=true then bv else [])++(a.fType++[46]++a.fName++aK a.fKey)) iC=false:=by
 obtain ⟨hres,hid⟩:=(jU _).1 h
 have hns:∀ b∈a.fType,jH b=false:=λ b hb=>mU (kP hid hb)
 rw [← Bool.not_eq_true,dp]
 rintro ⟨u,hu⟩
 cases hd:a.fData with
 | true =>
  rw [hd] at hu
  have:=(List.cons.inj hu).1
  exact absurd this (by decide)
 | false =>
  rw [hd] at hu
  have:a.fType=[109,111,100,117,108,101]:=sy _ _ (a.fName++aK a.fKey) u (by decide) hns (by simpa [iC] using hu)
  rw [this] at hres
  exact absurd hres (by decide)
theorem u4 (ms:List ab):ms.length≤(ms.flatMap bC).length:=by
 induction ms with
 | nil=>simp
 | cons x r ih =>
  have:1≤(bC x).length:=by simp only [bC,List.length_append,List.length_cons,List.length_nil]; omega
  simp only [List.flatMap_cons,List.length_append,List.length_cons]; omega
theorem qh:∀ (k:Nat) (s:Bytes) (f:List ab) (q:Bytes×List ab),iy k s f=.inl q→∃ new,q.2=f++new∧s=new.flatMap bC++q.1∧∀ x∈new,bO x.fName=true∧cq x.fKey=true
 | 0,s,f,q,h=>by cases h; exact ⟨[],by simp,by simp,by simp⟩
 | k+1,s,f,q,h=>by
  unfold iy at h
  split at h
  ·rename_i hp
   obtain ⟨t,rfl⟩:=(dp _ _).1 hp
   split at h
   ·rename_i hb
    split at h
    ·cases h
    ·split at h
     ·rename_i hd
      obtain ⟨u,hu⟩:=(dp _ _).1 hd
      rw [hu] at h
      obtain ⟨new,e1,e2,e3⟩:=qh k _ _ q h
      have hd7:(iC++t).drop 7=t:=rfl
      have hb:((ir (cG t).2).2.2&&bO (cG t).1)=true:=by
       have:=hb
       unfold ma at this
       rw [hd7] at this; exact this
      have hb1:(ir (cG t).2).2.2=true∧bO (cG t).1=true:=by simpa using hb
      have hst:ma (iC++t)=(ab.mk (cG t).1 (ir (cG t).2).1,(ir (cG t).2).2.1,(ir (cG t).2).2.2&&bO (cG t).1):=rfl
      rw [hst] at hu e1
      have hks:=s9 (s:=(cG t).2) (k:=(ir (cG t).2).1) (t:=(ir (cG t).2).2.1) (by rw [← hb1.1])
      refine ⟨ab.mk (cG t).1 (ir (cG t).2).1::new,by rw [e1]; simp,?_,?_⟩
      ·rw [List.flatMap_cons]
       show iC++t=(iC++(cG t).1++aK (ir (cG t).2).1++[46]++new.flatMap bC)++q.1
       have e2:u=new.flatMap bC++q.1:=e2
       have hu:(ir (cG t).2).2.1=[46]++u:=hu
       conv=>lhs; rw [lQ t,hks.2,hu,e2]
       simp
      ·intro x hx
       rcases List.mem_cons.1 hx with rfl | hx
       ·exact ⟨hb1.2,hks.1⟩
       ·exact e3 x hx
     ·cases h
   ·cases h
  ·cases h; exact ⟨[],by simp,by simp,by simp⟩
theorem xu {x:ab}(h:bO x.fName=true∧cq x.fKey=true)(T:Bytes):ma (iC++(x.fName++(aK x.fKey++([46]++T))))=(x,[46]++T,true):=by
 have hd:(iC++(x.fName++(aK x.fKey++([46]++T)))).drop 7=x.fName++(aK x.fKey++([46]++T)):=rfl
 unfold ma
 rw [hd,pz (t:=aK x.fKey++([46]++T)) h.1 (.inr (pZ _ _ ⟨46,T,rfl,by decide⟩))]
 simp only
 rw [ux (t:=[46]++T) h.2 (rF (b:=46) (c:=91) (t:=T) (by decide)),h.1]
 rfl
theorem ri:∀ (new:List ab) (k:Nat) (f:List ab) (t:Bytes),new.length < k→(∀ x∈new,bO x.fName=true∧cq x.fKey=true)→hasPrefix t iC=false →
  iy k (new.flatMap bC++t) f=.inl (t,f++new)
 | [],k,f,t,hk,_,ht=>by
  obtain ⟨k,rfl⟩:∃ k',k=k'+1:=⟨k - 1,by omega⟩
  unfold iy
  rw [if_neg (by simp [ht])]; simp
 | x::r,k,f,t,hk,hx,ht=>by
  obtain ⟨k,rfl⟩:∃ k',k=k'+1:=⟨k - 1,by omega⟩
  have h1:=hx x List.mem_cons_self
  have ih:=ri r k (f++[x]) t (by simp only [List.length_cons] at hk; omega) (λ y hy=>hx y (List.mem_cons_of_mem _ hy)) ht
  generalize hT:r.flatMap bC++t=T at ih
  have e:(x::r).flatMap bC++t=iC++(x.fName++(aK x.fKey++([46]++T))):=by
   rw [List.flatMap_cons,List.append_assoc,hT]; simp [bC]
  unfold iy
  rw [e,if_pos (iN _ _),xu h1]
  simp only [if_true]
  have hd:([46]++T).drop 1=T:=rfl
  rw [if_neg (by simp),if_pos (iN [46] T),hd,ih]
  simp
theorem vr {s:Bytes}(h2:(iW s).2=true)(hw:(iW s).1.fWhole=true):Grm s (iW s).1.fAddr:=by
 unfold iW at h2 hw ⊢
 have hL:=qh (s.length+1) s []
 have hN:∀ p,iy (s.length+1) s []=.inr p→p.1.fWhole=false:=by
  have:∀ (k:Nat) (s:Bytes) (f:List ab) (p:ek×Bool),iy k s f=.inr p→p.1.fWhole=false:=by
   intro k
   induction k with
   | zero=>intro s f p h; cases h
   | succ k ih =>
    intro s f p h
    unfold iy at h
    split at h
    ·split at h
     ·split at h
      ·cases h; rfl
      ·split at h
       ·exact ih _ _ _ h
       ·cases h; rfl
     ·cases h; rfl
    ·cases h
  exact this _ _ _
 generalize iy (s.length+1) s []=o at h2 hw hL hN ⊢
 cases o with
 | inr p =>
  have:=hN p rfl
  have hw:p.1.fWhole=true:=hw
  rw [this] at hw; cases hw
 | inl q =>
  obtain ⟨t,f⟩:=q
  obtain ⟨new,e1,e2,e3⟩:=hL _ rfl
  simp only [List.nil_append] at e1 e2
  subst e1
  have h2:(rz t f).2=true:=h2
  show Grm s (rz t f).1.fAddr
  unfold rz at h2 ⊢
  simp only at h2 ⊢
  split at h2
  ·cases h2
  ·rename_i c1
   rw [if_neg c1]
   split at h2
   ·cases h2
   ·rename_i c2
    rw [if_neg c2]
    simp only [not_or] at c1 c2
    obtain ⟨a1,a2,a3⟩:=c1
    obtain ⟨b1,b2,b3⟩:=c2
    have a1:bO (cG (trimPrefix t bv)).1=true:=by simpa using a1
    have a2:eH (cG (trimPrefix t bv)).1=false:=by simpa using a2
    have a3:hasPrefix (cG (trimPrefix t bv)).2 [46]=true:=by simpa using a3
    obtain ⟨u,hu⟩:=(dp _ _).1 a3
    have hd:(cG (trimPrefix t bv)).2.drop 1=u:=by rw [hu]; rfl
    rw [hd] at b1 b2 b3 ⊢
    have b1:bO (cG u).1=true:=by simpa using b1
    have b2:(ir (cG u).2).2.2=true:=by simpa using b2
    have b3:(ir (cG u).2).2.1=[]:=by simpa using b3
    have hks:=s9 (s:=(cG u).2) (k:=(ir (cG u).2).1) (t:=(ir (cG u).2).2.1) (by rw [← b2])
    rw [b3,List.append_nil] at hks
    refine ⟨e3,(jU _).2 ⟨a2,a1⟩,b1,hks.1,?_⟩
    show f.flatMap bC++((if hasPrefix t bv=true then bv else [])++((cG (trimPrefix t bv)).1++[46]++(cG u).1++aK (ir (cG u).2).1))=s
    have hdat:t=(if hasPrefix t bv=true then bv else [])++trimPrefix t bv:=by
     cases hp:hasPrefix t bv with
     | true =>
      obtain ⟨t',ht⟩:=(dp _ _).1 hp
      rw [ht,iG]; rfl
     | false=>rw [lN hp]; rfl
    rw [← hks.2,List.append_assoc,← lQ u,List.append_assoc,← hu,← lQ,← hdat,← e2]
theorem wX {s:Bytes}{a:ae}(h:Grm s a):iW s=(ek.mk a true,true):=by
 obtain ⟨c2,c3,c4,c5,rfl⟩:=h
 obtain ⟨hres,hid⟩:=(jU _).1 c3
 have hnd:=yG c3
 have hL:=ri a.fModule ((ga a).length+1) [] _ (by
  have:=u4 a.fModule
  unfold ga
  rw [List.length_append]; omega) c2 (AA c3)
 have e:ga a=a.fModule.flatMap bC++((if a.fData=true then bv else [])++(a.fType++[46]++a.fName++aK a.fKey)):=rfl
 rw [← e] at hL
 unfold iW
 rw [hL]
 show rz _ _=_
 simp only [List.nil_append]
 have hp:hasPrefix ((if a.fData=true then bv else [])++(a.fType++[46]++a.fName++aK a.fKey)) bv=a.fData∧trimPrefix ((if a.fData=true then bv else [])++(a.fType++[46]++a.fName++aK a.fKey)) bv=a.fType++([46]++(a.fName++aK a.fKey)):=by
  cases a.fData with
  | true=>rw [if_pos rfl,iN,iG]; simp
  | false=>rw [if_neg (by simp),List.nil_append,hnd,lN hnd]; simp
 have hk:=ux (t:=[]) c5 (by decide)
 rw [List.append_nil] at hk
 unfold rz
 rw [hp.1,hp.2,pz (t:=[46]++(a.fName++aK a.fKey)) hid (.inr ⟨46,a.fName++aK a.fKey,rfl,by decide⟩)]
 simp only
 have hd:([46]++(a.fName++aK a.fKey)).drop 1=a.fName++aK a.fKey:=rfl
 rw [hd,pz c4 (rJ _)]
 simp only
 rw [hk,hid,hres,iN,c4]
 simp
theorem Bm {s:Bytes}{a:ae}(h:Grm s a):iU s=if 16 < a.fModule.length then (lU,4) else (a,0):=by
 obtain ⟨c2,c3,c4,c5,rfl⟩:=h
 obtain ⟨hres,hid⟩:=(jU _).1 c3
 have hnd:=yG c3
 have hL:=rD a.fModule ((ga a).length+1) [] _ (by
  have:=u4 a.fModule
  unfold ga
  rw [List.length_append]; omega) c2 (AA c3)
 unfold iU
 have e:ga a=a.fModule.flatMap bC++((if a.fData=true then bv else [])++(a.fType++[46]++a.fName++aK a.fKey)):=rfl
 rw [← e] at hL
 rw [hL]
 simp only [List.nil_append]
 have hT:fK (ah.mk ((if a.fData=true then bv else [])++(a.fType++[46]++a.fName++aK a.fKey)) false)=(a.fData,a.fType,a.fName,a.fKey,ah.mk [] false):=by
  have hh:gX (ah.mk ((if a.fData=true then bv else [])++(a.fType++[46]++a.fName++aK a.fKey)) false) bv=(a.fData,ah.mk (a.fType++([46]++(a.fName++aK a.fKey))) false):=by
   unfold gX
   simp only
   cases a.fData with
   | true=>rw [if_pos rfl,iN,iG]; simp
   | false=>rw [if_neg (by simp),List.nil_append,hnd,lN hnd]; simp
  have hk:=wV (t:=[]) c5 (by decide)
  rw [List.append_nil] at hk
  unfold fK
  simp only
  rw [hh]
  simp only
  rw [qE (t:=[46]++(a.fName++aK a.fKey)) hid (.inr ⟨46,a.fName++aK a.fKey,rfl,by decide⟩)]
  simp only
  rw [ot,qE c4 (rJ _)]
  simp only
  rw [hk]
 rw [hT]
 simp only [c3]
 rw [if_neg (by simp)]
theorem zp (s:Bytes):u7 s=iU s:=by
 unfold u7
 by_cases hc:(iW s).2=false∨(iW s).1.fWhole=false
 ·rw [if_pos hc]
  rcases zd s with h | ⟨a,ha,_⟩
  ·exact h.symm
  ·rw [wX ha] at hc
   rcases hc with q | q <;> cases q
 ·rw [if_neg hc]
  simp only [not_or,Bool.not_eq_false] at hc
  exact (Bm (vr hc.1 hc.2)).symm
theorem A3 (a:ae)(ha:a.fModule.length≤100000):∀ (k i:Nat) (f:List ab),i+k=a.fModule.length→f.length=i→Ev2 (λ _ m=>eY a m (i:Int) f) (·=f++(a.fModule.drop i).map ka):=by
 intro k
 induction k with
 | zero =>
  intro i f hi hf
  refine aS ?_
  simp only [eY]
  refine av (by omega) (aa ?_)
  rw [List.drop_of_length_le (by omega)]; simp
 | succ k ih =>
  intro i f hi hf
  refine aS ?_
  simp only [eY]
  have h1:i < a.fModule.length:=by omega
  refine au (by omega) (ai (by omega) ?_)
  rw [gV _ _ h1]
  refine ai (by simp only [List.length_cons,List.length_nil]; omega) (ai (aV (by omega) (by omega)) ?_)
  have:=ih (i+1) (f++[ka a.fModule[i]]) (by omega) (by simp; omega)
  rw [Int.natCast_add,Int.natCast_one] at this
  refine iQ this λ r hr=>?_
  rw [hr,List.drop_eq_getElem_cons h1,List.append_assoc]; rfl
theorem Aw (a:ae)(ha:Sm a):Ev2 (λ n _=>ls n a) (·=nj a):=by
 simp only [ls]
 have l:=A3 a ha.1 a.fModule.length 0 [] (by omega) rfl
 rw [List.drop_zero,List.nil_append] at l
 exact ak _ (bu l) (aa rfl)
theorem B7 (a:ae):Sk (nj a):=by
 refine ⟨by simp [nj,jI],λ x hx=>?_⟩
 obtain ⟨y,hy,rfl⟩:=List.mem_map.1 hx
 simp [ka,jI]
theorem xS (s:Bytes)(hs:s.length≤800000000):Ev2 (λ n _=>jp n s) (·=iO s):=by
 simp only [jp]
 unfold iO
 refine ak _ (y6 s (by omega)) ?_
 rw [zp]
 have hp:=@rK s
 generalize iU s=p at hp ⊢
 obtain ⟨a,e⟩:=p
 simp only
 refine aA (λ h=>?_) (λ h=>aa (by rw [if_neg h]))
 subst h
 rw [if_pos rfl]
 have ha:=(hp rfl).2.2
 exact ak _ (Aw a ha) (ak _ (wv _ ha.bare (B7 a)) (aa rfl))
end Go.Ab.R06
end
section
namespace Go.Ab.R06
open Go.Proofs Go.Ab Go.Ab.RB
attribute [local irreducible] awp d8 aP aw bH AV.sub M dD
def gY (n:Nat)(targets_0:List Bytes)(addr_1:Bytes):Option Bool :=
 if (targets_0.length:Int)=0 then
  some true
 else
  (jp n addr_1).bind λ r2 =>
  (
    (kT n targets_0 addr_1).bind λ r4 =>
    if r4=true then
     some true
    else
     if r2.2=0 then
      (kT n targets_0 r2.1).bind λ r8 =>
      some r8
     else
      some false
   : Option Bool).bind λ t10 =>
  some t10
theorem pG (n:Nat)(targets_0:List Bytes)(addr_1:Bytes)(r:Bool)(h0:gY n targets_0 addr_1=some r):aw Tryz.prog 16 [eL eS targets_0,eS addr_1] (·=.p (eB r)):=by
 unfold gY at h0
 refine a6 good Tryz.func16 rfl rfl rfl λ w0=>mP (λ v:Bool=>.p (eB v)) ?_
 refine nx 8 rfl (oLl (f:=eS) rfl rfl (nx 2 rfl (fD [9] h0 rfl (λ c1 h0=>?_) λ c1 h0=>?_)))
 ·exact nx 6 rfl (mQ (oi h0) rfl (sr))
 refine nx 5 rfl (bd h0 λ r2 e3 h0=>oK (rT _ addr_1 _ e3) rfl ⟨sr,trivial⟩ Tryz.call33 rfl (nx 7 rfl (bd h0 λ o12 h1 h0=>kN o12 (λ v13=>⟨[(4,.p (eB v13))],[]⟩) ?_ ?_)))
 ·exact nx 2 rfl (mQ (oi h0) rfl (sr))
 refine nx 3 rfl (bd h1 λ r4 e5 h1=>oK (qi _ targets_0 addr_1 _ e5) rfl ⟨sr,sr,trivial⟩ Tryz.call34 rfl (nx 1 rfl ?_))
 refine fB [17,18] h1 rfl (λ c6 h1=>?_) λ c6 h1=>?_
 ·exact nx 10 rfl (eX _ (oi h1).symm (gE rfl rfl))
 refine nx 3 rfl (fD [20,21] h1 rfl (λ c7 h1=>?_) λ c7 h1=>?_)
 ·exact nx 2 rfl (bd h1 λ r8 e9 h1=>oK (qi _ targets_0 r2.1 _ e9) rfl ⟨sr,sr,trivial⟩ Tryz.call34 rfl (nx 4 rfl (eX _ (oi h1).symm (gE rfl rfl))))
 exact nx 7 rfl (eX _ (oi h1).symm (gE rfl rfl))
def fY (n:Nat)(targets_0:List Bytes)(addr_1:Bytes):Option Bool :=
 (
   (l9 n targets_0 []).bind λ r1 =>
   if (!r1)=true then
    some true
   else
    some (decide (300 < (addr_1.length:Int)))
  : Option Bool).bind λ t4 =>
 if t4=true then
  (fO n).bind λ r6 =>
  some r6
 else
  (
    (cr n targets_0 addr_1).bind λ r8 =>
    (gY n targets_0 addr_1).bind λ r10 =>
    if (r8 == r10)=true then
     (cr n [] addr_1).bind λ r13 =>
     if r13=true then
      (fO n).bind λ r16 =>
      some r16
     else
      some false
    else
     some false
   : Option Bool).bind λ t18 =>
  some t18
theorem mT (n:Nat)(targets_0:List Bytes)(addr_1:Bytes)(r:Bool)(h0:fY n targets_0 addr_1=some r):aw Tryz.prog 4 [eL eS targets_0,eS addr_1] (·=.p (eB r)):=by
 unfold fY at h0
 refine a6 good Tryz.func4 rfl rfl rfl λ w0=>mP (λ v:Bool=>.p (eB v)) ?_
 refine nx 6 rfl (bd h0 λ o21 h1 h0=>?_)
 refine kN o21 (λ v22=>⟨[(0,.p (eL eS targets_0)),(1,.p (eS addr_1)),(12,.p (eB v22))],[]⟩) ?_ ?_
 ·refine nx 1 rfl (fB [12] h0 rfl (λ c5 h0=>?_) λ c5 h0=>?_)
  ·exact nx 3 rfl (bd h0 λ r6 e7 h0=>oK (nT _  _ e7) rfl trivial Tryz.call13 rfl (nx 3 rfl (mQ (oi h0) rfl (sr))))
  refine nx 3 rfl (bd h0 λ o23 h1 h0=>?_)
  refine kN o23 (λ v24=>⟨[(4,.p (eB v24))],[]⟩) ?_ ?_
  ·exact nx 2 rfl (mQ (oi h0) rfl (sr))
  refine nx 3 rfl (bd h1 λ r8 e9 h1=>oK (fh _ targets_0 addr_1 _ e9) rfl ⟨sr,sr,trivial⟩ Tryz.call15 rfl (nx 2 rfl (bd h1 λ r10 e11 h1=>oK (pG _ targets_0 addr_1 _ e11) rfl ⟨sr,sr,trivial⟩ Tryz.call16 rfl (nx 2 rfl ?_))))
  refine fB [20,21] h1 rfl (λ c12 h1=>?_) λ c12 h1=>?_
  ·refine nx 1 rfl (bd h1 λ r13 e14 h1=>oK (fh _ [] addr_1 _ e14) rfl ⟨gA _,sr,trivial⟩ Tryz.call15 rfl (nx 2 rfl ?_))
   refine fB [23,24,25] h1 rfl (λ c15 h1=>?_) λ c15 h1=>?_
   ·exact bd h1 λ r16 e17 h1=>oK (nT _  _ e17) rfl trivial Tryz.call13 rfl (nx 3 rfl (eX _ (oi h1).symm (gE rfl rfl)))
   exact nx 4 rfl (eX _ (oi h1).symm (gE rfl rfl))
  exact nx 8 rfl (eX _ (oi h1).symm (gE rfl rfl))
 refine nx 2 rfl (bd h1 λ r1 e2 h1=>oK (vc _ targets_0 [] _ e2) rfl ⟨sr,gA _,trivial⟩ Tryz.call14 rfl (nx 2 rfl ?_))
 refine fB [7,8] h1 rfl (λ c3 h1=>?_) λ c3 h1=>?_
 ·exact nx 5 rfl (eX _ (oi h1).symm (gE rfl rfl))
 exact nx 1 rfl (oLs rfl (nx 3 rfl (eX _ (oi h1).symm (gE rfl rfl))))
end Go.Ab.R06
end
section
namespace Go.Ab.R06
open Go.Ab Go.Ab.RB Go.Lib
theorem zL (p s:Bytes)(hp:p.length≤65536)(hs:s.length≤65536):Ev2 (λ n _=>jd n p s) (·=Glob.matchL p s) :=
 ⟨_,rfl,p.length+s.length+3,λ n _ hn _=>Glob.refmatch_eq n p s hp hs hn⟩
theorem CQ (l:List Bytes)(s:Bytes)(hb:l.length≤65536)(hl:∀ p∈l,p.length≤65536)(hs:s.length≤32768):∀ (k i:Nat),i+k=l.length→Ev2 (λ n m=>fE n l s m (i:Int)) (·=if Glob.anyL (l.drop i) s=true then .inr true else .inl ()):=by
 intro k
 induction k with
 | zero =>
  intro i hi
  refine aS ?_
  simp only [fE]
  exact av (by omega) (aa (by rw [List.drop_of_length_le (by omega)]; rfl))
 | succ k ih =>
  intro i hi
  have h1:i < l.length:=by omega
  refine aS ?_
  simp only [fE]
  refine au (by omega) (ai (by omega) ?_)
  rw [gV _ _ h1,List.drop_eq_getElem_cons h1]
  refine iE _ (zL l[i] s (hl _ (List.getElem_mem h1)) (by omega)) ?_
  have e:Glob.anyL (l[i]::l.drop (i+1)) s=(Glob.matchL l[i] s||Glob.anyL (l.drop (i+1)) s):=rfl
  rw [e]
  cases hq:Glob.matchL l[i] s
  ·refine av (by simp) (ai (aV (by omega) (by omega)) ?_)
   have:=ih (i+1) (by omega)
   rw [Int.natCast_add,Int.natCast_one] at this
   rw [Bool.false_or]; exact this
  ·exact au rfl (aa (by rw [Bool.true_or,if_pos rfl]))
theorem yl (l:List Bytes)(s:Bytes)(hb:l.length≤65536)(hl:∀ p∈l,p.length≤65536)(hs:s.length≤32768):Ev2 (λ n _=>kT n l s) (·=Glob.anyL l s):=by
 simp only [kT]
 have l1:=CQ l s hb hl hs l.length 0 (by omega)
 rw [List.drop_zero] at l1
 cases hq:Glob.anyL l s
 ·rw [if_neg (by simp [hq])] at l1
  exact gZ () (bu l1) (aa rfl)
 ·rw [if_pos hq] at l1
  exact gO true (bu l1) rfl
theorem vj (t:List Bytes)(addr:Bytes)(hb:t.length≤65536)(hl:∀ p∈t,p.length≤65536)(ha:addr.length≤300):Ev2 (λ n _=>gY n t addr) (·=zu t addr):=by
 have hs:=rH addr
 simp only [gY]
 unfold zu
 refine aA (λ h=>aa ?_) (λ h=>?_)
 ·rw [decide_eq_true (List.length_eq_zero_iff.1 (by omega))]; rfl
 ·rw [decide_eq_false (λ e=>h (by rw [e]; rfl)),Bool.false_or]
  refine iE _ (xS addr (by omega)) (iE (Glob.anyL t addr||(decide ((iO addr).2=0)&&Glob.anyL t (iO addr).1)) (iE _ (yl t addr hb hl (by omega)) ?_) (aa rfl))
  cases Glob.anyL t addr
  ·refine av (by decide) (aA (λ h=>?_) (λ h=>aa (by rw [decide_eq_false h]; rfl)))
   rw [decide_eq_true h]
   exact iE _ (yl t _ hb hl (by omega)) (aa rfl)
  ·exact au rfl (aa rfl)
theorem zf (addr:Bytes):zu [] addr=true:=by unfold zu; rw [decide_eq_true rfl]; rfl
theorem wP (t:List Bytes)(addr:Bytes)(ht:t.length≤iu):Ev2 (λ n _=>fY n t addr) (·=true):=by
 simp only [fY]
 refine kY (λ r=>r=false→t.length≤16∧(∀ p∈t,p.length≤300)∧addr.length≤300) ?_ (λ r hr=>?_)
 ·refine iE _ (Eb t [] ht (λ c hc=>by cases hc)) ?_
  cases hq:B8 t []
  ·exact au rfl (aa (λ h=>by cases h))
  ·refine av (by decide) (aa (λ h=>?_))
   rw [decide_eq_false_iff_not] at h
   unfold B8 at hq
   rw [Bool.and_eq_true,Bool.and_eq_true,Bool.and_eq_true] at hq
   have h5:=tj hq.1.1.1
   exact ⟨by omega,h5.2,by omega⟩
 ·cases r
  ·obtain ⟨f1,f2,f3⟩:=hr rfl
   refine av (by decide) (iE true ?_ (aa rfl))
   refine iE _ (rM t addr (by omega) (λ p hp=>by have:=f2 p hp; omega) f3) (iE _ (vj t addr (by omega) (λ p hp=>by have:=f2 p hp; omega) f3) (au (by simp) ?_))
   refine iE _ (rM [] addr (by simp) (λ p hp=>by cases hp) f3) ?_
   rw [zf]
   exact au rfl (iE _ wL (aa rfl))
  ·exact au rfl (iE _ wL (aa rfl))
end Go.Ab.R06
end
