/- Texts of the proof, one behind the other. No statement is proved here. -/
import Derived.Lib.IndexLaws
import Derived.Lib.Join
import Derived.WalkKit
import Derived.Test.YtapfhipodpbflaaGreatDoorCards
import Derived.Test.YtapfhipodpbflaaGreatDoorTie
import Derived.SizedLaws
import Derived.ProofKit
import Derived.OpenShut
import Derived.ShutString
import Derived.LaidMore
import Derived.Stop.Joined
import Derived.Deep.DeepHandedRow
import Derived.Deep.DeepWitnessRowRef
import Derived.Test.YtapfhipodpbflaaGreatDoorZ46Na
import Derived.Test.YtapfhipodpbflaaGreatDoorZ46Nb
import Derived.Test.YtapfhipodpbflaaGreatDoorZ46Nc
import Derived.Test.YtapfhipodpbflaaGreatDoorZ46Nd
import Derived.Test.YtapfhipodpbflaaGreatDoorZ46Ne
import Derived.Test.YtapfhipodpbflaaGreatDoorZ46Nf
section
namespace Go.Ab.R06
open Go.Ab Go.Ab.RB Go.Lib
theorem A0 (s:Az)(hs:s.length<=1000000000):∀ (k i:Nat),i+k=s.length->Ev2 (λ _ m=>cx s m (i:Int)) (·=if kq (vl s) i k then .inl () else .inr false):=by
 intro k
 induction k with
 | zero=>
  intro i hi;refine bO ?_;simp only [cx];refine aM O (ac rfl)
 | succ k ih=>
  intro i hi;refine bO ?_;simp only [cx];refine aO O (am O ?_);have hb:byt s i=((s.getD i 0).toNat:Int):=iA s i;rw [hb];have hor:=Dl (s.getD i 0);have hok:=pb s i;rw [vo,rK] at hok;refine av (!vl s i) ?_ ?_
  ·generalize s.getD i 0=b at hor hok ⊢;generalize vl s i=o at hok ⊢;generalize iOr .u8 ((b.toNat:Nat):Int) 32=v at hor ⊢;have hT:(wB b=true)->o=true:=λ h=>hok.2 (.inl ((vo b).1 h));have mk:∀ x:Bool,(x=true↔¬ (((97<=b.toNat/\b.toNat<=122)\/(65<=b.toNat/\b.toNat<=90)\/b.toNat=95)\/(i≠0/\48<=b.toNat/\b.toNat<=57)))->x=!o:=λ x hx=>eqB (by rw [hx,<- hok]; simp);refine am O (al (λ h=>ac (mk _ ?_)) (λ h=>al (λ h1=>?_) (λ h1=>al (λ h2=>?_) (λ h2=>ac (mk _ ?_)))))
   ·simp; omega
   ·refine al (λ h3=>ac (mk _ ?_)) (λ h3=>am O (al (λ h4=>ac (mk _ ?_)) (λ h4=>am O (ac (mk _ ?_)))))
    ·simp; omega
    ·simp; omega
    ·rw [decide_eq_true_eq]; omega
   ·refine al (λ h3=>ac (mk _ ?_)) (λ h3=>am O (al (λ h4=>ac (mk _ ?_)) (λ h4=>am O (ac (mk _ ?_)))))
    ·simp; omega
    ·simp; omega
    ·rw [decide_eq_true_eq]; omega
   ·simp; omega
  ·cases hk:vl s i with
   | false=>exact aO G (ac (by simp [kq,hk]))
   | true=>
    refine aM G (am (aN O O) ?_);have:=ih (i+1) O;rw [Int.natCast_add,Int.natCast_one] at this;simpa [kq,hk] using this
theorem vr (s:Az)(hs:s.length<=1000000000):Ev2 (λ n _=>eN n s) (·=nc s):=by
 simp only [eN];have h:=A0 s hs s.length 0 O;have hi:=w7 s
 cases ha:kq (vl s) 0 s.length with
 | false=>
  rw [ha] at h hi;refine pQ false (bw h) (eqB ?_);rw [hi]; simp
 | true=>
  rw [ha] at h hi;refine pw () (bw h) ?_;refine aI (·=nc s) (al (λ h=>ac (eqB ?_)) (λ h=>ac (eqB ?_))) (λ t ht=>ac ht)
  ·rw [hi]; simp [h]
  ·rw [hi,decide_eq_true_eq]; simp [h]; omega
theorem qZ (s p:Az):hasPrefix s p=true↔∃ t,s=p++t:=by
 unfold hasPrefix;rw [List.isPrefixOf_iff_prefix];exact ⟨λ ⟨t,h⟩=>⟨t,h.symm⟩,λ ⟨t,h⟩=>⟨t,h.symm⟩⟩
theorem Ca (p t:Az):hasPrefix (p++t) p=true:=(qZ _ _).2 ⟨t,Z⟩
theorem vU (p t:Az):trimPrefix (p++t) p=t:=by
 unfold trimPrefix;rw [Ca,if_pos Z]; simp
theorem xN {s p:Az}(h:hasPrefix s p=false):trimPrefix s p=s:=by
 unfold trimPrefix; rw [h]; simp
def sj (r:aC)(p:Az):Bool×aC:=(hasPrefix r.frest p,aC.mk (trimPrefix r.frest p) r.Ep)
def my (r:aC)(p:Az):aC:=aC.mk (trimPrefix r.frest p) (r.Ep||!hasPrefix r.frest p)
theorem has_eq (r:aC)(p:Az):eH r p=some (sj r p):=rfl
theorem qY (r:aC)(p:Az):dr r p=some (my r p):=by
 unfold dr strings_CutPrefix my;simp only [Option.bind_some]
 cases r.Ep <;> simp
def yn (b:UInt8):Bool:=decide (b.toNat=46)||decide (b.toNat=91)
def lM:Az->Nat|[]=>0|b::r=>if yn b=true then 0 else lM r+1
theorem vm:∀ l:Az,lM l<=l.length
 | []=>mv _
 | b::r=>by
  unfold lM;have:=vm r;split
  ·omega
  ·simp only [bt]; omega
theorem AZ (b:UInt8):([46,91]:Az).contains b=yn b:=by
 refine eqB ?_;have h1:b.toNat=46↔b=46:=x9 (by decide);have h2:b.toNat=91↔b=91:=x9 (by decide);unfold yn;rw [Bool.or_eq_true,decide_eq_true_eq,decide_eq_true_eq,h1,h2];simp
theorem rj:∀ l:Az,(if indexAny l [46,91]<0 then (l.length:Int) else indexAny l [46,91])=(lM l:Int)
 | []=>rfl
 | b::r=>by
  have ih:=rj r;have hge:=indexAny_ge [46,91] r;unfold indexAny lM;rw [AZ]
  cases hs:yn b with
  | true=>simp
  | false=>
   simp only [Bool.false_eq_true,if_false,bt];by_cases h:indexAny r [46,91]=-1
   ·rw [h] at ih;simp only [h,beq_self_eq_true,if_true];rw [if_pos (by decide)] at ih ⊢;omega
   ·have hb:(indexAny r [46,91] == -1)=false:=by simp [h]
    rw [hb];rw [if_neg O] at ih;simp only [Bool.false_eq_true,if_false];rw [if_neg O];omega
def lK (r:aC):Az×aC:=(r.frest.take (lM r.frest),aC.mk (r.frest.drop (lM r.frest)) (r.Ep||!nc (r.frest.take (lM r.frest))))
theorem uF (r:aC)(hs:r.frest.length<=1000000000):Ev2 (λ n _=>du n r) (·=lK r):=by
 simp only [du]
 have hx:strings_IndexAny r.frest [46,91]=some (indexAny r.frest [46,91]):=by
  unfold strings_IndexAny; exact bY ⟨Z,by omega⟩
 have hw:=rj r.frest;have hle:=vm r.frest;refine av _ (bs hx Z) (av (lM r.frest:Int) ?_ ?_)
 ·rw [<- hw];refine al (λ h=>ac (by rw [if_pos h])) (λ h=>ac (by rw [if_neg h]))
 ·refine am O (am O ?_)
  have e1:sub r.frest 0 (lM r.frest:Int)=r.frest.take (lM r.frest):=by
   show (r.frest.take (lM r.frest:Int).toNat).drop (0:Int).toNat=_;simp
  rw [e1,ko,Int.toNat_natCast];refine av (r.Ep||!nc (r.frest.take (lM r.frest))) ?_ (ac rfl)
  cases r.Ep with
  | true=>exact aO Z (ac Z)
  | false=>exact aM G (av _ (vr _ (by rw [List.length_take]; omega)) (ac G))
def yl:ez:=ez.mk 0 0 []
def idx (l:Az)(c:UInt8):Nat:=(indexByte l c).toNat
def uA (r:aC):ez×aC :=if r.Ep=true then (yl,r) else if hasPrefix r.frest [91]=false then (yl,r)else if hasPrefix (r.frest.drop 1) [34]=true then(if (oo (r.frest.drop 1)).2.2=0/\mR (oo (r.frest.drop 1)).1=(r.frest.drop 1).take (oo (r.frest.drop 1)).2.1.toNat then(ez.mk 2 0 (oo (r.frest.drop 1)).1,my (aC.mk ((r.frest.drop 1).drop (oo (r.frest.drop 1)).2.1.toNat) false) [93])else (yl,aC.mk (r.frest.drop 1) true))else (ez.mk 1 (va ((r.frest.drop 1).take (idx (r.frest.drop 1) 93))).1 [],my (aC.mk ((r.frest.drop 1).drop (idx (r.frest.drop 1) 93)) (!(decide ((va ((r.frest.drop 1).take (idx (r.frest.drop 1) 93))).2=0)&&!decide ((va ((r.frest.drop 1).take (idx (r.frest.drop 1) 93))).1<0)))) [93])
theorem sb (l:Az)(n:Int):sub l 0 n=l.take n.toNat:=by
 show (l.take n.toNat).drop (0:Int).toNat=_;simp
theorem index_le:∀ (l:Az) (c:UInt8),indexByte l c<=l.length
 | [],_=>by simp [indexByte]
 | b::r,c=>by
  have:=index_le r c;unfold indexByte;simp only [bt];split
  ·omega
  ·split <;> omega
theorem Al (r:aC)(hs:r.frest.length<=900000000):Ev2 (λ n _=>eG n r) (·=uA r):=by
 simp only [eG]
 cases hb:r.Ep with
 | true=>
  refine av (true,r.frest,r.Ep) (aO Z (ac (by rw [hb]))) (aO Z (ac ?_));unfold uA;rw [if_pos hb]; rfl
 | false=>
  cases hp:hasPrefix r.frest [91] with
  | false=>
   refine av (true,r.frest,r.Ep) (aM G (av _ (bs (has_eq _ _) Z) (ac ?_))) (aO Z (ac ?_))
   ·unfold sj; simp only [hp,xN hp,Bool.not_false]
   ·unfold uA;rw [if_neg (by simp [hb]),if_pos hp]; rfl
  | true=>
   obtain ⟨t,ht⟩:=(qZ _ _).1 hp;have hd:r.frest.drop 1=t:=by rw [ht]; rfl
   have htl:t.length<=900000000:=by rw [ht] at hs; simp at hs; omega
   refine av (false,t,false) (aM G (av _ (bs (has_eq _ _) Z) (ac ?_))) (aM G ?_)
   ·unfold sj; simp only [hp,Bool.not_true,hb]; rw [ht,vU]
   unfold uA;rw [if_neg (by simp [hb]),if_neg (by simp [hp]),hd];have hx:strings_HasPrefix t [34]=some (hasPrefix t [34]):=rfl
   cases hq:hasPrefix t [34] with
   | true=>
    rw [hq] at hx;have hle:=BD t;have hu:=DG t O;rw [if_pos rfl];generalize oo t=U at hle hu ⊢;obtain ⟨x,n,e⟩:=U;simp only at hle ⊢;by_cases he:e=0/\mR x=t.take n.toNat
    ·rw [if_pos he];refine jw (av _ (bs hx rfl) (aO rfl (av _ hu (av false ?_ (aM G (am (by dsimp only; omega) (ac ?_)))))))
     ·refine aO he.1 (av _ (o0 x O) (am (by dsimp only; omega) (ac ?_)));rw [sb,decide_eq_true he.2]; rfl
     ·refine av _ (bs (qY _ _) Z) (ac ?_);rw [ko]
    ·rw [if_neg he];refine jw (av _ (bs hx rfl) (aO rfl (av _ hu (av true ?_ (aO rfl (ac ?_))))))
     ·by_cases h0:e=0
      ·refine aO h0 (av _ (o0 x O) (am (by dsimp only; omega) (ac ?_)));rw [sb,decide_eq_false (λ q=>he ⟨h0,q⟩)]; rfl
      ·exact aM h0 (ac Z)
     ·rfl
   | false=>
    rw [hq] at hx;rw [if_neg G];have hi:strings_IndexByte t 93=some (indexByte t 93):=rfl;have hge:=indexByte_ge t 93;have hle:=index_le t 93
    have hm:(if indexByte t 93<0 then (0:Int) else indexByte t 93)=(idx t 93:Int):=by
     unfold idx;split <;> omega
    have hil:(idx t 93:Int)<=t.length:=by rw [<- hm]; split <;> omega
    refine jw (av _ (bs hx rfl) (aM G (av _ (bs hi rfl) ?_)));rw [hm];refine am (by dsimp only; omega) ?_;rw [sb,Int.toNat_natCast];refine av _ (vT _ (by rw [List.length_take]; omega)) ?_;generalize va (t.take (idx t 93))=N;obtain ⟨v,e⟩:=N;simp only;refine av (!(decide (e=0)&&!decide (v<0))) ?_ (am O (ac ?_))
    ·refine al (λ h=>ac (by simp [h])) (λ h=>ac (by simp [h]))
    ·refine av _ (bs (qY _ _) Z) (ac ?_);rw [ko,Int.toNat_natCast]
def stepT (r:aC):aG×aC:=(aG.mk (lK r).1 (uA (lK r).2).1,(uA (lK r).2).2)
theorem Co (r:aC)(hs:r.frest.length<=900000000):Ev2 (λ n _=>fk n r) (·=stepT r):=by
 simp only [fk];refine av _ (uF r O) (av _ (Al (lK r).2 ?_) (ac rfl));show (r.frest.drop _).length<=_;rw [List.length_drop]; omega
def uM:Az:=[109,111,100,117,108,101,46]
def mn:Nat->List aG->aC->List aG×aC|0,ms,r=>(ms,r)|n+1,ms,r=>if r.Ep=false/\hasPrefix r.frest uM=true then mn n (ms++[(stepT (aC.mk (r.frest.drop 7) false)).1]) (my (stepT (aC.mk (r.frest.drop 7) false)).2 [46])else (ms,r)
theorem ns (s p:Az):(trimPrefix s p).length<=s.length:=trimPrefix_le s p
theorem Ax (r:aC):(uA r).2.frest.length<=r.frest.length:=by
 unfold uA;split
 ·exact mv _
 split
 ·exact mv _
 split
 ·split
  ·unfold my;have:=ns ((r.frest.drop 1).drop (oo (r.frest.drop 1)).2.1.toNat) [93];simp only [List.length_drop] at this ⊢; omega
  ·simp
 ·unfold my;have:=ns ((r.frest.drop 1).drop (idx (r.frest.drop 1) 93)) [93];simp only [List.length_drop] at this ⊢; omega
theorem tF (r:aC):(stepT r).2.frest.length<=r.frest.length:=by
 unfold stepT;have:=Ax (lK r).2
 have h2:(lK r).2.frest.length<=r.frest.length:=by
  show (r.frest.drop _).length<=_;rw [List.length_drop]; omega
 simp only; omega
theorem tW (r:aC)(p:Az):(my r p).frest.length<=r.frest.length:=ns _ _
theorem B8 {s p:Az}(h:hasPrefix s p=true):p.length<=s.length:=by
 obtain ⟨t,rfl⟩:=(qZ _ _).1 h; simp
theorem Au:∀ (k:Nat) (ms:List aG) (r:aC),r.frest.length<k->r.frest.length+ms.length<=900000000->Ev2 (λ n m=>eD n m ms r.frest r.Ep) (·=((mn k ms r).1,(mn k ms r).2.frest,(mn k ms r).2.Ep)):=by
 intro k
 induction k with
 | zero=>intro ms r h; omega
 | succ k ih=>
  intro ms r hk hl;refine bO ?_;simp only [eD];unfold mn;by_cases hc:r.Ep=false/\hasPrefix r.frest uM=true
  ·rw [if_pos hc];have hpl:=B8 hc.2;obtain ⟨t,ht⟩:=(qZ _ _).1 hc.2;have hd:r.frest.drop 7=t:=by rw [ht]; rfl
   have htl:t.length+7=r.frest.length:=by rw [ht]; simp [uM] <;> omega
   rw [hd];refine av (true,t,false) (aO (by simp [hc.1]) (av _ (bs (has_eq _ _) rfl) (ac ?_))) (aO rfl ?_)
   ·unfold sj;show (hasPrefix r.frest uM,trimPrefix r.frest uM,r.Ep)=_;rw [hc.2,hc.1,ht,vU]
   refine av _ (Co (aC.mk t false) (by simp only; omega)) (am (by simp; omega) (av _ (bs (qY _ _) Z) ?_));have h1:=tF (aC.mk t false);have h2:=tW (stepT (aC.mk t false)).2 [46];simp only at h1;exact ih _ _ O (by simp; omega)
  ·rw [if_neg hc];refine av (false,r.frest,r.Ep) ?_ (aM G (ac rfl))
   cases hb:r.Ep with
   | true=>exact aM G (ac Z)
   | false=>
    have hp:hasPrefix r.frest uM=false:=by
     cases h:hasPrefix r.frest uM with
     | false=>rfl
     | true=>exact absurd ⟨hb,h⟩ hc
    refine aO Z (av _ (bs (has_eq _ _) Z) (ac ?_));unfold sj;show (hasPrefix r.frest uM,trimPrefix r.frest uM,_)=_;rw [hp,xN hp]
def nJ (s:Az):Bool:=([[109,111,100,117,108,101],[100,97,116,97],[118,97,114],[108,111,99,97,108],[101,97,99,104],[99,111,117,110,116],[114,101,109,111,116,101],[111,117,116,112,117,116],[112,97,116,104],[115,101,108,102],[99,104,97,110,103,101]]:List Az).contains s
def rq (s:Az):Bool:=!nJ s&&nc s
theorem Bv (s:Az)(hs:s.length<=1000000000):Ev2 (λ n _=>gC n s) (·=rq s):=by
 simp only [gC];refine av (nJ s) ?_ ?_
 ·unfold nJ;simp only [List.contains_cons,List.contains_nil,Bool.or_false]
  repeat' refine al (λ h=>ac (by simp [h])) (λ h=>?_)
  refine ac (eqB ?_);simp [*]
 ·unfold rq
  cases nJ s with
  | true=>exact aO Z (ac Z)
  | false=>exact aM G (av _ (vr s hs) (ac G))
def tY:Az:=[100,97,116,97,46]
def uz:br:=br.mk [] false [] [] yl
def ke (r:aC):Bool×Az×Az×ez×aC :=
 let h:=sj r tY
 let t:=lK h.2
 let n:=lK (my t.2 [46])
 let k:=uA n.2
 (h.1,t.1,n.1,k.1,k.2)
def zD (s:Az):br×Int :=
 let p:=mn (s.length+1) [] (aC.mk s false)
 let t:=ke p.2
 if t.2.2.2.2.Ep=true\/t.2.2.2.2.frest≠[]\/rq t.2.1=false then (uz,2)
 else if 16<p.1.length then (uz,4)
 else (br.mk p.1 t.1 t.2.1 t.2.2.1 t.2.2.2.1,0)
theorem rZ:∀ (k:Nat) (ms:List aG) (r:aC),(mn k ms r).2.frest.length<=r.frest.length
 | 0,_,_=>mv _
 | k+1,ms,r=>by
  unfold mn;split
  ·have h1:=tF (aC.mk (r.frest.drop 7) false);have h2:=tW (stepT (aC.mk (r.frest.drop 7) false)).2 [46];have h3:=rZ k (ms++[(stepT (aC.mk (r.frest.drop 7) false)).1]) (my (stepT (aC.mk (r.frest.drop 7) false)).2 [46]);simp only [List.length_drop] at h1;omega
  ·exact mv _
theorem Bp (s:Az)(hs:s.length<=800000000):Ev2 (λ n _=>iM n s) (·=zD s):=by
 simp only [iM];have l:=Au (s.length+1) [] (aC.mk s false) G (by simp; omega);have hl:=rZ (s.length+1) [] (aC.mk s false);refine av _ (bw l) ?_;unfold zD;generalize mn (s.length+1) [] (aC.mk s false)=p at hl ⊢;obtain ⟨ms,r⟩:=p;simp only at hl ⊢;have e:aC.mk r.frest r.Ep=r:=rfl;rw [e];have l1:(sj r tY).2.frest.length<=s.length:=Nat.le_trans (ns _ _) hl;refine av _ (bs (has_eq r _) rfl) (av _ (uF _ (Nat.le_trans l1 O)) (av _ (bs (qY _ _) rfl) ?_))
 have l2:(my (lK (sj r tY).2).2 [46]).frest.length<=s.length:=by
  refine Nat.le_trans (ns _ _) ?_;show ((sj r tY).2.frest.drop _).length<=_;rw [List.length_drop]; omega
 refine av _ (uF _ (Nat.le_trans l2 O)) ?_
 have l3:(lK (my (lK (sj r tY).2).2 [46])).2.frest.length<=s.length:=by
  show (List.drop _ _).length<=_;rw [List.length_drop]; omega
 refine av _ (Al _ (Nat.le_trans l3 O)) ?_;show Ev2 _ (·=(if (ke r).2.2.2.2.Ep=true\/(ke r).2.2.2.2.frest≠[]\/rq (ke r).2.1=false then (uz,2) else if 16<ms.length then (uz,4) else (br.mk ms (ke r).1 (ke r).2.1 (ke r).2.2.1 (ke r).2.2.2.1,0)))
 have l4:(lK (sj r tY).2).1.length<=1000000000:=by
  show (List.take _ _).length<=_;rw [List.length_take]; omega
 have hk:=Bv _ l4;show Ev2 (λ n m=>((if (ke r).2.2.2.2.Ep=true then some true else if (ke r).2.2.2.2.frest=([]:Az) then (gC n (ke r).2.1).bind λ r49=>some (!r49) else some true:Option Bool)).bind λ t51=>_) _;have hk:Ev2 (λ n _=>gC n (ke r).2.1) (·=rq (ke r).2.1):=hk;refine av (decide ((ke r).2.2.2.2.Ep=true\/(ke r).2.2.2.2.frest≠[]\/rq (ke r).2.1=false)) ?_ ?_
 ·refine al (λ h=>ac (by simp [h])) (λ h=>al (λ h1=>av _ hk (ac ?_)) (λ h1=>ac (by simp [h1])))
  cases rq (ke r).2.1 <;> simp [h,h1]
 ·refine al (λ h=>ac ?_) (λ h=>?_)
  ·rw [if_pos (of_decide_eq_true h)]; rfl
  ·rw [if_neg (λ q=>h (decide_eq_true q))];refine al (λ h=>ac ?_) (λ h=>ac ?_)
   ·rw [if_pos O]; rfl
   ·rw [if_neg O]; rfl
end Go.Ab.R06
namespace Go.Ab.R06
open Go.Ab Go.Ab.RB Go.Lib
theorem pg {n:Int}(h:inR n):∃ x,strconv_Itoa n=some x/\x.length<=21:=⟨Lib.itoa n,by unfold strconv_Itoa; rw [bY h],sk h⟩
theorem yK {l:List ax}(hl:l.length<=8):Ev2 (λ n _=>kt n l) (λ r=>inR r.1/\inR r.2.1/\inR r.2.2.1/\inR r.2.2.2):=by
 simp only [kt];have one:∀ {x:Int} {i:Nat},0<=x/\x<=i->i<=100->inR x:=λ h h2=>aN O O
 let I:Nat->Int×Int×Int×Int->Prop:=λ i s=>(0<=s.1/\s.1<=i)/\(0<=s.2.1/\s.2.1<=i)/\(0<=s.2.2.1/\s.2.2.1<=i)/\(0<=s.2.2.2/\s.2.2.2<=i)
 refine aI (I l.length) (bw (f:=λ _ m=>ec l m 0 0 0 0 0) ?_) (λ r hr=>ac ⟨one hr.1 O,one hr.2.1 O,one hr.2.2.1 O,one hr.2.2.2 O⟩);refine dz (λ _ m i (s:Int×Int×Int×Int)=>ec l m s.1 s.2.1 s.2.2.1 s.2.2.2 i) l.length I (λ i s hi hs k=>?_) (λ s hs=>?_) (0,0,0,0) (by simp only [I]; omega)
 ·simp only [ec];obtain ⟨h1,h2,h3,h4⟩:=hs;refine aO O (am O (aI (I (i+1)) ?_ (λ q hq=>am (aN O O) (k q hq))));refine al (λ _=>am (aN O O) (ac (by simp only [I]; omega))) (λ _=>al (λ _=>am (aN O O) (ac (by simp only [I]; omega))) (λ _=>al (λ _=>am (aN O O) (ac (by simp only [I]; omega))) (λ _=>al (λ _=>am (aN O O) (ac (by simp only [I]; omega))) (λ _=>ac (by simp only [I]; omega)))))
 ·simp only [ec];exact aM O (ac hs)
theorem BJ {l:List ax}(hl:l.length<=8):Ev2 (λ n _=>bQ n l (λ x0=>eh x0)) (λ _=>True):=by
 simp only [bQ,cr];refine aI (λ _=>True) ?_ (λ _ _=>ac trivial);refine jw (bw (f:=λ _ m=>aS l (λ x0=>eh x0) m 0) ?_);refine dz (λ _ m i (_:Unit)=>aS l (λ x0=>eh x0) m i) l.length (λ _ _=>True) (λ i _ hi _ k=>?_) (λ _ _=>?_) () trivial
 ·simp only [aS];exact aO O (am O (av _ (ac rfl) (al (λ _=>ac trivial) (λ _=>am (aN O O) (k () trivial)))))
 ·simp only [aS];exact aM O (ac (ac trivial))
theorem xf {p:ba}(hc:p.En.length<=8)(ho:p.D'.length<=8)(hv:∀ x∈p.D',aa.Bd x.Ek):Ev2 (λ n _=>eq n p) (λ r=>r.length<=1000):=by
 simp only [eq];refine aI _ (BJ hc) (λ b _=>aI (λ _=>True) (bw (f:=λ n m=>cK n p m (!b) 0) ?_) (λ q _=>al (λ _=>ac (by decide)) (λ _=>?_)))
 ·refine dz (λ n m i (s:Bool)=>cK n p m s i) p.D'.length (λ _ _=>True) (λ i s hi _ k=>?_) (λ s _=>?_) (!b) trivial
  ·simp only [cK];exact aO O (aI (λ _=>True) (am O (al (λ _=>av _ (oH (hv _ (Go.Ab.cm O)) _) (ac trivial)) (λ _=>ac trivial))) (λ t _=>am (aN O O) (k t trivial)))
  ·simp only [cK];exact aM O (ac trivial)
 ·refine aI _ (yK hc) (λ r hr=>?_);obtain ⟨h1,h2,h3,h4⟩:=hr;obtain ⟨x1,e1,l1⟩:=pg h1;obtain ⟨x2,e2,l2⟩:=pg h2;obtain ⟨x3,e3,l3⟩:=pg h3;obtain ⟨x4,e4,l4⟩:=pg h4;refine av x1 (bs e1 rfl) (am (by simp only [bt,d4]; omega) ?_);refine av x2 (bs e2 rfl) (am (by simp only [aq,bt,d4]; omega) (am (by simp only [aq,bt,d4]; omega) ?_));refine av x3 (bs e3 rfl) (am (by simp only [aq,bt,d4]; omega) (am (by simp only [aq,bt,d4]; omega) ?_));refine av x4 (bs e4 rfl) (am (by simp only [aq,bt,d4]; omega) (am (by simp only [aq,bt,d4]; omega) (ac ?_)));simp only [aq,bt,d4]; omega
def Shr (l:List Az):Prop:=∀ x∈l,x.length<=2000000000
theorem Shr.app {a b:List Az}(ha:Shr a)(hb:Shr b):Shr (a++b):=λ x hx=>by
 rcases List.mem_append.1 hx with h|h
 ·exact ha x h
 ·exact hb x h
theorem Shr.one {x:Az}(h:x.length<=2000000000):Shr [x]:=λ y hy=>by rw [List.mem_singleton.1 hy]; exact h
theorem xc {names:List Az}(hq:∀ x∈names,x.length<=100){m:aa}(hm:u7 m):Shr (f0 names m):=by
 intro x hx;unfold f0 at hx;obtain ⟨q,hq1,rfl⟩:=List.mem_map.1 hx;have h1:=hq q (List.mem_filter.1 hq1).1;have h2:=gd (hm.1.of q);have h3:=hm.2 q;unfold rE;simp only [aq,bt,d4]; omega
theorem vK {names:List Az}(hq:∀ x∈names,x.length<=100){repl:List Az}{a b p r:aa}(hp:u7 p)(hr:u7 r):Shr ((eZ names a b).map (kC repl p r)):=by
 intro x hx;obtain ⟨q,hq1,rfl⟩:=List.mem_map.1 hx;have h1:=hq q (List.mem_filter.1 hq1).1;have h2:=gd (hp.1.of q);have h3:=hp.2 q;have h4:=gd (hr.1.of q);have h5:=hr.2 q;have h6:(if q∈repl then ([32,40,110,101,119,32,111,98,106,101,99,116,41]:Az) else []).length<=13:=by split <;> simp
 unfold kC rE;simp only [aq,bt,d4]; omega
theorem BB {c:ax}{sg pl rs:Az}(hp:AC c sg pl rs){rv rd:List Az}(hv:Shr rv)(hd:Shr rd):Shr (chT c sg pl rs rv rd):=by
 have h1:=hp.sl;have h2:=hp.pl;have h3:=hp.rl
 have hh:Shr [oX c sg pl rs]:=by
  refine Shr.one ?_;unfold oX;split <;> (simp only [aq,bt,d4]; omega)
 unfold chT;split
 ·intro x hx; cases hx
 ·split
  ·exact hh.app hv
  ·split
   ·exact hh.app hd
   ·exact hh
structure OkT (types:List ar):Prop where
 n:types.length<=8
 f:∀ x∈types,mw x.EF
 b:∀ x∈types,BdS x.EF
theorem BE:mw (au.mk [] []):=⟨⟨Nat.zero_le _,λ a ha=>(by cases ha)⟩,Nat.zero_le _,λ a ha=>(by cases ha)⟩
theorem Cu:BdS (au.mk [] []):=⟨λ a ha=>(by cases ha),λ a ha=>(by cases ha)⟩
theorem ti {types:List ar}(h:OkT types)(q:Az):Ev2 (λ n _=>gL n types q) (λ r=>mw r/\BdS r):=by
 have hn:=h.n;simp only [gL];refine jw (bw (f:=λ _ m=>di types q m 0) ?_);refine dz (λ _ m i (_:Unit)=>di types q m i) types.length (λ _ _=>True) (λ i _ hi _ k=>?_) (λ _ _=>?_) () trivial
 ·simp only [di];have hm:lat types (i:Int)∈types:=Go.Ab.cm O;exact aO O (am O (al (λ _=>ac ⟨h.f _ hm,h.b _ hm⟩) (λ _=>am (aN O O) (k () trivial))))
 ·simp only [di];exact aM O (ac (ac ⟨BE,Cu⟩))
theorem w6 {c:ax}(hc:OkC c){s:au}(hf:mw s)(hb:BdS s):Ev2 (λ n _=>eW n c s) (λ r=>r.length<=2000/\Shr r):=by
 obtain ⟨T,⟨hT1,hT2⟩,hT⟩:=wZ (xQ hf hb);obtain ⟨sg,pl,rs,hp⟩:=zH hc.a hc.d
 have lv:(f0 T.Df (fZ s c.Ej)).length<=1000:=by
  have:=List.length_filter_le (λ q=>seen (gU (fZ s c.Ej) q)) T.Df;unfold f0; rw [cl]; omega
 have ld:((eZ T.Df c.Ek c.Ej).map (kC c.Es (fZ s c.Ek) (fZ s c.Ej))).length<=1000:=by
  have:=List.length_filter_le (λ z=>mt (ofP c.Ek z) (ofP c.Ej z)) T.Df;rw [cl]; unfold eZ; omega
 have ma:=jY hc.b hc.bn s;have mb:=jY hc.f hc.fn s;exact DV (yM hp (d:=c) Z Z Z Z Z Z lv ld (yB hf hT hT1 hT2 hc.f hc.fn) (nv hf hT hT1 hT2 hc.b hc.bn hc.f hc.fn c.Es (by have:=hc.r; omega))) ⟨Cm lv ld,BB hp (xc hT2 mb) (vK hT2 ma mb)⟩
structure OkD (x:b9):Prop where
 a:x.Er.length<=300
 d:x.Ex.length<=536870912
 b:VV x.Ek
 bn:bX x.Ek<=60
 f:VV x.Ej
 fn:bX x.Ej<=60
theorem zl {d:b9}(hd:OkD d){types:List ar}(ht:OkT types):Ev2 (λ n _=>iP n d types) (λ r=>r.length<=2000/\Shr r):=by
 obtain ⟨ha,hdp,hb,hbn,hf,hfn⟩:=hd;simp only [iP]
 obtain ⟨pl,hpl,hpll⟩:∃ x,eP d.Er d.Ex=some x/\x.length<=600000000:=by
  unfold eP;split
  ·exact ⟨_,Z,by omega⟩
  ·rw [bY (by simp only [bt,d4]; omega),bY (by simp only [aq,bt,d4]; omega),bY (by simp only [aq,bt,d4]; omega)];exact ⟨_,rfl,by simp only [aq,bt,d4]; omega⟩
 refine av pl (bs hpl rfl) (am (by simp only [bt,d4]; omega) (al (λ _=>am (by simp only [aq,bt,d4]; omega) (ac ⟨by simp,Shr.one (by simp only [aq,bt,d4]; omega)⟩)) (λ _=>?_)));refine av _ (Bp d.Er O) (am (by simp only [aq,bt,d4]; omega) (aI _ (ti ht _) (λ s hs=>?_)));obtain ⟨T,⟨hT1,hT2⟩,hT⟩:=wZ (xQ hs.1 hs.2);refine av _ (nv hs.1 hT hT1 hT2 (.inl hb) (λ _=>hbn) (.inl hf) (λ _=>hfn) [] G) ?_
 have ld:((eZ T.Df d.Ek d.Ej).map (kC [] (fZ s d.Ek) (fZ s d.Ej))).length<=1000:=by
  have:=List.length_filter_le (λ z=>mt (ofP d.Ek z) (ofP d.Ej z)) T.Df;rw [cl]; unfold eZ; omega
 have hsr:=vK (a:=d.Ek) (b:=d.Ej) (repl:=[]) hT2 (jY (.inl hb) (λ _=>hbn) s) (jY (.inl hf) (λ _=>hfn) s);generalize (eZ T.Df d.Ek d.Ej).map (kC [] (fZ s d.Ek) (fZ s d.Ej))=l at ld hsr;refine am (by rw [List.length_singleton]; omega) (ac ⟨by rw [aq,List.length_singleton]; omega,Shr.app (Shr.one ?_) hsr⟩);simp only [aq,bt,d4]; omega
structure OkO (o:aK):Prop where
 n:o.By.length<=536870912
 b:VV o.Ek
 bn:bX o.Ek<=60
 f:VV o.Ej
 fn:bX o.Ej<=60
theorem rf {v:aa}(hv:VV v)(hn:bX v<=60)(b:Bool):Ev2 (λ n _=>ge n v b) (λ r=>r.length<=4000000):=by
 simp only [ge];refine aI (λ q=>∃ w,VV w/\bX w<=60/\q=(w.Ar,w.BY,w.B',w.AI,w.A')) ?_ (λ q hq=>?_)
 ·refine aI (λ _=>True) (al (λ _=>ac trivial) (λ _=>ac trivial)) (λ t _=>al (λ _=>av Aw (ac Z) (ac ⟨Aw,xn,by decide,Z⟩)) (λ _=>ac ⟨v,hv,hn,Z⟩))
 ·obtain ⟨w,hw,hwn,rfl⟩:=hq;have hl:=gd hw;simp only;rw [mkV];exact av _ (oj hw O) (ac O)
structure OkP (p:ba):Prop where
 c:p.En.length<=8
 d:p.Et.length<=8
 m:p.Eu.length<=8
 o:p.D'.length<=8
 cs:∀ x∈p.En,OkC x
 ds:∀ x∈p.Et,OkD x
 ms:∀ x∈p.Eu,x.EH.length<=536870912/\x.fTo.length<=536870912
 os:∀ x∈p.D',OkO x
def Ln (k:Nat)(l:List Az):Prop:=l.length<=k/\Shr l
theorem Ln.app {k j:Nat}{a b:List Az}(ha:Ln k a)(hb:Ln j b):Ln (k+j) (a++b):=⟨by have:=ha.1; have:=hb.1; rw [aq]; omega,ha.2.app hb.2⟩
theorem Bc (sep:Az)(hs:sep.length=1):∀ l:List Az,Shr l->(Lib.join l sep).length<=l.length*2000000001
 | [],_=>by simp [join_nil]
 | x::r,h=>by
  rw [join_cons,aq];have hx:=h x List.mem_cons_self
  have key:∀ r:List Az,Shr r->(joinTail sep r).length<=r.length*2000000001:=by
   intro r
   induction r with
   | nil=>intro _; simp [joinTail]
   | cons y r ih=>
    intro hr;have a1:=hr y List.mem_cons_self;have a2:=ih (λ z hz=>hr z (List.mem_cons_of_mem _ hz));unfold joinTail at a2 ⊢;simp only [n6,List.flatten_cons,aq,bt];omega
  have:=key r (λ z hz=>h z (List.mem_cons_of_mem _ hz));simp only [bt];omega
theorem zh (sep:Az)(l:List Az)(y:Az):∃ pre,Lib.join (l++[y]) sep=pre++y/\(pre=[]\/∃ q,pre=q++sep):=by
 cases l with
 | nil=>exact ⟨[],by rw [List.nil_append,join_one,List.nil_append],.inl Z⟩
 | cons x r=>
  refine ⟨x++joinTail sep r++sep,?_,.inr ⟨x++joinTail sep r,Z⟩⟩;rw [List.cons_append,join_cons];simp [joinTail,List.append_assoc]
theorem BX {p:ba}(hp:OkP p){types:List ar}(ht:OkT types){sm:Az}(hs:Ev2 (λ n _=>eq n p) (·=sm))(hsm:sm.length<=1000):Ev2 (λ n _=>ir n p types) (λ r=>(∃ l,r=Lib.join (l++[sm]) [10]++[10])/\r.length<=100000000000000):=by
 have h1:=hp.c;have h2:=hp.d;have h3:=hp.m;have h4:=hp.o;simp only [ir];refine aI (Ln 16000) (bw (f:=λ n m=>dJ n p types m [] 0) ?_) (λ a ha=>?_)
 ·refine dz (λ n m i (l:List Az)=>dJ n p types m l i) p.Et.length (λ i l=>Ln (2000*i) l) (λ i l hi hl k=>?_) (λ l hl=>?_) [] ⟨by simp,λ x hx=>by cases hx⟩
  ·have hll:=hl.1;simp only [dJ];refine aO O (am O (aI _ (zl (hp.ds _ (Go.Ab.cm O)) ht) (λ r hr=>?_)));have hrl:=hr.1;exact am O (am (aN O O) (k _ (by have:=hl.app (j:=2000) hr; rwa [show 2000*i+2000=2000*(i+1) by omega] at this)))
  ·simp only [dJ];exact aM O (ac ⟨by have:=hl.1; omega,hl.2⟩)
 refine aI (Ln 16008) (bw (f:=λ _ m=>dK p m a 0) ?_) (λ b hb=>?_)
 ·refine dz (λ _ m i (l:List Az)=>dK p m l i) p.Eu.length (λ i l=>Ln (16000+i) l) (λ i l hi hl k=>?_) (λ l hl=>?_) a ha
  ·have hll:=hl.1;obtain ⟨m1,m2⟩:=hp.ms _ (Go.Ab.cm (l:=p.Eu) (i:=(i:Int)) O);simp only [dK];refine aO O (am O (am (by simp only [bt,d4]; omega) (am (by simp only [aq,bt,d4]; omega) (am (by simp only [aq,bt,d4]; omega) (am (by rw [List.length_singleton]; omega) (am (aN O O) (k _ (hl.app (j:=1) ⟨by simp,Shr.one ?_⟩))))))));simp only [aq,bt,d4]; omega
  ·simp only [dK];exact aM O (ac ⟨by have:=hl.1; omega,hl.2⟩)
 refine aI (Ln 32008) (bw (f:=λ n m=>dM n p types m b 0) ?_) (λ c hc=>?_)
 ·refine dz (λ n m i (l:List Az)=>dM n p types m l i) p.En.length (λ i l=>Ln (16008+2000*i) l) (λ i l hi hl k=>?_) (λ l hl=>?_) b hb
  ·have hll:=hl.1;simp only [dM];refine aO O (am O (aI _ (ti ht _) (λ s hs=>aI _ (w6 (hp.cs _ (Go.Ab.cm O)) hs.1 hs.2) (λ r hr=>?_))));have hrl:=hr.1;exact am O (am (aN O O) (k _ (by have:=hl.app (j:=2000) hr; rwa [show 16008+2000*i+2000=16008+2000*(i+1) by omega] at this)))
  ·simp only [dM];exact aM O (ac ⟨by have:=hl.1; omega,hl.2⟩)
 refine aI (Ln 32016) (bw (f:=λ n m=>dN n p m c 0) ?_) (λ d hd=>?_)
 ·refine dz (λ n m i (l:List Az)=>dN n p m l i) p.D'.length (λ i l=>Ln (32008+i) l) (λ i l hi hl k=>?_) (λ l hl=>?_) c hc
  ·have hll:=hl.1;have ho:=hp.os _ (Go.Ab.cm (l:=p.D') (i:=(i:Int)) O);have hon:=ho.n;simp only [dN];refine aO O (aI (Ln (32008+i+1)) (am O (av _ (oH ho.b.2 _) (al (λ _=>?_) (λ _=>ac ⟨by omega,hl.2⟩)))) (λ l' hl'=>am (aN O O) (k l' hl')));refine am (by simp only [bt,d4]; omega) (am (by simp only [aq,bt,d4]; omega) (aI _ (rf ho.b ho.bn _) (λ x hx=>?_)));refine am (by simp only [aq,bt,d4]; omega) (am (by simp only [aq,bt,d4]; omega) (aI _ (rf ho.f ho.fn _) (λ y hy=>?_)));refine am (by simp only [aq,bt,d4]; omega) (am (by rw [List.length_singleton]; omega) (ac (hl.app (j:=1) ⟨by simp,Shr.one ?_⟩)));simp only [aq,bt,d4]; omega
  ·simp only [dN];exact aM O (ac ⟨by have:=hl.1; omega,hl.2⟩)
 have hd1:=hd.1;have hj:=Bc [10] Z (d++[sm]) (hd.2.app (Shr.one O));rw [aq,List.length_singleton] at hj;refine av _ hs (am (by rw [List.length_singleton]; omega) ?_);unfold strings_Join;refine av (Lib.join (d++[sm]) [10]) (am ⟨by rw [aq,List.length_singleton]; omega,by omega⟩ (ac Z)) (am (by rw [List.length_singleton]; omega) (ac ⟨⟨d,Z⟩,by rw [aq,List.length_singleton]; omega⟩))
theorem xZ {v:aa}(hb:aa.Bd v):Ev2 (λ n _=>fO n v) (λ r=>r=true->VV v/\bX v<=60) :=
 fe (oG (Q:=True) hb (fe (nR hb) (λ _ q z=>⟨q z,trivial⟩))) (λ _ h z=>⟨(h z).1,(h z).2.1⟩)
theorem Db {p:ba}{types:List ar}(hp:ba.Bd p)(ht:∀ x∈types,ar.Bd x)(htl:types.length<=536870912):Ev2 (λ n _=>l6 n p types) (λ r=>r=true->OkP p/\OkT types):=by
 have b1:=hp.bChanges;have b2:=hp.bDrift;have b3:=hp.bMoved;have b4:=hp.bOutputs;unfold bf at b1 b2 b3 b4;simp only [l6]
 have hbs:∀ x∈types,BdS x.EF:=λ x hx=>by
  have h:=(ht x hx).bSchema;exact ⟨λ a ha=>(h.eAttrs a ha).bType,λ k hk a ha=>((h.eNested k hk).eAttrs a ha).bType⟩
 refine aI (λ r=>r=false->p.En.length<=8/\p.Et.length<=8/\p.Eu.length<=8/\p.D'.length<=8/\types.length<=8) (al (λ _=>ac (λ z=>by cases z)) (λ h1=>al (λ _=>ac (λ z=>by cases z)) (λ h2=>al (λ _=>ac (λ z=>by cases z)) (λ h3=>al (λ _=>ac (λ z=>by cases z)) (λ h4=>ac (λ z=>by have:=of_decide_eq_false z; omega)))))) (λ r hr=>al (λ _=>ac (λ z=>by cases z)) (λ h=>?_));obtain ⟨n1,n2,n3,n4,n5⟩:=hr (by simpa using h);refine lF (I:=∀ j:Nat,j<types.length->mw (lat types (j:Int)).EF) (Q:=λ e=>e=false) (bw (f:=λ n m=>fu n types m 0) ?_) (λ i1=>?_) (λ e he z=>by rw [he] at z; cases z) (id:Nat->Nat)
 ·refine lC (λ n m i=>fu n types m i) types.length (λ i=>∀ j:Nat,j<i->mw (lat types (j:Int)).EF) (λ e=>e=false) (λ i hi hI P g1 g2=>?_) ?_ (λ j hj=>by omega)
  ·simp only [fu];have hm:lat types (i:Int)∈types:=Go.Ab.cm O;have hnl:=(ht _ hm).bSchema.bNested;unfold bf at hnl;refine aO O (am O (aI _ (wE O (hbs _ hm)) (λ r hr=>al (λ _=>ac (g1 _ rfl)) (λ h=>?_))));refine jw (bw (f:=λ _ m=>fv types (i:Int) m 0) ?_);refine dz (λ _ m k (_:Unit)=>fv types (i:Int) m k) i (λ _ _=>True) (λ j _ hj _ k2=>?_) (λ _ _=>?_) () trivial
   ·simp only [fv];exact aO O (am O (am O (al (λ _=>ac (g1 _ rfl)) (λ _=>am (aN O O) (k2 () trivial)))))
   ·simp only [fv];refine aM O (ac (am (aN O O) (g2 (λ j hj=>?_))));rcases Nat.lt_or_ge j i with z|z
    ·exact hI j z
    ·obtain rfl:j=i:=by omega
     exact hr (nf h)
  ·simp only [fu];exact aM O (ac rfl)
 refine lF (I:=∀ j:Nat,j<p.En.length->OkC (lat p.En (j:Int))) (Q:=λ e=>e=false) (bw (f:=λ n m=>fq n p m 0) ?_) (λ i2=>?_) (λ e he z=>by rw [he] at z; cases z) (id:Nat->Nat)
 ·refine lC (λ n m i=>fq n p m i) p.En.length (λ i=>∀ j:Nat,j<i->OkC (lat p.En (j:Int))) (λ e=>e=false) (λ i hi hI P g1 g2=>?_) ?_ (λ j hj=>by omega)
  ·simp only [fq];have hm:lat p.En (i:Int)∈p.En:=Go.Ab.cm O;refine aO O (am O (aI _ (wO (hp.eChanges _ hm)) (λ r hr=>al (λ _=>ac (g1 _ rfl)) (λ h=>am (aN O O) (g2 (λ j hj=>?_))))));rcases Nat.lt_or_ge j i with z|z
   ·exact hI j z
   ·obtain rfl:j=i:=by omega
    exact hr (nf h)
  ·simp only [fq];exact aM O (ac rfl)
 refine lF (I:=∀ j:Nat,j<p.Et.length->OkD (lat p.Et (j:Int))) (Q:=λ e=>e=false) (bw (f:=λ n m=>fo n p m 0) ?_) (λ i3=>?_) (λ e he z=>by rw [he] at z; cases z) (id:Nat->Nat)
 ·refine lC (λ n m i=>fo n p m i) p.Et.length (λ i=>∀ j:Nat,j<i->OkD (lat p.Et (j:Int))) (λ e=>e=false) (λ i hi hI P g1 g2=>?_) ?_ (λ j hj=>by omega)
  ·simp only [fo];have hm:lat p.Et (i:Int)∈p.Et:=Go.Ab.cm O;have hd:=hp.eDrift _ hm;have hdd:=hd.bDeposed;unfold bf at hdd;refine aO O (aI (λ r=>r=false->OkD (lat p.Et (i:Int))) (am O (aI _ (xZ hd.bBefore) (λ r1 h1=>al (λ _=>ac (λ z=>by cases z)) (λ z1=>am O (aI _ (xZ hd.bAfter) (λ r2 h2=>al (λ _=>ac (λ z=>by cases z)) (λ z2=>am O (ac (λ z=>⟨by have:=of_decide_eq_false z; omega,hdd,(h1 (nf z1)).1,(h1 (nf z1)).2,(h2 (nf z2)).1,(h2 (nf z2)).2⟩))))))))) (λ r hr=>al (λ _=>ac (g1 _ rfl)) (λ h=>am (aN O O) (g2 (λ j hj=>?_)))));rcases Nat.lt_or_ge j i with z|z
   ·exact hI j z
   ·obtain rfl:j=i:=by omega
    exact hr (by simpa using h)
  ·simp only [fo];exact aM O (ac rfl)
 refine lF (I:=∀ j:Nat,j<p.D'.length->OkO (lat p.D' (j:Int))) (Q:=λ e=>e=false) (bw (f:=λ n m=>fp n p m 0) ?_) (λ i4=>ac (λ _=>?_)) (λ e he z=>by rw [he] at z; cases z) (id:Nat->Nat)
 ·refine lC (λ n m i=>fp n p m i) p.D'.length (λ i=>∀ j:Nat,j<i->OkO (lat p.D' (j:Int))) (λ e=>e=false) (λ i hi hI P g1 g2=>?_) ?_ (λ j hj=>by omega)
  ·simp only [fp];have hm:lat p.D' (i:Int)∈p.D':=Go.Ab.cm O;have hd:=hp.eOutputs _ hm;have hdn:=hd.bName;unfold bf at hdn;refine aO O (am O (aI (λ r=>r=false->OkO (lat p.D' (i:Int))) ?_ (λ r hr=>al (λ _=>ac (g1 _ rfl)) (λ h=>am (aN O O) (g2 (λ j hj=>?_))))))
   ·refine aI _ (sw hd.bBefore 60 (by decide) (by decide)) (λ r1 h1=>al (λ _=>ac (λ z=>by cases z)) (λ z1=>?_));refine aI _ (sw hd.bAfter 60 (by decide) (by decide)) (λ r2 h2=>al (λ _=>ac (λ z=>by cases z)) (λ z2=>?_));refine aI _ (nR hd.bBefore) (λ r3 h3=>al (λ z3=>?_) (λ _=>ac (λ z=>by cases z)));refine aI _ (nR hd.bAfter) (λ r4 h4=>ac (λ z=>?_));have q1:=h1 (nf z1);have q2:=h2 (nf z2);exact ⟨hdn,⟨h3 z3,hd.bBefore⟩,by omega,⟨h4 (by simpa using z),hd.bAfter⟩,by omega⟩
   ·rcases Nat.lt_or_ge j i with z|z
    ·exact hI j z
    ·obtain rfl:j=i:=by omega
     exact hr (by simpa using h)
  ·simp only [fp];exact aM O (ac rfl)
 ·have at_mem:∀ {α:Type} [Inhabited α] {l:List α} {Q:α->Prop},(∀ j:Nat,j<l.length->Q (lat l (j:Int)))->∀ x∈l,Q x:=λ h x hx=>by
   obtain ⟨j,hj,rfl⟩:=List.getElem_of_mem hx;rw [<- gv _ j hj]; exact h j hj
  refine ⟨⟨n1,n2,n3,n4,at_mem i2,at_mem i3,λ x hx=>?_,at_mem i4⟩,⟨n5,at_mem (Q:=λ x:ar=>mw x.EF) i1,hbs⟩⟩;have h:=hp.eMoved x hx;have h1:=h.bFrom;have h2:=h.bTo;unfold bf at h1 h2;exact ⟨h1,h2⟩
theorem zN (aw:Ev2 (λ n _=>gu n) (·=true)){p:ba}{types:List ar}(hp:ba.Bd p)(ht:∀ x∈types,ar.Bd x)(htl:types.length<=536870912):Ev2 (λ n _=>g8 n p types) (·=true):=by
 simp only [g8];refine aI _ (Db hp ht htl) (λ r hr=>al (λ _=>av _ aw (ac rfl)) (λ h=>?_));obtain ⟨op,ot⟩:=hr (nf h);obtain ⟨sm,hsm,hs⟩:=wZ (xf op.c op.o (λ x hx=>(op.os x hx).b.2));refine aI _ (BX op ot hs hsm) (λ s E6=>?_);obtain ⟨⟨l,rfl⟩,E9⟩:=E6;obtain ⟨pre,e,hpre⟩:=zh [10] l sm;rw [e] at E9 ⊢;refine av _ hs (am (by rw [List.length_singleton]; omega) ?_);have hS:(pre++sm++[10]).length=pre.length+(sm++[10]).length:=by simp only [aq]; omega
 have hD:(pre++sm++[10]).drop pre.length=sm++[10]:=by rw [List.append_assoc,List.drop_left]
 have hB:∀ q,pre=q++[10]->byt (pre++sm++[10]) ((q.length:Nat):Int)=10:=λ q hq=>by
  rw [iA,hq];simp
 generalize sm++[10]=T at hS hD;generalize pre++sm++[10]=S at E9 hS hD hB;refine av false (aM O (am (aN O O) (am O (ac ?_)))) (aM (by decide) (av true (al (λ _=>av _ aw (ac Z)) (λ Fo=>?_)) (ac Z)))
 ·rw [ko,show ((S.length:Int)-(T.length:Int)).toNat=pre.length by omega,hD];simp
 ·have hp0:pre≠[]:=λ z=>Fo (by rw [hS,z]; simp);rcases hpre with z|⟨q,hq⟩
  ·exact absurd z hp0
  ·have hql:pre.length=q.length+1:=by rw [hq]; simp
   have hi:(S.length:Int)-(T.length:Int)-1=((q.length:Nat):Int):=by omega
   refine am (aN O O) (am (aN O O) (am O ?_));rw [hi];exact aO (hB q hq) (av _ aw (ac Z))
end Go.Ab.R06
end
section
namespace Go.Ab.R06
open Go.Ab
theorem vB (m:Nat):gu (m+60)=some true:=by kernel_rfl
theorem w9:Ev2 (λ n _=>gu n) (·=true):=⟨true,Z,60,λ n _ hn _=>by
  obtain ⟨m,rfl⟩:∃ m,n=m+60:=⟨n-60,by omega⟩
  exact vB m⟩
end Go.Ab.R06
end
