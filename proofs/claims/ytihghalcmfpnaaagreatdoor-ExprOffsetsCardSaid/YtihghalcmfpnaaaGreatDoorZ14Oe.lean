/- Texts of the proof, one behind the other. No statement is proved here. -/
import Derived.Lib.IndexLaws
import Derived.Lib.Bytes2
import Derived.Test.YtihghalcmfpnaaaGreatDoorZ14Oa
import Derived.Test.YtihghalcmfpnaaaGreatDoorZ14Ob
import Derived.Test.YtihghalcmfpnaaaGreatDoorZ14Oc
import Derived.Test.YtihghalcmfpnaaaGreatDoorZ14Od
set_option maxHeartbeats 4000000
section
namespace Go.Ab.R06
open Go.Ab Go.Ab.RB Go.Lib
def pz (s l:Bytes):Int:=(s.length:Int) - (l.length:Int)
theorem uR {s l:Bytes}(h:l <:+ s):pz s l=((s.length - l.length:Nat):Int):=by
 have:=h.length_le
 unfold pz; omega
theorem rT {s l:Bytes}(h:l <:+ s):s.drop (s.length - l.length)=l:=by
 obtain ⟨t,rfl⟩:=h
 simp
theorem iM {s r:Bytes}{b:UInt8}(h:(b::r) <:+ s):r <:+ s:=(List.suffix_cons b r).trans h
theorem xy {s l:Bytes}(k:Nat)(h:l <:+ s):l.drop k <:+ s:=(List.drop_suffix k l).trans h
theorem nq {s r:Bytes}{b:UInt8}:pz s r=pz s (b::r)+1:=by
 unfold pz; simp only [List.length_cons]; omega
theorem rf {s l:Bytes}{k:Nat}(hk:k≤l.length):pz s (l.drop k)=pz s l+(k:Int):=by
 unfold pz; rw [List.length_drop]; omega
theorem yg {s l:Bytes}(h:l <:+ s):0≤pz s l:=by have:=h.length_le; unfold pz; omega
theorem xF {s l:Bytes}:pz s l≤s.length:=by unfold pz; omega
theorem yk {s r:Bytes}{b:UInt8}:pz s (b::r) < s.length:=by unfold pz; simp only [List.length_cons]; omega
theorem BF (s:Bytes):pz s s=0:=by unfold pz; omega
theorem lY {s r:Bytes}{b:UInt8}(h:(b::r) <:+ s):byt s (pz s (b::r))=(b.toNat:Int):=by
 rw [uR h,gj]
 have h1:=rT h
 have h2:s.length - (b::r).length < s.length:=by have:=h.length_le; simp only [List.length_cons] at this ⊢; omega
 rw [List.drop_eq_getElem_cons h2] at h1
 rw [List.getD_eq_getElem?_getD,List.getElem?_eq_getElem h2]
 exact congrArg _ (congrArg _ (List.cons.inj h1).1)
theorem pB {s l:Bytes}(h:l <:+ s):sub s (pz s l) (s.length:Int)=l:=by
 rw [iU,uR h,Int.toNat_natCast,rT h]
theorem x9 {s l l':Bytes}(h:l <:+ s)(h':l' <:+ l):sub s (pz s l) (pz s l')=l.take (l.length - l'.length):=by
 have h1:=h.length_le
 have h2:=h'.length_le
 rw [uR h,uR (h'.trans h),x5,List.drop_take,rT h]
 congr 1; omega
def ke (b:UInt8):Bool:=decide (b.toNat=32)||decide (b.toNat=9)||decide (b.toNat=13)
def jA (b:UInt8):Nat:=if nS b then 2 else if gS b then 3 else if b.toNat=34 then 5 else if b.toNat=10 then 6 else if b.toNat=35 then 7 else if ke b then 1 else if (lat gW (b.toNat:Int)).toNat=4 then 4 else 0
theorem EI:(List.range 256).all (λ n=>(lat gW ((UInt8.ofNat n).toNat:Int)).toNat == jA (UInt8.ofNat n))=true:=by decide +kernel
theorem pG (b:UInt8):(lat gW (b.toNat:Int)).toNat=jA b:=by
 have:=List.all_eq_true.1 EI b.toNat (List.mem_range.2 (UInt8.toNat_lt b))
 rw [UInt8.ofNat_toNat] at this
 exact eq_of_beq this
theorem qg {s r:Bytes}{b:UInt8}(h:(b::r) <:+ s):(0:Int)≤byt s (pz s (b::r))∧byt s (pz s (b::r)) < 256:=by
 rw [lY h]
 have:=UInt8.toNat_lt b
 omega
theorem mW {s r:Bytes}{b:UInt8}(h:(b::r) <:+ s):(0:Int)≤pz s (b::r)∧pz s (b::r) < (s.length:Int):=⟨yg h,yk⟩
theorem iB (b:UInt8):(jA b=1↔ke b=true)∧(jA b=2↔nS b=true)∧(jA b=3↔gS b=true)∧(jA b=5↔b.toNat=34)∧(jA b=6↔b.toNat=10)∧(jA b=7↔b.toNat=35):=by
 have h1:=pi b
 have h2:=mI b
 have h3:ke b=true↔b.toNat=32∨b.toNat=9∨b.toNat=13:=by simp [ke,or_assoc]
 unfold jA
 repeat' split
 all_goals (refine ⟨?_,?_,?_,?_,?_,?_⟩ <;> simp_all <;> omega)
def scx (s l:Bytes)(o:Int)(d:ap):aa:=.mk s (pz s l) o d
theorem kG (s l:Bytes)(o:Int)(d:ap):bO (scx s l o d)=some (!l.isEmpty,scx s l o d):=by
 unfold bO scx
 simp only [Option.some.injEq,Prod.mk.injEq,and_true]
 cases l with
 | nil=>simp [pz]
 | cons b r=>simp only [List.isEmpty_cons,Bool.not_false,decide_eq_true_eq]; exact yk
def fm (c:Bool)(l:Bytes):Bytes :=
 match l.dropWhile ke with
 | b::r=>if c&&decide (b.toNat=35) then (b::r).dropWhile (λ x=>!decide (x=10)) else b::r
 | []=>[]
theorem lU {p:UInt8→Bool}(l:Bytes):l.dropWhile p <:+ l:=List.dropWhile_suffix p
theorem pO (c:Bool)(l:Bytes):fm c l <:+ l:=by
 unfold fm
 have h:=lU (p:=ke) l
 split
 ·rename_i b r hb
  rw [hb] at h
  split
  ·exact (lU _).trans h
  ·exact h
 ·exact List.nil_suffix
theorem vH:∀ (l:Bytes),(indexByte l 10 < 0→l.dropWhile (λ x=>!decide (x=10))=[])∧(0≤indexByte l 10→l.dropWhile (λ x=>!decide (x=10))=l.drop (indexByte l 10).toNat∧(indexByte l 10).toNat < l.length)
 | []=>by simp [indexByte]
 | b::r=>by
  have ih:=vH r
  have hge:=indexByte_ge r 10
  unfold indexByte
  by_cases h:b=10
  ·subst h; simp
  ·rw [if_neg (by simpa using h)]
   simp only [List.dropWhile_cons,h,decide_false,Bool.not_false,if_true]
   by_cases hn:indexByte r 10 < 0
   ·rw [if_pos (by rw [beq_iff_eq]; omega)]
    exact ⟨λ _=>ih.1 hn,λ h=>by omega⟩
   ·rw [if_neg (by rw [beq_iff_eq]; omega)]
    have:=ih.2 O
    refine ⟨λ h=>by omega,λ _=>⟨?_,?_⟩⟩
    ·rw [this.1,show (indexByte r 10+1).toNat=(indexByte r 10).toNat+1 by omega,List.drop_succ_cons]
    ·simp only [List.length_cons]; omega
theorem EY (l:Bytes):strings_IndexByte l 10=some (indexByte l 10):=rfl
theorem tY {s r:Bytes}{b:UInt8}{o:Int}{d:ap}(h:(b::r) <:+ s)(h1:jA b≠1)(h7:¬ (jA b=7∧o < 0)):Ev2 (λ _ m=>aX m (scx s (b::r) o d)) (·=.inr (scx s (b::r) o d)):=by
 refine aV ?_
 simp only [aX]
 refine ao _ (au (kG s (b::r) o d) Z) (aj G ?_)
 simp only [scx]
 refine ar (mW h) (ar (qg h) ?_)
 simp only [lY h,pG]
 refine jJ _ (ai O ?_) Z
 by_cases h7':jA b=7
 ·exact ao false (aj O (ab (decide_eq_false O))) (ai G (ab Z))
 ·exact ao false (ai O (ab Z)) (ai G (ab Z))
theorem vC {s:Bytes}{o:Int}{d:ap}:Ev2 (λ _ m=>aX m (scx s [] o d)) (·=.inl (scx s [] o d)):=by
 refine aV ?_
 simp only [aX]
 exact ao _ (au (kG s [] o d) Z) (ai G (ab Z))
def skR (c:Bool)(l:Bytes)(x:aa):aa⊕aa:=if (fm c l).isEmpty then .inl x else .inr x
theorem yr (s:Bytes)(hs:s.length≤1000000000)(o:Int)(d:ap):∀ (l:Bytes),l <:+ s→Ev2 (λ _ m=>aX m (scx s l o d)) (·=skR (decide (o < 0)) l (scx s (fm (decide (o < 0)) l) o d))
 | [],_=>vC
 | b::r,h=>by
  by_cases h1:jA b=1
  ·have hb:=(iB b).1.1 h1
   have e:fm (decide (o < 0)) (b::r)=fm (decide (o < 0)) r:=by
    unfold fm; rw [List.dropWhile_cons_of_pos hb]
   unfold skR
   rw [e]
   have ih:=yr s hs o d r (iM h)
   unfold skR at ih
   refine aV ?_
   simp only [aX]
   refine ao _ (au (kG s (b::r) o d) Z) (aj G ?_)
   simp only [scx]
   have:=mW h
   refine ar (mW h) (ar (qg h) ?_)
   simp only [lY h,pG]
   refine fE (scx s r o d) (aj O (ar (aG O O) (ab ?_))) ih
   rw [scx,show pz s r=pz s (b::r)+1 from nq]
  ·have hb:¬ ke b=true:=λ q=>h1 ((iB b).1.2 q)
   have e0:(b::r).dropWhile ke=b::r:=List.dropWhile_cons_of_neg hb
   by_cases h7:jA b=7∧o < 0
   ·have h35:=(iB b).2.2.2.2.2.1 h7.1
    have e:fm (decide (o < 0)) (b::r)=(b::r).dropWhile (λ x=>!decide (x=10)):=by
     unfold fm; rw [e0]; simp [h7.2,h35]
    have hsf:(b::r).dropWhile (λ x=>!decide (x=10)) <:+ s:=(lU _).trans h
    have hi:=vH (b::r)
    have hat:=mW h
    have hge:=indexByte_ge (b::r) 10
    unfold skR
    rw [e]
    refine aV ?_
    simp only [aX]
    refine ao _ (au (kG s (b::r) o d) Z) (aj G ?_)
    simp only [scx]
    refine ar (mW h) (ar (qg h) ?_)
    simp only [lY h,pG]
    refine fE (scx s ((b::r).dropWhile (λ x=>!decide (x=10))) o d) (ai O (ao true (aj O (ab (decide_eq_true h7.2))) (aj Z (ar O ?_)))) ?_
    ·rw [pB h]
     refine ao _ (au (EY _) Z) ?_
     by_cases hn:indexByte (b::r) 10 < 0
     ·rw [hi.1 hn]
      refine ao ((s.length:Int) - pz s (b::r)) (aj hn (ar (aG O O) (ab Z))) (ar (aG O O) (ab ?_))
      rw [scx]; congr 2; unfold pz; simp only [List.length_nil,List.length_cons]; omega
     ·have hh:=hi.2 O
      rw [hh.1]
      refine ao (indexByte (b::r) 10) (ai hn (ab Z)) (ar (aG (by have:=xF (s:=s) (l:=b::r); omega) (by unfold pz at hat ⊢; omega)) (ab ?_))
      rw [scx,rf O]; congr 2; omega
    ·generalize hq:(b::r).dropWhile (λ x=>!decide (x=10))=q at hsf
     cases q with
     | nil=>exact vC
     | cons c t =>
      have hc:c=10:=by
       have:=List.head?_dropWhile_not (λ x:UInt8=>!decide (x=10)) (b::r)
       rw [hq] at this
       simpa using this
      subst hc
      exact tY hsf (by decide) (λ q=>absurd q.1 (by decide))
   ·have e:fm (decide (o < 0)) (b::r)=b::r:=by
     unfold fm; rw [e0]
     have:(decide (o < 0)&&decide (b.toNat=35))=false:=by
      rw [Bool.and_eq_false_iff,decide_eq_false_iff_not,decide_eq_false_iff_not]
      by_cases q:o < 0
      ·exact .inr λ w=>h7 ⟨(iB b).2.2.2.2.2.2 w,q⟩
      ·exact .inl q
     simp only [this]
     rfl
    unfold skR
    rw [e]
    exact tY h h1 h7
theorem yh (s l:Bytes)(hs:s.length≤1000000000)(h:l <:+ s)(o:Int)(d:ap):Ev2 (λ n _=>cN n (scx s l o d)) (·=scx s (fm (decide (o < 0)) l) o d):=by
 simp only [cN]
 refine eg (cA (bS (f:=λ _ m=>aX m (scx s l o d)) (yr s hs o d l h)) λ r hr=>?_)
 subst hr
 unfold skR
 split
 ·rename_i hx
  split at hx
  ·cases hx; exact ab rfl
  ·cases hx
 ·rename_i hx
  split at hx
  ·cases hx
  ·cases hx; rfl
def uK:List Bytes:=[[61,62],[61,61],[33,61],[60,61],[62,61],[38,38],[124,124]]
def wh:Bytes:=[123,125,91,93,40,41,44,61,60,62,43,45,42,47,37,33,63,58,46]
def Dt:Bytes→Bytes
 | []=>[]
 | b::_=>if indexByte wh b < 0 then [] else [b]
theorem tB (b:UInt8)(r:Bytes):Dt (b::r)=if indexByte wh b < 0 then [] else [b]:=rfl
def iD (l:Bytes):Bytes:=match uK.find? (λ t=>hasPrefix l t) with
 | some t=>t
 | none=>Dt l
theorem AN (l:Bytes):∀ (j k:Nat),k+j=7→Ev2 (λ _ m=>cE l m (k:Int)) (·=match (uK.drop k).find? (λ t=>hasPrefix l t) with | some t=>.inr t | none=>.inl ())
 | 0,k,hk=>by
  have:k=7:=by omega
  subst this
  refine aV ?_
  simp only [cE]
  exact ai O (ab Z)
 | j+1,k,hk=>by
  have hk7:k < uK.length:=by show k < 7; omega
  refine aV ?_
  simp only [cE]
  refine aj O (ar O ?_)
  have e:lat ([([61,62]:Bytes),([61,61]:Bytes),([33,61]:Bytes),([60,61]:Bytes),([62,61]:Bytes),([38,38]:Bytes),([124,124]:Bytes)]:List Bytes) (k:Int)=uK[k]:=nr uK k hk7
  rw [e,List.drop_eq_getElem_cons hk7,List.find?_cons]
  refine ao (hasPrefix l uK[k]) (au Z Z) ?_
  cases hp:hasPrefix l uK[k]
  ·refine ai G (ar (aG O O) ?_)
   exact AN l j (k+1) O
  ·exact aj Z (ab Z)
theorem tq (l:Bytes)(hl:l.length≤1000000000):Ev2 (λ n _=>eP n l) (·=iD l):=by
 simp only [eP]
 refine eg (cA (bS (f:=λ _ m=>cE l m 0) (AN l 7 0 Z)) λ r hr=>?_)
 subst hr
 unfold iD
 rw [List.drop_zero]
 cases uK.find? (λ t=>hasPrefix l t) with
 | some t=>rfl
 | none =>
  cases l with
  | nil=>exact ao true (aj Z (ab Z)) (aj Z (ab Z))
  | cons b r =>
   have hb:byt (b::r) 0=(b.toNat:Int):=rfl
   refine ao (decide (indexByte wh b < 0)) (ai G (ar (by simp only [List.length_cons]; omega) ?_)) ?_
   ·rw [hb]
    refine ao (indexByte wh b) (au ?_ Z) (ab Z)
    unfold strings_IndexByte
    rw [Int.toNat_natCast]
    congr 2
    exact UInt8.ofNat_toNat
   ·simp only [tB]
    by_cases h:indexByte wh b < 0
    ·rw [if_pos h]
     exact aj (by simpa using h) (ab Z)
    ·rw [if_neg h]
     exact ai (by simpa using h) (ar (by simp only [List.length_cons]; omega) (ab Z))
theorem rD {l:Bytes}(hs:iD l≠[]):1≤(iD l).length∧(iD l).length≤l.length:=by
 have h0:1≤(iD l).length:=by cases h:iD l with | nil=>exact absurd h hs | cons _ _=>simp
 refine ⟨h0,?_⟩
 unfold iD
 cases h:uK.find? (λ t=>hasPrefix l t) with
 | some t=>exact hasPrefix_le (List.find?_some h)
 | none =>
  cases l with
  | nil=>exact Nat.le_refl _
  | cons b r =>
   show (Dt (b::r)).length≤_
   rw [tB]
   split <;> simp
def jp:Bytes→Bool
 | []=>false
 | b::r=>nS b||gS b||decide (b.toNat=34)||decide (b.toNat=10)||!(iD (b::r)).isEmpty
theorem jT (b:UInt8)(r:Bytes):jp (b::r)=(nS b||gS b||decide (b.toNat=34)||decide (b.toNat=10)||!(iD (b::r)).isEmpty):=rfl
theorem tA (s:Bytes)(hs:s.length≤1000000000){b:UInt8}{r:Bytes}(h:(b::r) <:+ s)(o:Int)(d:ap):Ev2 (λ n _=>cz n (scx s (b::r) o d)) (·=(jp (b::r),scx s (b::r) o d)):=by
 obtain ⟨f1,f2,f3,f4,f5,f6⟩:=iB b
 have hat:=mW h
 simp only [cz,scx]
 refine ar hat (ar (qg h) ?_)
 simp only [lY h,pG]
 refine ao (nS b||gS b||decide (b.toNat=34)||decide (b.toNat=10)) (aP (λ q=>ab ?_) (λ q2=>aP (λ q=>ab ?_) (λ q3=>aP (λ q=>ab ?_) (λ q5=>ab ?_)))) ?_
 ·rw [f2.1 O]; rfl
 ·rw [f3.1 O]; simp
 ·rw [decide_eq_true (f4.1 O)]; simp
 ·have e2:nS b=false:=by rw [Bool.eq_false_iff]; exact λ w=>q2 (by rw [f2.2 w]; rfl)
  have e3:gS b=false:=by rw [Bool.eq_false_iff]; exact λ w=>q3 (by rw [f3.2 w]; rfl)
  have e5:¬ b.toNat=34:=λ w=>q5 (by rw [f4.2 w]; rfl)
  rw [e2,e3,decide_eq_false e5]
  refine eqB ?_
  simp only [Bool.or_false,Bool.false_or,decide_eq_true_eq]
  constructor
  ·intro w; exact f5.1 O
  ·intro w; rw [f5.2 w]; rfl
 ·refine aP (λ q=>ab ?_) (λ q=>ar ⟨hat.1,by omega,by omega⟩ ?_)
  ·rw [jT,q]; rfl
  ·rw [pB h]
   refine ao _ (tq (b::r) (by have:=h.length_le; omega)) (ab ?_)
   rw [Bool.not_eq_true] at q
   rw [jT,q,Bool.false_or]
   congr 1
   cases iD (b::r) <;> simp
theorem AQ (s:Bytes)(hs:s.length≤1000000000)(o:Int)(d:ap)(p:UInt8→Bool)(x y:Nat)(hp:∀ c,p c=true↔jA c=x∨jA c=y):∀ (l:Bytes),l <:+ s→Ev2 (λ _ m=>bH (x:Int) (y:Int) m (scx s l o d)) (·=scx s (l.dropWhile p) o d)
 | [],_=>by
  refine aV ?_
  simp only [bH]
  refine ao (false,scx s [] o d) (ao _ (au (kG s [] o d) Z) (ai G (ab Z))) (ai G (ab Z))
 | b::r,h=>by
  have hat:=mW h
  refine aV ?_
  simp only [bH]
  refine ao (p b,scx s (b::r) o d) (ao _ (au (kG s (b::r) o d) Z) (aj G ?_)) ?_
  ·simp only [scx]
   refine ar hat (ar (qg h) ?_)
   simp only [lY h,pG]
   refine aP (λ q=>ab ?_) (λ q=>ar hat (ar ?_ (ab ?_)))
   ·rw [(hp b).2 (.inl O)]
   ·have:=UInt8.toNat_lt b; omega
   ·congr 1
    refine eqB ?_
    rw [decide_eq_true_eq,hp b]
    omega
  ·cases hb:p b
   ·rw [List.dropWhile_cons_of_neg (by simp [hb])]
    exact ai G (ab Z)
   ·rw [List.dropWhile_cons_of_pos hb]
    refine aj Z ?_
    simp only [scx]
    refine ar (aG O O) ?_
    rw [← show pz s r=pz s (b::r)+1 from nq]
    exact AQ s hs o d p x y hp r (iM h)
theorem CW (p:UInt8→Bool)(l:Bytes):l.take (l.length - (l.dropWhile p).length)=l.takeWhile p:=by
 have h:=List.takeWhile_append_dropWhile (p:=p) (l:=l)
 have hl:=congrArg List.length h
 rw [List.length_append] at hl
 conv=>lhs; rw [← h]
 rw [List.take_append_of_le_length (by rw [h]; omega),List.take_of_length_le (by rw [h]; omega)]
theorem w9 (s l:Bytes)(hs:s.length≤1000000000)(h:l <:+ s)(o:Int)(d:ap)(p:UInt8→Bool)(x y:Nat)(hp:∀ c,p c=true↔jA c=x∨jA c=y):Ev2 (λ n _=>cY n (scx s l o d) (x:Int) (y:Int)) (·=(l.takeWhile p,scx s (l.dropWhile p) o d)):=by
 simp only [cY]
 refine ao _ (bS (f:=λ _ m=>bH (x:Int) (y:Int) m (scx s l o d)) (AQ s hs o d p x y hp l h)) ?_
 simp only [scx]
 have h1:=yg h
 have h2:pz s l≤pz s (l.dropWhile p):=by have:=(lU (p:=p) l).length_le; unfold pz; omega
 refine ar ⟨h1,h2,xF⟩ (ab ?_)
 rw [x9 h (lU l),CW]
theorem zZ (c:UInt8):idB c=true↔jA c=2∨jA c=3:=by
 obtain ⟨f1,f2,f3,f4,f5,f6⟩:=iB c
 rw [f2,f3]; simp [idB]
theorem CY (c:UInt8):gS c=true↔jA c=3∨jA c=3:=by
 obtain ⟨f1,f2,f3,f4,f5,f6⟩:=iB c
 rw [f3]; simp
theorem nG (s l:Bytes)(o:Int)(d:ap)(k a:Int):cP (scx s l o d) k a=some (false,scx s l o (ap.mk k a [])):=rfl
theorem Cw (s:Bytes)(hs:s.length≤1000000000){b:UInt8}{r:Bytes}(h:(b::r) <:+ s)(o:Int)(d:ap):Ev2 (λ _ _=>dX (scx s (b::r) o d)) (·=if ln (decodeL (b::r)) then (false,scx s (b::r) o d) else (true,scx s ((b::r).drop (decodeL (b::r)).2) o d)):=by
 have hat:=mW h
 simp only [dX,scx]
 refine ar ⟨hat.1,by omega,by omega⟩ ?_
 rw [pB h]
 have hd:aZ (b::r)=some (((decodeL (b::r)).1:Int),((decodeL (b::r)).2:Int)):=by
  unfold aZ
  rw [oG _ G]
 refine ao _ (au hd Z) ?_
 have hdf:=jb (b::r) G
 have hlen:=h.length_le
 generalize decodeL (b::r)=D at hdf ⊢
 obtain ⟨c,w⟩:=D
 simp only at hdf ⊢
 have hbad:Ev2 (λ _ _=>(if (c:Int)=65533 then if (w:Int)=1 then some true else if (c:Int) < 32 then some true else some (decide ((c:Int)=127)) else if (c:Int) < 32 then some true else some (decide ((c:Int)=127)):Option Bool)) (·=decide (ln (c,w))):=by
  refine aP (λ h1=>aP (λ h2=>ab ?_) (λ h2=>aP (λ h3=>ab ?_) (λ h3=>ab (eqB ?_)))) (λ h1=>aP (λ h3=>ab ?_) (λ h3=>ab (eqB ?_)))
  ·symm; rw [decide_eq_true_eq]; left; simp only; omega
  ·symm; rw [decide_eq_true_eq]; right; left; simp only; omega
  ·rw [decide_eq_true_eq,decide_eq_true_eq]; unfold ln; simp only; omega
  ·symm; rw [decide_eq_true_eq]; right; left; simp only; omega
  ·rw [decide_eq_true_eq,decide_eq_true_eq]; unfold ln; simp only; omega
 refine ao _ hbad ?_
 by_cases hb:ln (c,w)
 ·rw [if_pos hb]
  exact aj (by simpa using hb) (ab Z)
 ·rw [if_neg hb]
  refine ai (by simpa using hb) (ar (aG O (by have:=xF (s:=s) (l:=b::r); omega)) (ab ?_))
  rw [rf hdf.2.1]
abbrev SE:=Int×Option Nat
def jv (src:Bytes→SE⊕Bytes):Bytes→SE⊕(Int×Bytes×Bytes)
 | []=>.inl (2,some 0)
 | b::r=>if nS b=true then (if 64 < ((b::r).takeWhile idB).length then .inl (7,some (b::r).length) else .inr (1,(b::r).takeWhile idB,(b::r).dropWhile idB))
  else if gS b=true then .inr (2,(b::r).takeWhile gS,(b::r).dropWhile gS)
  else if b.toNat=10 then .inr (5,[10],r)
  else if b.toNat=34 then (match src r with | .inl e=>.inl e | .inr r'=>.inr (3,r.take (r.length - r'.length - 1),r'))
  else if iD (b::r)=[] then .inl (2,some (b::r).length) else .inr (4,iD (b::r),(b::r).drop (iD (b::r)).length)
mutual
def fK:Nat→Nat→Bytes→SE⊕Bytes
 | 0,_,_=>.inl (40,none)
 | _+1,_,[]=>.inl (40,none)
 | f+1,k,b::r=>if b.toNat=34 then .inr r
  else if hasPrefix (b::r) [36,36,123]=true then fK f k ((b::r).drop 3)
  else if hasPrefix (b::r) [36,123]=true then (if 32≤k then .inl (4,some (b::r).length) else match jH f (k+1) 1 ((b::r).drop 2) with | .inl e=>.inl e | .inr l=>fK f k l)
  else match (if b.toNat=92 then r else b::r) with
   | []=>.inl (40,none)
   | c::t=>if ln (decodeL (c::t)) then .inl (2,some (c::t).length) else fK f k ((c::t).drop (decodeL (c::t)).2)
def jH:Nat→Nat→Nat→Bytes→SE⊕Bytes
 | 0,_,_,_=>.inl (40,none)
 | f+1,k,n,l=>match fm false l with
  | []=>.inl (40,none)
  | b::r=>match jv (fK f k) (b::r) with
   | .inl e=>.inl e
   | .inr (c,t,l')=>if c=4∧t=[125] then (if n=1 then .inr l' else jH f k (n - 1) l') else if c=4∧t=[123] then jH f k (n+1) l' else jH f k n l'
end
theorem j1 (src:Bytes→SE⊕Bytes)(b:UInt8)(r:Bytes):jv src (b::r)=if nS b=true then (if 64 < ((b::r).takeWhile idB).length then .inl (7,some (b::r).length) else .inr (1,(b::r).takeWhile idB,(b::r).dropWhile idB))
  else if gS b=true then .inr (2,(b::r).takeWhile gS,(b::r).dropWhile gS)
  else if b.toNat=10 then .inr (5,[10],r)
  else if b.toNat=34 then (match src r with | .inl e=>.inl e | .inr r'=>.inr (3,r.take (r.length - r'.length - 1),r'))
  else if iD (b::r)=[] then .inl (2,some (b::r).length) else .inr (4,iD (b::r),(b::r).drop (iD (b::r)).length):=rfl
theorem nH (f k:Nat)(b:UInt8)(r:Bytes):fK (f+1) k (b::r)=if b.toNat=34 then .inr r
  else if hasPrefix (b::r) [36,36,123]=true then fK f k ((b::r).drop 3)
  else if hasPrefix (b::r) [36,123]=true then (if 32≤k then .inl (4,some (b::r).length) else match jH f (k+1) 1 ((b::r).drop 2) with | .inl e=>.inl e | .inr l=>fK f k l)
  else match (if b.toNat=92 then r else b::r) with
   | []=>.inl (40,none)
   | c::t=>if ln (decodeL (c::t)) then .inl (2,some (c::t).length) else fK f k ((c::t).drop (decodeL (c::t)).2):=by rw [fK]; rfl
def AP (q:Nat→Bytes→SE⊕Bytes)(n:Nat):SE⊕(Int×Bytes×Bytes)→SE⊕Bytes
 | .inl e=>.inl e
 | .inr (c,t,l')=>if c=4∧t=[125] then (if n=1 then .inr l' else q (n - 1) l') else if c=4∧t=[123] then q (n+1) l' else q n l'
def D5 (q:Nat→Bytes→SE⊕Bytes)(src:Bytes→SE⊕Bytes)(n:Nat):Bytes→SE⊕Bytes
 | []=>.inl (40,none)
 | b::r=>AP q n (jv src (b::r))
theorem Bp (q:Nat→Bytes→SE⊕Bytes)(src:Bytes→SE⊕Bytes)(n:Nat):D5 q src n []=.inl (40,none):=rfl
theorem nt (q:Nat→Bytes→SE⊕Bytes)(src:Bytes→SE⊕Bytes)(n:Nat)(b:UInt8)(r:Bytes):D5 q src n (b::r)=AP q n (jv src (b::r)):=rfl
theorem rJ (q:Nat→Bytes→SE⊕Bytes)(n:Nat)(e:SE):AP q n (.inl e)=.inl e:=rfl
theorem oM (q:Nat→Bytes→SE⊕Bytes)(n:Nat)(c:Int)(t l':Bytes):AP q n (.inr (c,t,l'))=if c=4∧t=[125] then (if n=1 then .inr l' else q (n - 1) l') else if c=4∧t=[123] then q (n+1) l' else q n l':=rfl
theorem nA (f k n:Nat)(l:Bytes):jH (f+1) k n l=D5 (jH f k) (fK f k) n (fm false l):=by
 rw [jH]
 cases fm false l with
 | nil=>rfl
 | cons b r =>
  show (match jv (fK f k) (b::r) with
   | .inl e=>.inl e
   | .inr (c,t,l')=>if c=4∧t=[125] then (if n=1 then .inr l' else jH f k (n - 1) l') else if c=4∧t=[123] then jH f k (n+1) l' else jH f k n l')=AP (jH f k) n (jv (fK f k) (b::r))
  cases jv (fK f k) (b::r) with
  | inl e=>rfl
  | inr z=>rfl
theorem ki {src:Bytes→SE⊕Bytes}{l:Bytes}(hsrc:∀ r r',r.length < l.length→src r=.inr r'→r' <:+ r∧r'.length < r.length){c:Int}{t l':Bytes}(h:jv src l=.inr (c,t,l')):l' <:+ l∧l'.length < l.length:=by
 cases l with
 | nil=>cases h
 | cons b r =>
  rw [j1] at h
  split at h
  ·rename_i hb
   split at h
   ·cases h
   ·cases h
    refine ⟨lU _,?_⟩
    rw [List.dropWhile_cons_of_pos (by simp [idB,hb])]
    exact Nat.lt_succ_of_le (lU r).length_le
  split at h
  ·rename_i hb
   cases h
   refine ⟨lU _,?_⟩
   rw [List.dropWhile_cons_of_pos hb]
   exact Nat.lt_succ_of_le (lU r).length_le
  split at h
  ·cases h; exact ⟨List.suffix_cons _ _,Nat.lt_succ_self _⟩
  split at h
  ·split at h
   ·cases h
   ·rename_i r' hr
    cases h
    obtain ⟨h1,h2⟩:=hsrc r _ (Nat.lt_succ_self _) hr
    exact ⟨h1.trans (List.suffix_cons _ _),Nat.lt_succ_of_lt h2⟩
  split at h
  ·cases h
  ·rename_i hs
   cases h
   have:=rD hs
   refine ⟨List.drop_suffix _ _,?_⟩
   rw [List.length_drop]; simp only [List.length_cons] at this ⊢; omega
theorem ii:∀ (f k:Nat),(∀ l l',fK f k l=.inr l'→l' <:+ l∧l'.length < l.length)∧(∀ n l l',jH f k n l=.inr l'→l' <:+ l∧l'.length < l.length)
 | 0,k=>⟨λ l l' h=>(by rw [fK] at h; cases h),λ n l l' h=>(by rw [jH] at h; cases h)⟩
 | f+1,k=>by
  have ih:=ii f
  constructor
  ·intro l l' h
   cases l with
   | nil=>rw [fK] at h; cases h
   | cons b r =>
    rw [nH] at h
    split at h
    ·cases h; exact ⟨List.suffix_cons _ _,Nat.lt_succ_self _⟩
    split at h
    ·obtain ⟨h1,h2⟩:=(ih k).1 _ _ h
     exact ⟨h1.trans (List.drop_suffix _ _),by have:=List.length_drop (i:=3) (l:=b::r); simp only [List.length_cons] at this ⊢; omega⟩
    split at h
    ·split at h
     ·cases h
     ·split at h
      ·cases h
      ·rename_i l1 hl1
       obtain ⟨h1,h2⟩:=(ih (k+1)).2 _ _ _ hl1
       obtain ⟨h3,h4⟩:=(ih k).1 _ _ h
       exact ⟨h3.trans (h1.trans (List.drop_suffix _ _)),by have:=List.length_drop (i:=2) (l:=b::r); simp only [List.length_cons] at this ⊢; omega⟩
    ·have hs:(if b.toNat=92 then r else b::r) <:+ b::r:=by split; exact List.suffix_cons _ _; exact List.suffix_rfl
     split at h
     ·cases h
     ·rename_i c t hct
      rw [hct] at hs
      split at h
      ·cases h
      ·obtain ⟨h1,h2⟩:=(ih k).1 _ _ h
       exact ⟨h1.trans ((List.drop_suffix _ _).trans hs),by have:=hs.length_le; have:=(List.drop_suffix (decodeL (c::t)).2 (c::t)).length_le; omega⟩
  ·intro n l l' h
   rw [nA] at h
   have hs:=pO false l
   generalize hbr:fm false l=l0 at h hs
   cases l0 with
   | nil=>cases h
   | cons b r =>
    rw [nt] at h
    cases hl1:jv (fK f k) (b::r) with
    | inl e=>rw [hl1] at h; cases h
    | inr z =>
     obtain ⟨c,t,l1⟩:=z
     rw [hl1,oM] at h
     obtain ⟨h1,h2⟩:=ki (λ r r' _ hr=>(ih k).1 _ _ hr) hl1
     have h3:=hs.length_le
     have key:∀ n,jH f k n l1=.inr l'→l' <:+ l∧l'.length < l.length:=λ n hn=>by
      obtain ⟨h4,h5⟩:=(ih k).2 _ _ _ hn
      exact ⟨h4.trans (h1.trans hs),by omega⟩
     split at h
     ·split at h
      ·cases h; exact ⟨h1.trans hs,by omega⟩
      ·exact key _ h
     split at h
     ·exact key _ h
     ·exact key _ h
def qY (s:Bytes)(o:Int)(e:SE):ap:=ap.mk e.1 (match e.2 with | some n=>(s.length:Int) - (n:Int) | none=>o) []
def zg (s:Bytes)(o o':Int)(d:ap)(q:SE⊕Bytes)(r:Bool×aa):Prop:=match q with
 | .inl e=>r.1=false∧r.2.fbad=qY s o e
 | .inr l=>r=(true,scx s l o' d)
def Dw (s l:Bytes)(o o':Int)(d:ap)(q:SE⊕(Int×Bytes×Bytes))(r:ae×Bool×aa):Prop:=match q with
 | .inl e=>r.2.1=false∧r.2.2.fbad=qY s o e
 | .inr (c,t,l')=>r=(ae.mk c t (pz s l),true,scx s l' o' d)
theorem Bl {s:Bytes}(hs:s.length≤1000000000){o o':Int}{d:ap}{k:Nat}{src:Bytes→SE⊕Bytes}{b:UInt8}{r:Bytes}(h:(b::r) <:+ s)(hsuf:∀ l',src r=.inr l'→l' <:+ r∧l'.length < r.length)(ho:¬ b.toNat=34→o'=(scx s (b::r) o d).fouter)
  {oE:Int} (hsrc:b.toNat=34→Ev2 (λ n _=>bR n (scx s (b::r) o d) (k:Int)) (zg s oE o' d (src r))) (hb:jp (b::r)=true) :
  Ev2 (λ n _=>aQ n (scx s (b::r) o d) (k:Int)) (Dw s (b::r) oE o' d (jv src (b::r))):=by
 obtain ⟨f1,f2,f3,f4,f5,f6⟩:=iB b
 have hat:=mW h
 have hle:=h.length_le
 refine cj ?_
 simp only [aQ]
 rw [j1]
 have hat':(0:Int)≤(scx s (b::r) o d).fat∧(scx s (b::r) o d).fat < ((scx s (b::r) o d).fs.length:Int):=hat
 refine ar hat' (ar (qg h) ?_)
 simp only [show byt (scx s (b::r) o d).fs (scx s (b::r) o d).fat=(b.toNat:Int) from lY h,pG]
 by_cases h2:nS b=true
 ·have hn34:¬ b.toNat=34:=λ q=>by have:=(pi b).1 h2; omega
  rw [if_pos h2]
  have hc:=f2.2 h2
  by_cases hl:64 < ((b::r).takeWhile idB).length
  ·rw [if_pos hl]
   refine eg (aj O (ao _ (w9 s (b::r) hs h o d idB 2 3 zZ) (aj (by simp only; omega) (ao _ (au (nG _ _ _ _ _ _) Z) (ab ?_)))))
   exact ⟨Z,Z⟩
  ·rw [if_neg hl]
   refine eg (aj O (ao _ (w9 s (b::r) hs h o d idB 2 3 zZ) (ai (by simp only; omega) (ab (ab ?_)))))
   rw [ho hn34]; rfl
 rw [if_neg h2]
 have c2:¬ ((jA b:Nat):Int)=2:=λ q=>h2 (f2.1 O)
 by_cases h3:gS b=true
 ·have hn34:¬ b.toNat=34:=λ q=>by have:=(mI b).1 h3; omega
  rw [if_pos h3]
  have hc:=f3.2 h3
  refine eg (ai c2 (aj O (ao _ (w9 s (b::r) hs h o d gS 3 3 CY) (ab (ab ?_)))))
  rw [ho hn34]; rfl
 rw [if_neg h3]
 have c3:¬ ((jA b:Nat):Int)=3:=λ q=>h3 (f3.1 O)
 by_cases h10:b.toNat=10
 ·rw [if_pos h10]
  have hc:=f5.2 h10
  refine eg (ai c2 (ai c3 (aj O (ar (aG (by show _≤pz s (b::r)+1; omega) (by show pz s (b::r)+1≤_; omega)) (ab (ab ?_))))))
  rw [ho O]
  show (ae.mk 5 [10] (pz s (b::r)),true,aa.mk s (pz s (b::r)+1) o d)=_
  rw [← show pz s r=pz s (b::r)+1 from nq]; rfl
 rw [if_neg h10]
 have c6:¬ ((jA b:Nat):Int)=6:=λ q=>h10 (f5.1 O)
 by_cases h34:b.toNat=34
 ·rw [if_pos h34]
  have hc:=f4.2 h34
  refine eg (ai c2 (ai c3 (ai c6 (aj O (af _ (hsrc h34) λ x hx=>?_)))))
  cases hq:src r with
  | inl e =>
   rw [hq] at hx
   exact aj (by rw [hx.1]; rfl) (ab ⟨Z,hx.2⟩)
  | inr l' =>
   rw [hq] at hx
   obtain ⟨g1,g2⟩:=hsuf l' hq
   have hx:x=(true,scx s l' o' d):=hx
   subst hx
   have e1:(scx s (b::r) o d).fat+1=pz s r:=(nq (b:=b)).symm
   have hl':l' <:+ s:=g1.trans (iM h)
   have e2:(scx s l' o' d).fat - 1=(s.length:Int) - ((l'.length+1:Nat):Int):=by show pz s l' - 1=_; unfold pz; omega
   have hrl:=(iM h).length_le
   have hd:r.drop (r.length - (l'.length+1)) <:+ r:=List.drop_suffix _ _
   have hdl:(r.drop (r.length - (l'.length+1))).length=l'.length+1:=by rw [List.length_drop]; omega
   have e3:(scx s l' o' d).fat - 1=pz s (r.drop (r.length - (l'.length+1))):=by rw [e2]; unfold pz; rw [hdl]
   refine ai G (ar (aG (by show _≤pz s (b::r)+1; omega) (by show pz s (b::r)+1≤_; omega)) (ar (aG (by rw [e2]; omega) (by rw [e2]; omega)) (ar ?_ (ab (ab ?_)))))
   ·rw [e1,e3]
    refine ⟨yg (iM h),?_,xF⟩
    unfold pz; rw [hdl]; omega
   ·show _=_
    rw [e1,e3,show sub (scx s l' o' d).fs (pz s r) (pz s (r.drop (r.length - (l'.length+1))))=_ from x9 (iM h) hd,hdl,show r.length - (l'.length+1)=r.length - l'.length - 1 by omega]
    rfl
 rw [if_neg h34]
 have c5:¬ ((jA b:Nat):Int)=5:=λ q=>h34 (f4.1 O)
 have hsn:iD (b::r)≠[]:=by
  rw [jT,Bool.not_eq_true _ |>.mp h2,Bool.not_eq_true _ |>.mp h3,decide_eq_false h34,decide_eq_false h10] at hb
  intro q; rw [q] at hb; cases hb
 rw [if_neg hsn]
 have hsl:=rD hsn
 refine eg (ai c2 (ai c3 (ai c6 (ai c5 (ar ⟨hat.1,by show pz s (b::r)≤(s.length:Int); omega,by show (s.length:Int)≤(s.length:Int); omega⟩ ?_)))))
 rw [show sub (scx s (b::r) o d).fs (scx s (b::r) o d).fat ((scx s (b::r) o d).fs.length:Int)=b::r from pB h]
 refine ao _ (tq (b::r) O) (ar (aG (by show _≤pz s (b::r)+_; omega) (by show pz s (b::r)+_≤_; omega)) (ab (ab ?_)))
 rw [ho h34]
 show (ae.mk 4 (iD (b::r)) (pz s (b::r)),true,aa.mk s (pz s (b::r)+((iD (b::r)).length:Int)) o d)=_
 rw [← rf hsl.2]; rfl
def xj (s:Bytes)(o:Int)(d:ap)(q:SE⊕Bytes)(r:aa⊕(Bool×aa)):Prop:=match r with
 | .inl x=>x=scx s [] o d∧q=.inl (40,none)
 | .inr y=>zg s o o d q y
def BI (s:Bytes)(o:Int)(d:ap)(q:SE⊕Bytes)(r:aa⊕(Bool×aa)):Prop:=match r with
 | .inl x=>∃ l,q=.inr l∧x=scx s l o d
 | .inr y=>∃ e,q=.inl e∧y.1=false∧y.2.fbad=qY s o e
theorem Bc {src:Bytes→SE⊕Bytes}{b:UInt8}{r:Bytes}(h:jp (b::r)=false):jv src (b::r)=.inl (2,some (b::r).length):=by
 rw [jT] at h
 simp only [Bool.or_eq_false_iff,decide_eq_false_iff_not,Bool.not_eq_false',List.isEmpty_iff] at h
 obtain ⟨⟨⟨⟨h1,h2⟩,h3⟩,h4⟩,h5⟩:=h
 rw [j1,if_neg (by simp [h1]),if_neg (by simp [h2]),if_neg h4,if_neg h3,if_pos h5]
theorem qw {s:Bytes}(hs:s.length≤1000000000){o:Int}{d:ap}{k:Nat}{b:UInt8}{r:Bytes}(h:(b::r) <:+ s){q:SE⊕Bytes}(hl:Ev2 (λ n m=>aI (aC n) (k:Int) m (scx s r o d)) (xj s o d q)) :
  Ev2 (λ n _=>bY n (scx s (b::r) o d) (k:Int)) (zg s o o d q):=by
 have hat:=mW h
 have hle:=h.length_le
 refine cj ?_
 simp only [bY]
 refine ar (aG (by show _≤pz s (b::r)+1; omega) (by show pz s (b::r)+1≤_; omega)) ?_
 have e:aa.mk (scx s (b::r) o d).fs ((scx s (b::r) o d).fat+1) (scx s (b::r) o d).fouter (scx s (b::r) o d).fbad=scx s r o d:=by
  show aa.mk s (pz s (b::r)+1) o d=_
  rw [← show pz s r=pz s (b::r)+1 from nq]; rfl
 rw [e]
 refine eg (cA (bS (f:=λ n m=>aI (aC n) (k:Int) m (scx s r o d)) hl) λ x hx=>?_)
 cases x with
 | inl x =>
  obtain ⟨rfl,rfl⟩:=hx
  exact ao _ (au (nG _ _ _ _ _ _) Z) (ab ⟨Z,Z⟩)
 | inr y=>exact hx
theorem yL {s:Bytes}(hs:s.length≤1000000000){o:Int}(ho:0≤o){d:ap}{k:Nat}{b:UInt8}{r:Bytes}(h:(b::r) <:+ s){q:SE⊕Bytes}(hl:Ev2 (λ n m=>aI (aC n) (k:Int) m (scx s r o d)) (xj s o d q)) :
  Ev2 (λ n _=>bR n (scx s (b::r) o d) (k:Int)) (zg s o o d q):=by
 refine cj ?_
 simp only [bR]
 exact ai (by show ¬ o < 0; omega) (qw hs h hl)
theorem wV {s:Bytes}(hs:s.length≤1000000000){d:ap}{k:Nat}{b:UInt8}{r:Bytes}(h:(b::r) <:+ s){q:SE⊕Bytes}(hl:Ev2 (λ n m=>aI (aC n) (k:Int) m (scx s r (pz s (b::r)) d)) (xj s (pz s (b::r)) d q)) :
  Ev2 (λ n _=>bR n (scx s (b::r) (-1) d) (k:Int)) (zg s (pz s (b::r)) (-1) d q):=by
 refine cj ?_
 simp only [bR]
 refine aj (by show (-1:Int) < 0; omega) (af _ (qw hs h hl) λ x hx=>ab ?_)
 cases q with
 | inl e=>exact hx
 | inr l =>
  have hx:x=(true,scx s l (pz s (b::r)) d):=hx
  subst hx; rfl
theorem sw (s:Bytes)(b:UInt8)(r:Bytes)(o:Int)(d:ap):bO (scx s (b::r) o d)=some (true,scx s (b::r) o d):=kG _ _ _ _
theorem rq (s:Bytes)(o:Int)(d:ap):bO (scx s [] o d)=some (false,scx s [] o d):=kG _ _ _ _
theorem AK (l p:Bytes):strings_HasPrefix l p=some (hasPrefix l p):=rfl
theorem xZ {s l:Bytes}{o:Int}{d:ap}{k:Nat}(hk:k≤l.length):aa.mk s (pz s l+(k:Int)) o d=scx s (l.drop k) o d:=by rw [scx,rf hk]
theorem we {s r:Bytes}{b:UInt8}{o:Int}{d:ap}:aa.mk s (pz s (b::r)+1) o d=scx s r o d:=by rw [scx,show pz s r=pz s (b::r)+1 from nq]
theorem zN {s:Bytes}(hs:s.length≤1000000000){o:Int}{d:ap}{f k:Nat}
  (ih1:∀ l,l <:+ s→l.length < f→Ev2 (λ n m=>aI (aC n) (k:Int) m (scx s l o d)) (xj s o d (fK f k l)))
  (ih2:∀ l,l <:+ s→l.length < f→k < 32→Ev2 (λ nn m=>aD nn (aQ nn) (k:Int) m 1 (scx s l o d)) (BI s o d (jH f (k+1) 1 l))) :
  ∀ l,l <:+ s→l.length < f+1→Ev2 (λ n m=>aI (aC n) (k:Int) m (scx s l o d)) (xj s o d (fK (f+1) k l)):=by
 intro l h hf
 refine aV ?_
 simp only [aI]
 cases l with
 | nil =>
  refine ao _ (au (rq s o d) Z) (ai G (ab ⟨Z,?_⟩))
  rw [fK]
 | cons b r =>
  have hat:=mW h
  have hle:=h.length_le
  have hfr:r.length < f:=by simp only [List.length_cons] at hf; omega
  refine ao _ (au (sw s b r o d) Z) (aj Z (ar ⟨hat.1,by show pz s (b::r)≤(s.length:Int); omega,by show (s.length:Int)≤(s.length:Int); omega⟩ ?_))
  rw [nH]
  simp only [show sub (scx s (b::r) o d).fs (scx s (b::r) o d).fat ((scx s (b::r) o d).fs.length:Int)=b::r from pB h,show byt (b::r) 0=(b.toNat:Int) from rfl]
  refine eg (ar (by simp only [List.length_cons]; omega) ?_)
  by_cases h34:b.toNat=34
  ·rw [if_pos h34]
   refine aj O (ar (aG (by show _≤pz s (b::r)+1; omega) (by show pz s (b::r)+1≤_; omega)) (ab ?_))
   show (true,aa.mk s (pz s (b::r)+1) o d)=_
   rw [we]
  rw [if_neg h34]
  refine ai O (ao _ (au (AK _ _) Z) ?_)
  by_cases h3:hasPrefix (b::r) [36,36,123]=true
  ·rw [if_pos h3]
   have hp:=hasPrefix_le h3
   simp only [List.length_cons,List.length_nil] at hp
   refine aj h3 (ar (aG (by show _≤pz s (b::r)+3; omega) (by show pz s (b::r)+3≤_; omega)) (ab ?_))
   have:=ih1 ((b::r).drop 3) (xy 3 h) (by rw [List.length_drop]; simp only [List.length_cons]; omega)
   rw [← xZ (k:=3) (by simp only [List.length_cons]; omega)] at this
   exact this
  rw [if_neg h3]
  refine ai h3 (ao _ (au (AK _ _) Z) ?_)
  by_cases h2:hasPrefix (b::r) [36,123]=true
  ·rw [if_pos h2]
   have hp:=hasPrefix_le h2
   simp only [List.length_cons,List.length_nil] at hp
   refine aj h2 (af (zg s o o d (if 32≤k then .inl (4,some (b::r).length) else jH f (k+1) 1 ((b::r).drop 2))) ?_ λ x hx=>?_)
   ·refine cj ?_
    simp only [aC]
    by_cases hk:32≤k
    ·rw [if_pos hk]
     exact aj O (ao _ (au (nG _ _ _ _ _ _) Z) (ab ⟨Z,Z⟩))
    ·rw [if_neg hk]
     refine ai O (ar (aG (by show _≤pz s (b::r)+2; omega) (by show pz s (b::r)+2≤_; omega)) ?_)
     have:=ih2 ((b::r).drop 2) (xy 2 h) (by rw [List.length_drop]; simp only [List.length_cons]; omega) O
     rw [← xZ (k:=2) (by simp only [List.length_cons]; omega)] at this
     refine eg (cA (bS (f:=λ nn m=>aD nn (aQ nn) (k:Int) m 1 (aa.mk s (pz s (b::r)+2) o d)) this) λ y hy=>?_)
     cases y with
     | inl y =>
      obtain ⟨l',e1,rfl⟩:=hy
      rw [e1]
      exact ab Z
     | inr y =>
      obtain ⟨e,e1,e2,e3⟩:=hy
      rw [e1]
      exact ⟨e2,e3⟩
   ·by_cases hk:32≤k
    ·rw [if_pos hk] at hx ⊢
     exact aj (by rw [hx.1]; rfl) (ab ⟨Z,hx.2⟩)
    ·rw [if_neg hk] at hx ⊢
     cases hq:jH f (k+1) 1 ((b::r).drop 2) with
     | inl e =>
      rw [hq] at hx
      exact aj (by rw [hx.1]; rfl) (ab ⟨Z,hx.2⟩)
     | inr l' =>
      rw [hq] at hx
      have hx:x=(true,scx s l' o d):=hx
      subst hx
      obtain ⟨g1,g2⟩:=(ii f (k+1)).2 _ _ _ hq
      refine ai G (ab (ih1 l' (g1.trans (xy 2 h)) ?_))
      rw [List.length_drop] at g2; simp only [List.length_cons] at g2; omega
  rw [if_neg h2]
  refine ai h2 (ao (scx s (if b.toNat=92 then r else b::r) o d) (ar (by simp only [List.length_cons]; omega) ?_) ?_)
  ·by_cases h92:b.toNat=92
   ·rw [if_pos h92]
    refine aj O (ar (aG (by show _≤pz s (b::r)+1; omega) (by show pz s (b::r)+1≤_; omega)) (ab ?_))
    show aa.mk s (pz s (b::r)+1) o d=_
    rw [we]
   ·rw [if_neg h92]
    exact ai O (ab Z)
  ·have hsf:(if b.toNat=92 then r else b::r) <:+ s:=by split; exact iM h; exact h
   have hln:(if b.toNat=92 then r else b::r).length≤r.length+1:=by split <;> simp
   generalize (if b.toNat=92 then r else b::r)=l1 at hsf hln ⊢
   cases l1 with
   | nil =>
    refine ao _ (au (rq s o d) Z) (aj Z (ab ?_))
    have:=ih1 [] List.nil_suffix (by simp only [List.length_nil]; omega)
    obtain ⟨f,rfl⟩:∃ g,f=g+1:=⟨f - 1,by omega⟩
    rw [fK] at this
    exact this
   | cons c t =>
    refine ao _ (au (sw s c t o d) Z) (ai G (ao _ (Cw s hs hsf o d) ?_))
    have hdf:=jb (c::t) G
    by_cases hb:ln (decodeL (c::t))
    ·simp only [if_pos hb]
     exact aj Z (ao _ (au (nG _ _ _ _ _ _) Z) (ab ⟨Z,Z⟩))
    ·simp only [if_neg hb]
     refine ai G (ab (ih1 _ (xy _ hsf) ?_))
     rw [List.length_drop]; simp only [List.length_cons] at hln ⊢; omega
theorem AX {s:Bytes}(hs:s.length≤1000000000){o:Int}(ho:0≤o){d:ap}{f k:Nat}(hk:k < 32)
  (ih1:∀ l,l <:+ s→l.length < f→Ev2 (λ n m=>aI (aC n) ((k+1:Nat):Int) m (scx s l o d)) (xj s o d (fK f (k+1) l)))
  (ih2:∀ l n,1≤n→n+l.length≤s.length+1→l <:+ s→l.length < f→Ev2 (λ nn m=>aD nn (aQ nn) (k:Int) m (n:Int) (scx s l o d)) (BI s o d (jH f (k+1) n l))) :
  ∀ l n,1≤n→n+l.length≤s.length+1→l <:+ s→l.length < f+1→Ev2 (λ nn m=>aD nn (aQ nn) (k:Int) m (n:Int) (scx s l o d)) (BI s o d (jH (f+1) (k+1) n l)):=by
 intro l n hn hnl h hf
 refine aV ?_
 simp only [aD]
 rw [nA]
 have hsk:=pO false l
 have hd:decide (o < 0)=false:=decide_eq_false O
 have hskip:=yh s l hs h o d
 rw [hd] at hskip
 refine aj O (eg (ao _ hskip ?_))
 have hsl:=hsk.length_le
 have hss:=hsk.trans h
 generalize fm false l=l1 at hsk hsl hss ⊢
 cases l1 with
 | nil=>exact ao _ (au (rq s o d) Z) (aj Z (ao _ (au (nG _ _ _ _ _ _) Z) (ab ⟨_,Z,Z,Z⟩)))
 | cons b r =>
  refine ao _ (au (sw s b r o d) Z) (ai G (ao _ (tA s hs hss o d) ?_))
  rw [nt]
  cases hb:jp (b::r)
  ·rw [Bc hb,rJ]
   exact aj Z (ao _ (au (nG _ _ _ _ _ _) Z) (ab ⟨_,Z,Z,Z⟩))
  ·have hbl:=hss.length_le
   simp only [List.length_cons] at hsl hbl
   have htok:=Bl (k:=k+1) (src:=fK f (k+1)) (o':=o) (oE:=o) hs hss (λ l' hl'=>(ii f (k+1)).1 _ _ hl') Y (λ _=>yL hs ho hss (ih1 r (iM hss) O)) hb (d:=d)
   refine ai G (ar (aG O O) (af (Dw s (b::r) o o d (jv (fK f (k+1)) (b::r))) htok λ x hx=>?_))
   cases hq:jv (fK f (k+1)) (b::r) with
   | inl e =>
    rw [hq] at hx
    rw [rJ]
    exact aj (by rw [hx.1]; rfl) (ab ⟨e,Z,Z,hx.2⟩)
   | inr z =>
    obtain ⟨c,t,l'⟩:=z
    rw [hq] at hx
    have hx:x=(ae.mk c t (pz s (b::r)),true,scx s l' o d):=hx
    subst hx
    obtain ⟨g1,g2⟩:=ki (λ r r' _ hr=>(ii f (k+1)).1 _ _ hr) hq
    simp only [List.length_cons] at g2
    have hl's:=g1.trans hss
    rw [oM]
    refine ai G (ao (if c=4∧t=[123] then (n:Int)+1 else (n:Int)) (ao (decide (c=4∧t=[123])) (aP (λ q=>ab ?_) (λ q=>ab ?_)) (aP (λ q=>ar (aG O O) (ab ?_)) (λ q=>ab ?_))) (ao (decide (c=4∧t=[125])) (aP (λ q=>ab ?_) (λ q=>ab ?_)) ?_))
    ·simp only [show c=4 from q,true_and]
    ·symm; rw [decide_eq_false_iff_not]; exact λ w=>q w.1
    ·rw [decide_eq_true_eq] at q; rw [if_pos q]
    ·rw [decide_eq_true_eq] at q; rw [if_neg q]
    ·simp only [show c=4 from q,true_and]
    ·symm; rw [decide_eq_false_iff_not]; exact λ w=>q w.1
    by_cases h125:c=4∧t=[125]
    ·have hn123:¬ (c=4∧t=[123]):=λ w=>by rw [h125.2] at w; exact absurd w.2 (by decide)
     rw [if_neg hn123]
     simp only [if_pos h125]
     refine aj (by simpa using h125) (ar (aG O O) (ab ?_))
     by_cases h1:n=1
     ·subst h1
      rw [if_pos rfl]
      refine aV ?_
      simp only [aD]
      exact ai O (ab ⟨l',Z,Z⟩)
     ·rw [if_neg h1]
      have:=ih2 l' (n - 1) O O  hl's O
      rw [show ((n - 1:Nat):Int)=(n:Int) - 1 by omega] at this
      exact this
    ·simp only [if_neg h125]
     refine ai (by simpa using h125) (ab ?_)
     by_cases h123:c=4∧t=[123]
     ·rw [if_pos h123]
      simp only [if_pos h123]
      exact ih2 l' (n+1) O O  hl's O
     ·rw [if_neg h123]
      simp only [if_neg h123]
      exact ih2 l' n hn O hl's O
theorem x6 {s:Bytes}(hs:s.length≤1000000000){o:Int}(ho:0≤o){d:ap}:∀ (f:Nat),
  (∀ (k:Nat) l,l <:+ s→l.length < f→Ev2 (λ n m=>aI (aC n) (k:Int) m (scx s l o d)) (xj s o d (fK f k l))) ∧
  (∀ (k:Nat) l n,k < 32→1≤n→n+l.length≤s.length+1→l <:+ s→l.length < f→Ev2 (λ nn m=>aD nn (aQ nn) (k:Int) m (n:Int) (scx s l o d)) (BI s o d (jH f (k+1) n l)))
 | 0=>⟨λ k l _ h=>absurd h (Nat.not_lt_zero _),λ k l n _ _ _ _ h=>absurd h (Nat.not_lt_zero _)⟩
 | f+1=>by
  obtain ⟨i1,i2⟩:=x6 hs ho (d:=d) f
  refine ⟨λ k=>zN hs (i1 k) (λ l h hf hk=>?_),λ k l n hk=>AX hs ho hk (i1 (k+1)) (λ l n a b c e=>i2 k l n hk a b c e) l n⟩
  exact i2 k l 1 hk (Nat.le_refl _) (by have:=h.length_le; omega) h hf
theorem BP {s:Bytes}(hs:s.length≤1000000000){d:ap}{f:Nat}{b:UInt8}{r:Bytes}(h:(b::r) <:+ s)(hf:r.length < f)(hb:jp (b::r)=true) :
  Ev2 (λ n _=>aQ n (scx s (b::r) (-1) d) 0) (Dw s (b::r) (pz s (b::r)) (-1) d (jv (fK f 0) (b::r))) :=
 Bl (k:=0) hs h (λ l' hl'=>(ii f 0).1 _ _ hl') Y (λ _=>wV hs h ((x6 hs (yg h) f).1 0 r (iM h) hf)) hb
def Co (n:Nat)(e:SE):SE:=(e.1,some (e.2.getD n))
abbrev Tk:=Int×Bytes×Nat
def AU (q:Bytes→SE⊕List Tk)(n:Nat):SE⊕(Int×Bytes×Bytes)→SE⊕List Tk
 | .inl e=>.inl (Co n e)
 | .inr (k,t,l')=>(match q l' with
  | .inl e=>.inl e
  | .inr ts=>.inr ((k,t,n)::ts))
def xM (q:Bytes→SE⊕List Tk)(src:Bytes→SE⊕Bytes)(c:Nat):Bytes→SE⊕List Tk
 | []=>if c=16384 then .inl (14,some 0) else .inr [(6,[],0)]
 | b::r=>if jp (b::r)=false then .inl (2,some (b::r).length) else if c=16384 then .inl (14,some (b::r).length)
   else AU q (b::r).length (jv src (b::r))
def gA:Nat→Nat→Bytes→SE⊕List Tk
 | 0,_,_=>.inl (40,none)
 | f+1,c,l=>xM (gA f (c+1)) (fK f 0) c (fm true l)
theorem iq (f c:Nat)(l:Bytes):gA (f+1) c l=xM (gA f (c+1)) (fK f 0) c (fm true l):=rfl
theorem lB (q:Bytes→SE⊕List Tk)(src:Bytes→SE⊕Bytes)(c:Nat):xM q src c []=if c=16384 then .inl (14,some 0) else .inr [(6,[],0)]:=rfl
theorem ka (q:Bytes→SE⊕List Tk)(src:Bytes→SE⊕Bytes)(c:Nat)(b:UInt8)(r:Bytes):xM q src c (b::r)=if jp (b::r)=false then .inl (2,some (b::r).length) else if c=16384 then .inl (14,some (b::r).length)
   else AU q (b::r).length (jv src (b::r)):=rfl
theorem lq (q:Bytes→SE⊕List Tk)(n:Nat)(k:Int)(t l':Bytes):AU q n (.inr (k,t,l'))=match q l' with
  | .inl e=>.inl e
  | .inr ts=>.inr ((k,t,n)::ts):=rfl
def tkS (s:Bytes)(z:Tk):ae:=ae.mk z.1 z.2.1 ((s.length:Int) - (z.2.2:Int))
def qG (s:Bytes)(out:List ae)(q:SE⊕List Tk):List ae×ap:=match q with
 | .inl e=>([],qY s 0 e)
 | .inr ts=>(out++ts.map (tkS s),ap.mk 0 0 [])
theorem Ap (s l:Bytes)(o:Int)(e:SE):qY s (pz s l) e=qY s o (Co l.length e):=by
 obtain ⟨k,n⟩:=e
 cases n <;> rfl
theorem re {s:Bytes}(hs:s.length≤1000000000){d:ap}:∀ (f:Nat) (l:Bytes) (out:List ae),out.length≤16384→l <:+ s→l.length < f→Ev2 (λ n m=>dG n m out (scx s l (-1) d)) (·=.inr (qG s out (gA f out.length l)))
 | 0,l,out,_,_,h=>absurd h (Nat.not_lt_zero _)
 | f+1,l,out,hout,h,hf=>by
  refine aV ?_
  simp only [dG]
  rw [iq]
  have hsk:=pO true l
  have hskip:=yh s l hs h (-1) d
  rw [show decide ((-1:Int) < 0)=true from rfl] at hskip
  refine ao _ hskip ?_
  have hsl:=hsk.length_le
  have hss:=hsk.trans h
  generalize fm true l=l1 at hsk hsl hss ⊢
  cases l1 with
  | nil =>
   refine ao (false,scx s [] (-1) d) (ao _ (au (rq s (-1) d) Z) (ai G (ab Z))) (ai G ?_)
   rw [lB]
   by_cases hc:out.length=16384
   ·rw [if_pos hc]
    refine aj O (ab ?_)
    rfl
   ·rw [if_neg hc]
    refine ai O (ao _ (au (rq s (-1) d) Z) (aj Z (ar (by simp only [List.length_cons,List.length_nil]; omega) (ab ?_))))
    rfl
  | cons b r =>
   refine ao (!jp (b::r),scx s (b::r) (-1) d) (ao _ (au (sw s b r (-1) d) Z) (aj Z (ao _ (tA s hs hss (-1) d) (ab Z)))) ?_
   rw [ka]
   cases hb:jp (b::r)
   ·exact aj Z (ab Z)
   ·refine ai G ?_
    rw [if_neg G]
    by_cases hc:out.length=16384
    ·rw [if_pos hc]
     exact aj O (ab Z)
    ·rw [if_neg hc]
     simp only [List.length_cons] at hsl
     refine ai O (ao _ (au (sw s b r (-1) d) Z) (ai G (af _ (BP hs hss (f:=f) O hb) λ x hx=>?_)))
     cases hq:jv (fK f 0) (b::r) with
     | inl e =>
      rw [hq] at hx
      refine aj (by rw [hx.1]; rfl) (ab ?_)
      rw [hx.2,Ap s (b::r) 0]
      rfl
     | inr z =>
      obtain ⟨c,t,l'⟩:=z
      rw [hq] at hx
      have hx:x=(ae.mk c t (pz s (b::r)),true,scx s l' (-1) d):=hx
      subst hx
      obtain ⟨g1,g2⟩:=ki (λ r r' _ hr=>(ii f 0).1 _ _ hr) hq
      simp only [List.length_cons] at g2
      have ih:=re hs (d:=d) f l' (out++[ae.mk c t (pz s (b::r))]) (by simp only [List.length_append,List.length_cons,List.length_nil]; omega) (g1.trans hss) O
      simp only [List.length_append,List.length_cons,List.length_nil,Nat.zero_add] at ih
      rw [lq]
      refine ai G (ar (by simp only [List.length_cons,List.length_nil]; omega) (Fg ih ?_))
      congr 1
      cases gA f (out.length+1) l' with
      | inl e=>rfl
      | inr ts =>
       show (_,_)=(_,_)
       rw [List.append_assoc]; rfl
def eJ (s:Bytes):List ae×ap:=if 65536 < s.length then ([],ap.mk 3 0 []) else qG s [] (gA (s.length+1) 0 s)
theorem CR (s:Bytes):Ev2 (λ n _=>gN n s) (·=eJ s):=by
 simp only [gN]
 unfold eJ
 by_cases h:65536 < s.length
 ·rw [if_pos h]
  exact aj O (ab Z)
 ·rw [if_neg h]
  refine ai O (ao (scx s s (-1) (ap.mk 0 0 [])) (au ?_ Z) ?_)
  ·rw [scx,BF]; rfl
  ·have:=re (s:=s) O (d:=ap.mk 0 0 []) (s.length+1) s [] G List.suffix_rfl (Nat.lt_succ_self _)
   exact jJ _ (bS (f:=λ n m=>dG n m [] (scx s s (-1) (ap.mk 0 0 []))) this) Z
def v0:ah:=ah.mk 0 0 [] [] []
def e0:ac:=ac.mk 0 0 [] [] v0 [] 0
def vO (v:ah)(at':Int):ac:=ac.mk 1 0 [] [] v [] at'
def yR (s:Bytes)(at':Int):ac:=vO (ah.mk 3 0 s [] []) at'
def resL:List Bytes:=[[110,117,108,108],[116,114,117,101],[102,97,108,115,101],[102,111,114],[105,110],[105,102]]
def pw (s:Bytes):Bool:=resL.any (λ t=>decide (s=t))
theorem ss (s:Bytes):eW s=some (pw s):=by
 unfold eW pw resL
 simp only [List.any_cons,List.any_nil,Bool.or_false]
 by_cases h1:s=[110,117,108,108]
 ·simp [h1]
 by_cases h2:s=[116,114,117,101]
 ·simp [h2]
 by_cases h3:s=[102,97,108,115,101]
 ·simp [h3]
 by_cases h4:s=[102,111,114]
 ·simp [h4]
 by_cases h5:s=[105,110]
 ·simp [h5]
 by_cases h6:s=[105,102]
 ·simp [h6]
 simp [h1,h2,h3,h4,h5,h6]
def vM (v:ah):Int:=if v.fKind=1∧v.fNum≠0∧v.fNum≠1∨v.fKind≠1∧v.fKind≠2∧v.fNum≠0∨v.fKind≠3∧v.fStr≠[]∨v.fItems≠[]∨v.fKeys≠[] then 1
 else if v.fKind=2∧¬ (-jE≤v.fNum∧v.fNum≤jE) then 5
 else if v.fKind=3∧4096 < v.fStr.length then 3
 else if v.fKind=3∧validD v.fStr=false then 1 else 0
def td (e:ac):Bool:=(gf e).getD false
def pg (e:ac):Int:=if td e=false then 1 else if e.fKind=1 then vM e.fValue
 else if (e.fKind=3∨e.fKind=4∨e.fKind=9∨e.fKind=12∨e.fKind=13)∧(hQ e.fName=false∨e.fKind≠4∧pw e.fName=true) then 7
 else if e.fKey≠[]∧(hQ e.fKey=false∨pw e.fKey=true) then 7 else 0
mutual
def nN:Nat→Nat→ac→Int×Nat
 | c,lv,.mk k op nm key v kids at'=>if 32 < lv then (4,c) else if 4096≤c then (14,c)
  else if pg (.mk k op nm key v kids at')=0 then nT (c+1) (lv+1) kids else (pg (.mk k op nm key v kids at'),c+1)
def nT:Nat→Nat→List ac→Int×Nat
 | c,_,[]=>(0,c)
 | c,lv,x::r=>if (nN c lv x).1=0 then nT (nN c lv x).2 lv r else nN c lv x
end
theorem uO (c lv:Nat)(e:ac):nN c lv e=if 32 < lv then (4,c) else if 4096≤c then (14,c) else if pg e=0 then nT (c+1) (lv+1) e.fKids else (pg e,c+1):=by
 cases e; rw [nN]; rfl
theorem qn (c lv:Nat)(x:ac)(r:List ac):nT c lv (x::r)=if (nN c lv x).1=0 then nT (nN c lv x).2 lv r else nN c lv x:=by rw [nT]
def chk (e:ac):Int:=(nN 0 1 e).1
def nlT (t:ae):Bool:=decide (t.fKind=5)
def nf (b:Bool)(l:List ae):List ae:=if b then l.dropWhile nlT else l
def hd (b:Bool)(l:List ae):ae:=(nf b l).headD (ae.mk 6 [] 0)
def tl (b:Bool)(l:List ae):List ae:=(nf b l).tail
def sgB (b:Bool)(l:List ae)(s:Bytes):Bool:=decide ((hd b l).fKind=4)&&decide ((hd b l).fText=s)
def wdB (b:Bool)(l:List ae)(s:Bytes):Bool:=decide ((hd b l).fKind=1)&&decide ((hd b l).fText=s)
abbrev PE:=Int×Int
abbrev PR (α:Type):=Option (PE⊕(α×List ae))
def pb {α β:Type}(x:PR α)(k:α→List ae→PR β):PR β:=match x with
 | none=>none
 | some (.inl e)=>some (.inl e)
 | some (.inr (a,l))=>k a l
def pok {α:Type}(a:α)(l:List ae):PR α:=some (.inr (a,l))
def per {α:Type}(k a:Int):PR α:=some (.inl (k,a))
def fJ (b:Bool)(s:Bytes)(l:List ae):PR Unit:=if sgB b l s then pok () (tl b l) else per 2 (hd b l).fAt
def uP (b:Bool)(s:Bytes)(l:List ae):PR Unit:=if wdB b l s then pok () (tl b l) else per 2 (hd b l).fAt
def sS (b:Bool)(l:List ae):PR Bytes:=if (hd b l).fKind=1∧pw (hd b l).fText=false then pok (hd b l).fText (tl b l) else per 2 (hd b l).fAt
def tb:Nat→List (Bytes×Int)
 | 0=>[([124,124],3)]
 | 1=>[([38,38],4)]
 | 2=>[([61,61],5),([33,61],6)]
 | 3=>[([60],7),([60,61],8),([62],9),([62,61],10)]
 | 4=>[([43],11),([45],12)]
 | _=>[([42],13),([47],14),([37],15)]
def rz (b:Bool)(l:List ae)(lev:Nat):Option (Bytes×Int):=(tb lev).find? (λ p=>sgB b l p.1)
def mvT (base:Int)(t:ae):ae:=ae.mk t.fKind t.fText (t.fAt+base)
mutual
def gb:Nat→Nat→Bytes→Option (Option Bytes)
 | 0,_,_=>none
 | _+1,_,[]=>some none
 | f+1,d,b::r=>if b.toNat=123 then gb f (d+1) r
  else if b.toNat=125 then (if d=1 then some (some r) else gb f (d - 1) r)
  else if b.toNat=34 then (match iz f r with | none=>none | some none=>some none | some (some r')=>gb f d r')
  else gb f d r
def iz:Nat→Bytes→Option (Option Bytes)
 | 0,_=>none
 | _+1,[]=>some none
 | f+1,b::r=>if b.toNat=34 then some (some r)
  else if b.toNat=92 then iz f (r.drop 1)
  else if hasPrefix (b::r) [36,36,123]=true then iz f ((b::r).drop 3)
  else if hasPrefix (b::r) [36,123]=true then (match gb f 1 ((b::r).drop 2) with | none=>none | some none=>some none | some (some r')=>iz f r')
  else iz f r
end
def jR:Bytes→Int⊕(Bytes×Nat)
 | []=>.inl 40
 | b::r=>if b.toNat=92 then (if (dQ r).2.2=0 then .inr (encodeRune (dQ r).1,(dQ r).2.1.toNat+1) else .inl (dQ r).2.2)
  else if ln (decodeL (b::r))∨b.toNat=34 then .inl 2 else .inr ((b::r).take (decodeL (b::r)).2,(decodeL (b::r)).2)
def flS (frm pos:Int)(text:Bytes)(parts:List ac):List ac:=if frm < pos then parts++[yR text frm] else parts
def lA:PE⊕ac→PE⊕ac
 | .inl e=>.inl e
 | .inr e=>if chk e=0 then .inr e else .inl (chk e,e.fAt)
def Bo:PE⊕ac→ac×ap
 | .inl e=>(e0,ap.mk e.1 e.2 [])
 | .inr e=>(e,ap.mk 0 0 [])
def oc (at':Int):Int×Int×Bytes×List ac×Bool→ac
 | (frm,pos,text,parts,opn)=>if opn then ac.mk 2 0 [] [] v0 (flS frm pos text parts) at' else yR text at'
mutual
def fb:Nat→Bool→List ae→PR ac
 | 0,_,_=>none
 | f+1,b,l=>pb (kW f 0 b l) λ c l=>if sgB b l [63] then pb (fb f b (tl b l)) λ a l=>pb (fJ b [58] l) λ _ l=>pb (fb f b l) λ d l=>pok (ac.mk 8 0 [] [] v0 [c,a,d] c.fAt) l else pok c l
def kW:Nat→Nat→Bool→List ae→PR ac
 | 0,_,_,_=>none
 | f+1,lev,b,l=>if 5 < lev then unS f b l else pb (kW f (lev+1) b l) λ e l=>lN f lev b e l
def lN:Nat→Nat→Bool→ac→List ae→PR ac
 | 0,_,_,_,_=>none
 | f+1,lev,b,e,l=>match rz b l lev with
  | none=>pok e l
  | some p=>pb (kW f (lev+1) b (tl b l)) λ x l=>lN f lev b (ac.mk 7 p.2 [] [] v0 [e,x] e.fAt) l
def unS:Nat→Bool→List ae→PR ac
 | 0,_,_=>none
 | f+1,b,l=>if sgB b l [33] then pb (unS f b (tl b l)) λ e l'=>pok (ac.mk 6 1 [] [] v0 [e] (hd b l).fAt) l'
  else if sgB b l [45] then pb (unS f b (tl b l)) λ e l'=>pok (ac.mk 6 2 [] [] v0 [e] (hd b l).fAt) l'
  else pb (jB f b l) λ e l=>iA f b e l
def iA:Nat→Bool→ac→List ae→PR ac
 | 0,_,_,_=>none
 | f+1,b,e,l=>if sgB b l [46] then (if (hd b (tl b l)).fKind=1 then iA f b (ac.mk 4 0 (hd b (tl b l)).fText [] v0 [e] e.fAt) (tl b (tl b l)) else per 2 (hd b (tl b l)).fAt)
  else if sgB b l [91] then pb (fb f true (tl b l)) λ x l=>pb (fJ true [93] l) λ _ l=>iA f b (ac.mk 5 0 [] [] v0 [e,x] e.fAt) l
  else pok e l
def jB:Nat→Bool→List ae→PR ac
 | 0,_,_=>none
 | f+1,b,l=>if (hd b l).fKind=2 then (if (uZ (hd b l).fText).2=0 then pok (vO (ah.mk 2 (uZ (hd b l).fText).1 [] [] []) (hd b l).fAt) (tl b l) else per (uZ (hd b l).fText).2 (hd b l).fAt)
  else if (hd b l).fKind=3 then mY f b l
  else if (hd b l).fKind=1 then jN f b l
  else if sgB b l [40] then pb (fb f true (tl b l)) λ e l=>pb (fJ true [41] l) λ _ l=>pok e l
  else if sgB b l [91] then (if wdB true (tl b l) [102,111,114] then iX f (hd b l).fAt 12 (tl true (tl b l)) else pb (ga f [93] (tl b l)) λ ks l'=>pok (ac.mk 10 0 [] [] v0 ks (hd b l).fAt) l')
  else if sgB b l [123] then (if wdB true (tl b l) [102,111,114] then iX f (hd b l).fAt 13 (tl true (tl b l)) else pb (lR f (tl b l)) λ ks l'=>pok (ac.mk 11 0 [] [] v0 ks (hd b l).fAt) l')
  else per 2 (hd b l).fAt
def mY:Nat→Bool→List ae→PR ac
 | 0,_,_=>none
 | f+1,b,l=>match gX f (hd b l).fText ((hd b l).fAt+1) with
  | none=>none
  | some (.inl e)=>some (.inl e)
  | some (.inr e)=>pok (ac.mk e.fKind e.fOp e.fName e.fKey e.fValue e.fKids (hd b l).fAt) (tl b l)
def jN:Nat→Bool→List ae→PR ac
 | 0,_,_=>none
 | f+1,b,l=>if (hd b l).fText=[110,117,108,108] then pok (vO v0 (hd b l).fAt) (tl b l)
  else if (hd b l).fText=[116,114,117,101] then pok (vO (ah.mk 1 1 [] [] []) (hd b l).fAt) (tl b l)
  else if (hd b l).fText=[102,97,108,115,101] then pok (vO (ah.mk 1 0 [] [] []) (hd b l).fAt) (tl b l)
  else if pw (hd b l).fText=true then per 2 (hd b l).fAt
  else if sgB b (tl b l) [40] then pb (ga f [41] (tl b (tl b l))) λ ks l'=>pok (ac.mk 9 0 (hd b l).fText [] v0 ks (hd b l).fAt) l'
  else pok (ac.mk 3 0 (hd b l).fText [] v0 [] (hd b l).fAt) (tl b l)
def ga:Nat→Bytes→List ae→PR (List ac)
 | 0,_,_=>none
 | f+1,e,l=>if sgB true l e then pok [] (tl true l)
  else pb (fb f true l) λ x l=>if sgB true l [44] then pb (ga f e (tl true l)) λ r l=>pok (x::r) l else pb (fJ true e l) λ _ l=>pok [x] l
def lR:Nat→List ae→PR (List ac)
 | 0,_=>none
 | f+1,l=>if sgB true l [125] then pok [] (tl true l)
  else pb (jO f l) λ k l=>pb (fJ true [61] l) λ _ l=>pb (fb f true l) λ x l=>if sgB true l [44] then pb (lR f (tl true l)) λ r l=>pok (k::x::r) l else pb (fJ true [125] l) λ _ l=>pok [k,x] l
def jO:Nat→List ae→PR ac
 | 0,_=>none
 | f+1,l=>if (hd true l).fKind=1 then pok (yR (hd true l).fText (hd true l).fAt) (tl true l)
  else if (hd true l).fKind=3 then mY f true l
  else if sgB true l [40] then pb (fb f true (tl true l)) λ e l=>pb (fJ true [41] l) λ _ l=>pok e l
  else per 2 (hd true l).fAt
def iX:Nat→Int→Int→List ae→PR ac
 | 0,_,_,_=>none
 | f+1,at',k,l=>pb (sS true l) λ v l =>
  pb (if sgB true l [44] then pb (sS true (tl true l)) λ w l=>pok (w,v) l else pok (v,[]) l) λ nk l =>
  pb (uP true [105,110] l) λ _ l=>pb (fb f true l) λ a l=>pb (fJ true [58] l) λ _ l=>pb (fb f true l) λ c l =>
  pb (if k=13 then pb (fJ true [61,62] l) λ _ l=>pb (fb f true l) λ d l=>pok [a,c,d] l else pok [a,c] l) λ ks l =>
  pb (if wdB true l [105,102] then pb (fb f true (tl true l)) λ e l=>pok (ks++[e]) l else pok ks l) λ ks l =>
  pb (fJ true (if k=13 then [125] else [93]) l) λ _ l=>pok (ac.mk k 0 nk.1 nk.2 v0 ks at') l
def gX:Nat→Bytes→Int→Option (PE⊕ac)
 | 0,_,_=>none
 | f+1,s,at'=>match fq f at' at' [] [] false s with
  | none=>none
  | some (.inl e)=>some (.inl e)
  | some (.inr z)=>some (lA (.inr (oc at' z)))
def fq:Nat→Int→Int→Bytes→List ac→Bool→Bytes→Option (PE⊕(Int×Int×Bytes×List ac×Bool))
 | 0,_,_,_,_,_,_=>none
 | f+1,frm,pos,text,parts,opn,l=>match l with
  | []=>some (.inr (frm,pos,text,parts,opn))
  | c::r=>if hasPrefix (c::r) [36,36,123]=true then (if 4096 < text.length+2 then some (.inl (3,frm)) else fq f frm (pos+3) (text++[36,123]) parts opn ((c::r).drop 3))
   else if hasPrefix (c::r) [36,123]=true then (match gb f 1 ((c::r).drop 2) with
    | none=>none
    | some none=>some (.inl (40,pos))
    | some (some r')=>match dZ f (((c::r).drop 2).take (((c::r).drop 2).length - r'.length - 1)) (pos+2) with
     | none=>none
     | some (.inl e)=>some (.inl e)
     | some (.inr e)=>fq f (pos+((c::r).length - r'.length:Nat)) (pos+((c::r).length - r'.length:Nat)) [] (flS frm pos text parts++[e]) true r')
   else match jR (c::r) with
    | .inl k=>some (.inl (k,pos))
    | .inr (t,n)=>if 4096 < text.length+t.length then some (.inl (3,frm)) else fq f frm (pos+(n:Int)) (text++t) parts opn ((c::r).drop n)
def dZ:Nat→Bytes→Int→Option (PE⊕ac)
 | 0,_,_=>none
 | f+1,s,base=>if (eJ s).2.fKind≠0 then some (.inl ((eJ s).2.fKind,base+(eJ s).2.fAt))
  else match fb f true ((eJ s).1.map (mvT base)) with
   | none=>none
   | some (.inl e)=>some (.inl e)
   | some (.inr (e,l))=>if (hd true l).fKind=6 then some (.inr e) else some (.inl (2,(hd true l).fAt))
end
theorem rB {P:Int→Prop}{i:Nat}(h:P ((i+1:Nat):Int)):P ((i:Int)+1):=by rwa [Int.natCast_add,Int.natCast_one] at h
def TkB (t:ae):Prop:=0≤t.fAt∧t.fAt+(t.fText.length:Int)≤1000000000∧(t.fKind=3→t.fAt+1+(t.fText.length:Int)≤1000000000)∧(t.fKind=2→t.fText.all gS=true)
def Gd:List ae→Prop
 | []=>False
 | t::r=>TkB t∧((t.fKind=6∧r=[])∨(t.fKind≠6∧Gd r))
theorem Cr {t:ae}:nlT t=true↔t.fKind=5:=by simp [nlT]
theorem us (b:Bool):nf b []=[]:=by cases b <;> rfl
theorem kD (b:Bool)(t:ae)(r:List ae):nf b (t::r)=if b=true∧t.fKind=5 then nf b r else t::r:=by
 cases b with
 | false=>simp [nf]
 | true=>simp only [nf,if_true,true_and]; rw [List.dropWhile_cons]; simp only [Cr]
theorem A8 (b:Bool):∀ (l:List ae),nf b (nf b l)=nf b l
 | []=>by rw [us,us]
 | t::r=>by
  rw [kD]
  split
  ·exact A8 b r
  ·rename_i h; rw [kD,if_neg h]
theorem mB {b:Bool}:∀ {l:List ae},Gd l→Gd (nf b l)
 | [],h=>h.elim
 | t::r,h=>by
  rw [kD]
  split
  ·rename_i h1
   rcases h.2 with h2 | h2
   ·omega
   ·exact mB h2.2
  ·exact h
theorem w7 (b:Bool):∀ (l:List ae),(nf b l).length≤l.length
 | []=>by rw [us]; exact Nat.le_refl _
 | t::r=>by
  rw [kD]
  split
  ·exact Nat.le_succ_of_le (w7 b r)
  ·exact Nat.le_refl _
theorem uf (b:Bool)(base:Int):∀ (l:List ae),nf b (l.map (mvT base))=(nf b l).map (mvT base)
 | []=>by rw [List.map_nil,us,List.map_nil]
 | t::r=>by
  rw [List.map_cons,kD,kD,uf b base r]
  show (if b=true∧t.fKind=5 then _ else _)=_
  split <;> rfl
theorem tW {l:List ae}(h:Gd l):l≠[]:=by intro e; subst e; exact h
theorem o0 {b:Bool}{l:List ae}(h:Gd (nf b l)):nf b l=hd b l::tl b l:=by
 unfold hd tl
 cases hn:nf b l with
 | nil=>rw [hn] at h; exact h.elim
 | cons t r=>rfl
theorem sG {b:Bool}{l:List ae}(h:Gd (nf b l)):TkB (hd b l):=by
 have:=h; rw [o0 h] at this; exact this.1
theorem xO {b:Bool}{l:List ae}(h:Gd (nf b l))(h6:(hd b l).fKind≠6):Gd (tl b l):=by
 have:=h; rw [o0 h] at this
 rcases this.2 with h2 | h2
 ·exact absurd h2.1 h6
 ·exact h2.2
theorem Ec {b:Bool}{l:List ae}(h:Gd (nf b l)):(tl b l).length < l.length:=by
 have h1:=congrArg List.length (o0 h)
 have:=w7 b l
 rw [List.length_cons] at h1; omega
theorem po {b:Bool}{l:List ae}{s:Bytes}:sgB b l s=true↔(hd b l).fKind=4∧(hd b l).fText=s:=by simp [sgB]
theorem uv {b:Bool}{l:List ae}{s:Bytes}:wdB b l s=true↔(hd b l).fKind=1∧(hd b l).fText=s:=by simp [wdB]
theorem uM {base:Int}:∀ {L:List ae} {i:Nat},Gd (L.map (mvT base))→i < L.length→Gd ((L.drop i).map (mvT base))
 | [],_,h,_=>h.elim
 | t::r,0,h,_=>h
 | t::r,i+1,h,hi=>by
  rcases h.2 with h2 | h2
  ·have:r=[]:=List.map_eq_nil_iff.1 h2.2
   subst this; simp at hi
  ·exact uM (L:=r) (i:=i) h2.2 (by simpa using hi)
theorem oB {L:List ae}{i:Nat}(h:i < L.length):L.drop i=lat L (i:Int)::L.drop (i+1):=by
 rw [nr L i h]; exact List.drop_eq_getElem_cons h
section
variable {L:List ae} {base:Int}
def Pos (L:List ae)(base:Int)(i:Nat)(nest:Int)(b:Bool)(l:List ae):Prop :=
 i < L.length∧0≤nest∧nest+((L.length - i:Nat):Int)≤1000000000∧b=decide (0 < nest)∧nf b ((L.drop i).map (mvT base))=nf b l
theorem Pos.gd {i:Nat}{nest:Int}{b:Bool}{l:List ae}(hL:Gd (L.map (mvT base)))(h:Pos L base i nest b l):Gd (nf b l):=by
 rw [← h.2.2.2.2]; exact mB (uM hL h.1)
theorem BS (hL:Gd (L.map (mvT base)))(hlen:L.length≤1000000000){nest:Int}{d:ap}{a:Int}:∀ (k i:Nat),i+k=L.length→0 < k →
  Ev2 (λ _ m=>bU (.mk L a nest base d) m (i:Int)) (λ j=>∃ j':Nat,j=(j':Int)∧i≤j'∧j' < L.length∧L.drop j'=nf (decide (0 < nest)) (L.drop i)):=by
 intro k
 induction k with
 | zero=>intro i _ h; omega
 | succ k ih =>
  intro i hi _
  have hd':=oB (L:=L) (i:=i) O
  refine aV ?_
  simp only [bU]
  refine ao (decide (0 < nest∧(lat L (i:Int)).fKind=5)) ?_ ?_
  ·refine aP (λ h=>ar ⟨by omega,by show (i:Int) < (L.length:Int); omega⟩ (ab ?_)) (λ h=>ab ?_)
   ·have h:0 < nest:=h
    simp only [h,true_and]
   ·have h:¬ 0 < nest:=h
    simp [h]
  ·by_cases h:0 < nest∧(lat L (i:Int)).fKind=5
   ·refine aj (by simpa using h) (ar (aG O O) ?_)
    have hk:0 < k:=by
     have hg:=uM hL (i:=i) O
     rw [hd',List.map_cons] at hg
     rcases hg.2 with h2 | h2
     ·have h2:(lat L (i:Int)).fKind=6:=h2.1
      omega
     ·have:=tW h2.2
      rcases Nat.eq_zero_or_pos k with hk | hk
      ·subst hk; rw [List.drop_eq_nil_of_le O] at this; exact absurd rfl this
      ·exact hk
    refine cA (rB (P:=λ j=>Ev2 (λ _ m=>bU (.mk L a nest base d) m j) _) (ih (i+1) O hk)) ?_
    rintro r ⟨j',h1,h2,h3,h4⟩
    refine ⟨j',h1,by omega,h3,?_⟩
    rw [h4,hd',kD,if_pos ⟨by simp [h.1],h.2⟩]
   ·refine ai (by simpa using h) (ab ⟨i,Z,Nat.le_refl _,by omega,?_⟩)
    rw [hd',kD,if_neg (by simpa using h)]
theorem Pos.ext {i j:Nat}{nest:Int}{b:Bool}{l:List ae}(h:Pos L base i nest b l)(h1:i≤j)(h2:j < L.length)(h3:L.drop j=nf b (L.drop i)):Pos L base j nest b l:=by
 obtain ⟨q1,q2,q3,q4,q5⟩:=h
 refine ⟨h2,q2,by omega,q4,?_⟩
 rw [uf,h3,A8,← uf,q5]
theorem Pos.any {i:Nat}{nest:Int}{b:Bool}{l:List ae}(h:Pos L base i nest b l):Pos L base i nest b ((L.drop i).map (mvT base)):=⟨h.1,h.2.1,h.2.2.1,h.2.2.2.1,Z⟩
theorem eQ (hL:Gd (L.map (mvT base)))(hlen:L.length≤1000000000){i:Nat}{nest:Int}{b:Bool}{l:List ae}{d:ap}(h:Pos L base i nest b l) :
  Ev2 (λ n _=>ba n (.mk L (i:Int) nest base d)) (λ z=>z.1=hd b l∧∃ j:Nat,z.2=.mk L (j:Int) nest base d∧Pos L base j nest b l∧(L.drop j).map (mvT base)=nf b l∧i≤j):=by
 simp only [ba]
 have hi:=h.1
 refine af _ (bS (BS hL hlen (d:=d) (a:=(i:Int)) (L.length - i) i O O)) ?_
 rintro x ⟨j,rfl,h1,h2,h3⟩
 rw [← h.2.2.2.1] at h3
 have hg:Gd (nf b l):=h.gd hL
 have hdr:(L.drop j).map (mvT base)=nf b l:=by rw [h3,← uf,h.2.2.2.2]
 have hhd:mvT base (lat L (j:Int))=hd b l:=by
  have:=hdr
  rw [oB h2,List.map_cons,o0 hg] at this
  exact (List.cons.inj this).1
 have hb:=sG hg
 rw [← hhd] at hb
 obtain ⟨b1,b2,-,-⟩:=hb
 have b1:0≤(lat L (j:Int)).fAt+base:=b1
 have b2:(lat L (j:Int)).fAt+base+((lat L (j:Int)).fText.length:Int)≤1000000000:=b2
 refine ar ⟨by omega,by show (j:Int) < (L.length:Int); omega⟩ (ar (aG (by show _≤(lat L (j:Int)).fAt+base; omega) (by show (lat L (j:Int)).fAt+base≤_; omega)) (ab ⟨hhd,j,Z,h.ext h1 h2 h3,hdr,h1⟩))
theorem Pos.next {j:Nat}{nest:Int}{b:Bool}{l:List ae}(hL:Gd (L.map (mvT base)))(h:Pos L base j nest b l)(hdr:(L.drop j).map (mvT base)=nf b l)(h6:(hd b l).fKind≠6) :
  Pos L base (j+1) nest b (tl b l)∧(L.drop (j+1)).map (mvT base)=tl b l:=by
 have hg:Gd (nf b l):=h.gd hL
 have e:(L.drop (j+1)).map (mvT base)=tl b l:=by
  have:=hdr
  rw [oB h.1,List.map_cons,o0 hg] at this
  exact (List.cons.inj this).2
 have hne:=tW (xO hg h6)
 have:j+1 < L.length:=by
  rw [← e] at hne
  rcases Nat.lt_or_ge (j+1) L.length with q | q
  ·exact q
  ·rw [List.drop_eq_nil_of_le q] at hne; exact absurd rfl hne
 obtain ⟨q1,q2,q3,q4,q5⟩:=h
 exact ⟨⟨this,q2,by omega,q4,by rw [e]⟩,e⟩
theorem BD (hL:Gd (L.map (mvT base)))(hlen:L.length≤1000000000){i:Nat}{nest:Int}{b:Bool}{l:List ae}{d:ap}(h:Pos L base i nest b l) :
  Ev2 (λ n _=>aJ n (.mk L (i:Int) nest base d)) (λ z=>z.1=hd b l∧∃ j:Nat,z.2=.mk L (j:Int) nest base d∧if (hd b l).fKind=6 then Pos L base j nest b l else Pos L base j nest b (tl b l)∧(L.drop j).map (mvT base)=tl b l∧i < j):=by
 simp only [aJ]
 refine af _ (eQ hL hlen h) ?_
 rintro ⟨z1,z2⟩ ⟨h1,j,h2,h3,h4,h5⟩
 replace h1:z1=_:=h1; subst h1; cases h2
 have hj:=h3.1
 by_cases h6:(hd b l).fKind=6
 ·refine ao (j:Int) (aj h6 (ab Z)) (ab ⟨Z,j,Z,?_⟩)
  rw [if_pos h6]; exact h3
 ·refine ao ((j:Int)+1) (ai h6 (ar (aG (by show _≤(j:Int)+1; omega) (by show (j:Int)+1≤_; omega)) (ab Z))) (ab ⟨Z,j+1,Z,?_⟩)
  rw [if_neg h6]; exact ⟨(h3.next hL h4 h6).1,(h3.next hL h4 h6).2,by omega⟩
theorem dY (hL:Gd (L.map (mvT base)))(hlen:L.length≤1000000000){i:Nat}{nest:Int}{b:Bool}{l:List ae}{d:ap}(h:Pos L base i nest b l)(h6:(hd b l).fKind≠6) :
  Ev2 (λ n _=>aJ n (.mk L (i:Int) nest base d)) (λ z=>z.1=hd b l∧∃ j:Nat,z.2=.mk L (j:Int) nest base d∧Pos L base j nest b (tl b l)∧(L.drop j).map (mvT base)=tl b l∧i < j) :=
 cA (BD hL hlen h) λ z ⟨h1,j,h2,h3⟩=>⟨h1,j,h2,by rw [if_neg h6] at h3; exact h3⟩
theorem BL (p:ad)(k a:Int):bv p k a=some (e0,if p.fbad.fKind=0 then .mk p.fl p.fat p.fnest p.fbase (.mk k a []) else .mk p.fl p.fat p.fnest p.fbase (.mk p.fbad.fKind p.fbad.fAt p.fbad.fName)):=by
 simp only [bv,aY,Option.bind_some]
 by_cases h:p.fbad.fKind=0
 ·simp only [h]; rfl
 ·simp only [h]; rfl
def dOk:ap:=ap.mk 0 0 []
def eD (e:PE):ap:=ap.mk e.1 e.2 []
def Out {α:Type}(L:List ae)(base:Int)(nest:Int)(b:Bool)(q:PE⊕(α×List ae))(z:α×ad):Prop:=match q with
 | .inl e=>e.1≠0∧∃ (j:Nat) (l':List ae),z.2=.mk L (j:Int) nest base (eD e)∧Pos L base j nest b l'
 | .inr (x,l)=>z.1=x∧∃ j:Nat,z.2=.mk L (j:Int) nest base dOk∧Pos L base j nest b l
def BC (L:List ae)(base:Int)(nest:Int)(b:Bool)(q:PE⊕(Unit×List ae))(z:ad):Prop:=match q with
 | .inl e=>e.1≠0∧∃ (j:Nat) (l':List ae),z=.mk L (j:Int) nest base (eD e)∧Pos L base j nest b l'
 | .inr (_,l)=>∃ j:Nat,z=.mk L (j:Int) nest base dOk∧Pos L base j nest b l∧(L.drop j).map (mvT base)=l
theorem fo (hL:Gd (L.map (mvT base)))(hlen:L.length≤1000000000){i:Nat}{nest:Int}{b:Bool}{l:List ae}(s:Bytes)(h:Pos L base i nest b l) :
  Ev2 (λ n _=>aS n (.mk L (i:Int) nest base dOk) s) (λ z=>z.1=sgB b l s∧∃ j:Nat,z.2=.mk L (j:Int) nest base dOk∧Pos L base j nest b l):=by
 simp only [aS,aY,Option.bind_some]
 refine af _ (eQ hL hlen h) ?_
 rintro ⟨z1,z2⟩ ⟨h1,j,h2,h3,h4,h5⟩
 replace h1:z1=_:=h1; subst h1; cases h2
 refine ao (sgB b l s,L,(j:Int),nest,base,0,0,[]) ?_ (ab ⟨Z,j,Z,h3⟩)
 refine aj Z (aP (λ h=>ab ?_) (λ h=>ab ?_))
 ·have h:(hd b l).fKind=4:=h
  simp only [sgB,h,decide_true,Bool.true_and] <;> rfl
 ·have h:¬ (hd b l).fKind=4:=h
  simp only [sgB,h,decide_false,Bool.false_and] <;> rfl
theorem jd (hL:Gd (L.map (mvT base)))(hlen:L.length≤1000000000){i:Nat}{nest:Int}{b:Bool}{l:List ae}{e:PE}(s:Bytes)(he:e.1≠0)(h:Pos L base i nest b l) :
  Ev2 (λ n _=>aS n (.mk L (i:Int) nest base (eD e)) s) (λ z=>∃ j:Nat,z=(false,.mk L (j:Int) nest base (eD e))∧Pos L base j nest b l):=by
 simp only [aS,aY,Option.bind_some]
 refine af _ (eQ hL hlen h) ?_
 rintro ⟨z1,z2⟩ ⟨h1,j,h2,h3,h4,h5⟩
 replace h1:z1=_:=h1; subst h1; cases h2
 refine ao (false,L,(j:Int),nest,base,e.1,e.2,[]) ?_ (ab ⟨j,Z,h3⟩)
 have:(!(!decide ((eD e).fKind=0)))=false:=by show (!(!decide (e.1=0)))=false; simp [he]
 exact ai (by show ¬ (!(!decide ((eD e).fKind=0)))=true; simp [this]) (ab Z)
theorem oN (hL:Gd (L.map (mvT base)))(hlen:L.length≤1000000000){i:Nat}{nest:Int}{b:Bool}{l:List ae}(s:Bytes)(h:Pos L base i nest b l) :
  Ev2 (λ n _=>b9 n (.mk L (i:Int) nest base dOk) s) (λ z=>z.1=wdB b l s∧∃ j:Nat,z.2=.mk L (j:Int) nest base dOk∧Pos L base j nest b l):=by
 simp only [b9,aY,Option.bind_some]
 refine af _ (eQ hL hlen h) ?_
 rintro ⟨z1,z2⟩ ⟨h1,j,h2,h3,h4,h5⟩
 replace h1:z1=_:=h1; subst h1; cases h2
 refine ao (wdB b l s,L,(j:Int),nest,base,0,0,[]) ?_ (ab ⟨Z,j,Z,h3⟩)
 refine aj Z (aP (λ h=>ab ?_) (λ h=>ab ?_))
 ·have h:(hd b l).fKind=1:=h
  simp only [wdB,h,decide_true,Bool.true_and] <;> rfl
 ·have h:¬ (hd b l).fKind=1:=h
  simp only [wdB,h,decide_false,Bool.false_and] <;> rfl
theorem mA (hL:Gd (L.map (mvT base)))(hlen:L.length≤1000000000){i:Nat}{nest:Int}{b:Bool}{l:List ae}{e:PE}(s:Bytes)(he:e.1≠0)(h:Pos L base i nest b l) :
  Ev2 (λ n _=>b9 n (.mk L (i:Int) nest base (eD e)) s) (λ z=>∃ j:Nat,z=(false,.mk L (j:Int) nest base (eD e))∧Pos L base j nest b l):=by
 simp only [b9,aY,Option.bind_some]
 refine af _ (eQ hL hlen h) ?_
 rintro ⟨z1,z2⟩ ⟨h1,j,h2,h3,h4,h5⟩
 replace h1:z1=_:=h1; subst h1; cases h2
 refine ao (false,L,(j:Int),nest,base,e.1,e.2,[]) ?_ (ab ⟨j,Z,h3⟩)
 have:(!(!decide ((eD e).fKind=0)))=false:=by show (!(!decide (e.1=0)))=false; simp [he]
 exact ai (by show ¬ (!(!decide ((eD e).fKind=0)))=true; simp [this]) (ab Z)
theorem gH (i nest:Int)(k a:Int):bv (.mk L i nest base dOk) k a=some (e0,.mk L i nest base (eD (k,a))):=rfl
theorem uN {e:PE}(he:e.1≠0)(i nest:Int)(k a:Int):bv (.mk L i nest base (eD e)) k a=some (e0,.mk L i nest base (eD e)):=by
 rw [BL,if_neg (show ¬ (eD e).fKind=0 from he)]
theorem jk (hL:Gd (L.map (mvT base)))(hlen:L.length≤1000000000){i:Nat}{nest:Int}{b:Bool}{l:List ae}(s:Bytes){q:PE⊕(Unit×List ae)}(h:Pos L base i nest b l)(hq:fJ b s l=some q) :
  Ev2 (λ n _=>bT n (.mk L (i:Int) nest base dOk) s) (BC L base nest b q):=by
 simp only [bT]
 refine af _ (fo hL hlen s h) ?_
 rintro ⟨z1,z2⟩ ⟨h1,j,h2,h3⟩
 replace h1:z1=_:=h1; subst h1; cases h2
 unfold fJ at hq
 by_cases hs:sgB b l s=true
 ·rw [if_pos hs] at hq; cases hq
  refine ai (by simp [hs]) (af _ (dY hL hlen h3 (by have:=(po.1 hs).1; omega)) ?_)
  rintro ⟨y1,y2⟩ ⟨g1,k,g2,g3,g4,g5⟩
  cases g2
  exact ab ⟨k,Z,g3,g4⟩
 ·rw [if_neg hs] at hq; cases hq
  refine aj (by simpa using hs) (af _ (eQ hL hlen h3) ?_)
  rintro ⟨y1,y2⟩ ⟨g1,k,g2,g3,g4,g5⟩
  replace g1:y1=_:=g1; subst g1; cases g2
  refine ao _ (au (gH _ _ _ _) Z) (ab ⟨(by decide:(2:Int)≠0),k,l,Z,g3⟩)
theorem i6 (hL:Gd (L.map (mvT base)))(hlen:L.length≤1000000000){i:Nat}{nest:Int}{b:Bool}{l:List ae}{e:PE}(s:Bytes)(he:e.1≠0)(h:Pos L base i nest b l) :
  Ev2 (λ n _=>bT n (.mk L (i:Int) nest base (eD e)) s) (λ z=>∃ (j:Nat) (l':List ae),z=.mk L (j:Int) nest base (eD e)∧Pos L base j nest b l'):=by
 simp only [bT]
 refine af _ (jd hL hlen s he h) ?_
 rintro _ ⟨j,rfl,h3⟩
 refine aj Z (af _ (eQ hL hlen h3) ?_)
 rintro ⟨y1,y2⟩ ⟨g1,k,g2,g3,g4,g5⟩
 replace g1:y1=_:=g1; subst g1; cases g2
 exact ao _ (au (uN he _ _ _ _) Z) (ab ⟨k,l,Z,g3⟩)
theorem rR (hL:Gd (L.map (mvT base)))(hlen:L.length≤1000000000){i:Nat}{nest:Int}{b:Bool}{l:List ae}(s:Bytes){q:PE⊕(Unit×List ae)}(h:Pos L base i nest b l)(hq:uP b s l=some q) :
  Ev2 (λ n _=>cp n (.mk L (i:Int) nest base dOk) s) (BC L base nest b q):=by
 simp only [cp]
 refine af _ (oN hL hlen s h) ?_
 rintro ⟨z1,z2⟩ ⟨h1,j,h2,h3⟩
 replace h1:z1=_:=h1; subst h1; cases h2
 unfold uP at hq
 by_cases hs:wdB b l s=true
 ·rw [if_pos hs] at hq; cases hq
  refine ai (by simp [hs]) (af _ (dY hL hlen h3 (by have:=(uv.1 hs).1; omega)) ?_)
  rintro ⟨y1,y2⟩ ⟨g1,k,g2,g3,g4,g5⟩
  cases g2
  exact ab ⟨k,Z,g3,g4⟩
 ·rw [if_neg hs] at hq; cases hq
  refine aj (by simpa using hs) (af _ (eQ hL hlen h3) ?_)
  rintro ⟨y1,y2⟩ ⟨g1,k,g2,g3,g4,g5⟩
  replace g1:y1=_:=g1; subst g1; cases g2
  refine ao _ (au (gH _ _ _ _) Z) (ab ⟨(by decide:(2:Int)≠0),k,l,Z,g3⟩)
theorem tK (hL:Gd (L.map (mvT base)))(hlen:L.length≤1000000000){i:Nat}{nest:Int}{b:Bool}{l:List ae}{e:PE}(s:Bytes)(he:e.1≠0)(h:Pos L base i nest b l) :
  Ev2 (λ n _=>cp n (.mk L (i:Int) nest base (eD e)) s) (λ z=>∃ (j:Nat) (l':List ae),z=.mk L (j:Int) nest base (eD e)∧Pos L base j nest b l'):=by
 simp only [cp]
 refine af _ (mA hL hlen s he h) ?_
 rintro _ ⟨j,rfl,h3⟩
 refine aj Z (af _ (eQ hL hlen h3) ?_)
 rintro ⟨y1,y2⟩ ⟨g1,k,g2,g3,g4,g5⟩
 replace g1:y1=_:=g1; subst g1; cases g2
 exact ao _ (au (uN he _ _ _ _) Z) (ab ⟨k,l,Z,g3⟩)
theorem Pos.out {j:Nat}{nest:Int}{l l':List ae}(h:Pos L base j (nest+1) true l)(h0:0≤nest)(he:(L.drop j).map (mvT base)=l'):Pos L base j nest (decide (0 < nest)) l':=by
 obtain ⟨q1,q2,q3,q4,q5⟩:=h
 exact ⟨q1,h0,by omega,Z,by rw [he]⟩
theorem Ba (hL:Gd (L.map (mvT base)))(hlen:L.length≤1000000000){i:Nat}{nest:Int}{l:List ae}(s:Bytes){q:PE⊕(Unit×List ae)}(h0:0≤nest)(h:Pos L base i (nest+1) true l)(hq:fJ true s l=some q) :
  Ev2 (λ n _=>bc n (.mk L (i:Int) (nest+1) base dOk) s) (BC L base nest (decide (0 < nest)) q):=by
 simp only [bc]
 refine af _ (jk hL hlen s h hq) ?_
 intro z hz
 have hb:=h.2.2.1
 rcases q with e | ⟨u,l'⟩
 ·obtain ⟨he,j,l',rfl,hp⟩:=hz
  refine ar (aG (by show _≤nest+1 - 1; omega) (by show nest+1 - 1≤_; omega)) (ab ⟨he,j,(L.drop j).map (mvT base),?_,hp.out h0 Z⟩)
  show ad.mk L j (nest+1 - 1) base (eD e)=_
  rw [Int.add_sub_cancel]
 ·obtain ⟨j,rfl,hp,hx⟩:=hz
  refine ar (aG (by show _≤nest+1 - 1; omega) (by show nest+1 - 1≤_; omega)) (ab ⟨j,?_,hp.out h0 hx,hx⟩)
  show ad.mk L j (nest+1 - 1) base dOk=_
  rw [Int.add_sub_cancel]
theorem BX (hL:Gd (L.map (mvT base)))(hlen:L.length≤1000000000){i:Nat}{nest:Int}{l:List ae}{e:PE}(s:Bytes)(he:e.1≠0)(h0:0≤nest)(h:Pos L base i (nest+1) true l) :
  Ev2 (λ n _=>bc n (.mk L (i:Int) (nest+1) base (eD e)) s) (λ z=>∃ (j:Nat) (l':List ae),z=.mk L (j:Int) nest base (eD e)∧Pos L base j nest (decide (0 < nest)) l'):=by
 simp only [bc]
 refine af _ (i6 hL hlen s he h) ?_
 rintro _ ⟨j,l',rfl,hp⟩
 have hb:=h.2.2.1
 refine ar (aG (by show _≤nest+1 - 1; omega) (by show nest+1 - 1≤_; omega)) (ab ⟨j,(L.drop j).map (mvT base),?_,hp.out h0 Z⟩)
 show ad.mk L j (nest+1 - 1) base (eD e)=_
 rw [Int.add_sub_cancel]
theorem nC (hL:Gd (L.map (mvT base)))(hlen:L.length≤1000000000){i:Nat}{nest:Int}{b:Bool}{l:List ae}(h:Pos L base i nest b l)(h6:(hd b l).fKind≠6) :
  Ev2 (λ n _=>b7 n (.mk L (i:Int) nest base dOk)) (λ z=>∃ j:Nat,z=.mk L (j:Int) (nest+1) base dOk∧Pos L base j (nest+1) true (tl b l)):=by
 simp only [b7]
 refine af _ (dY hL hlen h h6) ?_
 rintro ⟨z1,z2⟩ ⟨h1,j,h2,h3,h4,h5⟩
 cases h2
 have hb:=h.2.2.1
 have hn:=h.2.1
 have hj:=h3.1
 refine ar (aG (by show _≤nest+1; omega) (by show nest+1≤_; omega)) (ab ⟨j,Z,h3.1,by omega,by omega,?_,by rw [h4]⟩)
 symm; rw [decide_eq_true_eq]; omega
theorem kF (hL:Gd (L.map (mvT base)))(hlen:L.length≤1000000000){i:Nat}{nest:Int}{b:Bool}{l:List ae}{q:PE⊕(Bytes×List ae)}(h:Pos L base i nest b l)(hq:sS b l=some q) :
  Ev2 (λ n _=>cx n (.mk L (i:Int) nest base dOk)) (Out L base nest b q):=by
 simp only [cx,aY,Option.bind_some]
 refine af _ (eQ hL hlen h) ?_
 rintro ⟨z1,z2⟩ ⟨h1,j,h2,h3,h4,h5⟩
 replace h1:z1=_:=h1; subst h1; cases h2
 unfold sS at hq
 by_cases hs:(hd b l).fKind=1∧pw (hd b l).fText=false
 ·rw [if_pos hs] at hq; cases hq
  refine ao (false,L,(j:Int),nest,base,0,0,[]) (ai Bool.false_ne_true (aj hs.1 (ao _ (au (ss _) Z) (ab ?_)))) ?_
  ·rw [hs.2]; rfl
  ·refine ai Bool.false_ne_true (af _ (dY hL hlen h3 O) ?_)
   rintro ⟨y1,y2⟩ ⟨g1,k,g2,g3,g4,g5⟩
   cases g2
   exact ab ⟨Z,k,Z,g3⟩
 ·rw [if_neg hs] at hq; cases hq
  refine ao (true,L,(j:Int),nest,base,0,0,[]) (ai Bool.false_ne_true (aP (λ h1=>ao _ (au (ss _) Z) (ab ?_)) (λ h1=>ab Z))) ?_
  ·have h1:(hd b l).fKind=1:=h1
   have:pw (hd b l).fText=true:=by
    cases hr:pw (hd b l).fText with
    | true=>rfl
    | false=>exact absurd ⟨h1,hr⟩ hs
   rw [this]; rfl
  ·exact aj Z (ao _ (au (gH _ _ _ _) Z) (ab ⟨(by decide:(2:Int)≠0),j,l,Z,h3⟩))
end
end Go.Ab.R06
end
section
namespace Go.Ab.R06
open Go.Ab Go.Ab.RB Go.Lib
section
variable {L:List ae} {base:Int}
theorem Av (hL:Gd (L.map (mvT base)))(hlen:L.length≤1000000000){nest:Int}{b:Bool}{l:List ae}(ls:List Bytes)(hls:ls.length≤1000):∀ (k t i:Nat),t+k=ls.length→Pos L base i nest b l →
  Ev2 (λ n m=>a8 n ls m (t:Int) L (i:Int) nest base 0 0 []) (λ r=>match (ls.drop t).find? (λ s=>sgB b l s) with
   | some s=>∃ j:Nat,r=.inr (s,true,.mk L (j:Int) nest base dOk)∧Pos L base j nest b l
   | none=>∃ j:Nat,r=.inl (L,(j:Int),nest,base,0,0,[])∧Pos L base j nest b l):=by
 intro k
 induction k with
 | zero =>
  intro t i ht h
  refine aV ?_
  simp only [a8]
  refine ai O (ab ?_)
  rw [List.drop_eq_nil_of_le O]
  exact ⟨i,Z,h⟩
 | succ k ih =>
  intro t i ht h
  refine aV ?_
  simp only [a8]
  have hdr:ls.drop t=lat ls (t:Int)::ls.drop (t+1):=by rw [nr ls t O]; exact List.drop_eq_getElem_cons O
  refine aj O (ar ⟨by omega,by omega⟩ (af _ (fo hL hlen _ h) ?_))
  rintro ⟨z1,z2⟩ ⟨h1,j,h2,h3⟩
  replace h1:z1=_:=h1; subst h1; cases h2
  rw [hdr,List.find?_cons]
  cases hs:sgB b l (lat ls (t:Int)) with
  | true=>exact aj Z (ab ⟨j,Z,h3⟩)
  | false=>exact ai Bool.false_ne_true (ar (aG O O) (rB (P:=λ x=>Ev2 (λ n m=>a8 n ls m x L (j:Int) nest base 0 0 []) _) (ih (t+1) j O h3)))
theorem zG (hL:Gd (L.map (mvT base)))(hlen:L.length≤1000000000){i:Nat}{nest:Int}{b:Bool}{l:List ae}(ls:List Bytes)(hls:ls.length≤1000)(h:Pos L base i nest b l) :
  Ev2 (λ n _=>cJ n (.mk L (i:Int) nest base dOk) ls) (λ r=>match ls.find? (λ s=>sgB b l s) with
   | some s=>∃ j:Nat,r=(s,true,.mk L (j:Int) nest base dOk)∧Pos L base j nest b l
   | none=>∃ j:Nat,r=([],false,.mk L (j:Int) nest base dOk)∧Pos L base j nest b l):=by
 simp only [cJ]
 have hl:=Av hL hlen ls hls ls.length 0 i O h
 rw [List.drop_zero] at hl
 cases hf:ls.find? (λ s=>sgB b l s) with
 | some s =>
  rw [hf] at hl
  refine eg (cA (bS hl) ?_)
  rintro _ ⟨j,rfl,hp⟩
  exact ⟨j,Z,hp⟩
 | none =>
  rw [hf] at hl
  refine eg (cA (bS hl) ?_)
  rintro _ ⟨j,rfl,hp⟩
  exact ab ⟨j,Z,hp⟩
theorem A1 (hL:Gd (L.map (mvT base)))(hlen:L.length≤1000000000){nest:Int}{b:Bool}{l:List ae}{e:PE}(he:e.1≠0)(ls:List Bytes)(hls:ls.length≤1000):∀ (k t i:Nat),t+k=ls.length→Pos L base i nest b l →
  Ev2 (λ n m=>a8 n ls m (t:Int) L (i:Int) nest base e.1 e.2 []) (λ r=>∃ j:Nat,r=.inl (L,(j:Int),nest,base,e.1,e.2,[])∧Pos L base j nest b l):=by
 intro k
 induction k with
 | zero =>
  intro t i ht h
  refine aV ?_
  simp only [a8]
  exact ai O (ab ⟨i,Z,h⟩)
 | succ k ih =>
  intro t i ht h
  refine aV ?_
  simp only [a8]
  refine aj O (ar ⟨by omega,by omega⟩ (af _ (jd hL hlen _ he h) ?_))
  rintro _ ⟨j,rfl,h3⟩
  exact ai Bool.false_ne_true (ar (aG O O) (rB (P:=λ x=>Ev2 (λ n m=>a8 n ls m x L (j:Int) nest base e.1 e.2 []) _) (ih (t+1) j O h3)))
theorem Cz (hL:Gd (L.map (mvT base)))(hlen:L.length≤1000000000){i:Nat}{nest:Int}{b:Bool}{l:List ae}{e:PE}(he:e.1≠0)(ls:List Bytes)(hls:ls.length≤1000)(h:Pos L base i nest b l) :
  Ev2 (λ n _=>cJ n (.mk L (i:Int) nest base (eD e)) ls) (λ r=>∃ j:Nat,r=([],false,.mk L (j:Int) nest base (eD e))∧Pos L base j nest b l):=by
 simp only [cJ]
 have hl:=A1 hL hlen he ls hls ls.length 0 i O h
 refine eg (cA (bS hl) ?_)
 rintro _ ⟨j,rfl,hp⟩
 exact ab ⟨j,Z,hp⟩
theorem u6 {lev:Nat}(h:lev≤5):iL (lev:Int)=some ((tb lev).map (·.1)):=by
 rcases lev with _ | _ | _ | _ | _ | _ | k
 ·rfl
 ·rfl
 ·rfl
 ·rfl
 ·rfl
 ·rfl
 ·omega
def pq:List Bytes:=[[124,124],[38,38],[61,61],[33,61],[60],[60,61],[62],[62,61],[43],[45],[42],[47],[37]]
theorem Ff (s:Bytes):∀ (k t:Nat),t+k=13→Ev2 (λ _ m=>eF s m (t:Int)) (·=match (pq.drop t).findIdx? (λ x=>decide (x=s)) with | some i=>.inr ((3+t+i:Nat):Int) | none=>.inl ()):=by
 intro k
 induction k with
 | zero =>
  intro t ht
  refine aV ?_
  simp only [eF]
  have:t=13:=by omega
  subst this
  exact ai (by decide) (ab Z)
 | succ k ih =>
  intro t ht
  refine aV ?_
  simp only [eF]
  have hdr:pq.drop t=lat pq (t:Int)::pq.drop (t+1):=by rw [nr pq t (by show t < 13; omega)]; exact List.drop_eq_getElem_cons (by show t < 13; omega)
  refine aj O (ar ⟨by omega,by omega⟩ ?_)
  rw [hdr,List.findIdx?_cons]
  by_cases hs:lat pq (t:Int)=s
  ·refine aj hs (ar (aG O O) (ab ?_))
   rw [decide_eq_true hs]
   show _=Sum.inr _
   rw [show (3:Int)+(t:Int)=((3+t+0:Nat):Int) by omega]
  ·refine ai hs (ar (aG O O) (cA (rB (P:=λ x=>Ev2 (λ _ m=>eF s m x) _) (ih (t+1) O)) ?_))
   rintro r rfl
   rw [decide_eq_false hs]
   cases (pq.drop (t+1)).findIdx? (λ x=>decide (x=s)) with
   | none=>rfl
   | some i =>
    show Sum.inr ((3+(t+1)+i:Nat):Int)=Sum.inr ((3+t+(i+1):Nat):Int)
    congr 2; omega
theorem C8 {lev:Nat}(h:lev≤5){p:Bytes×Int}(hp:p∈tb lev):Ev2 (λ n _=>kz n p.1) (·=p.2):=by
 simp only [kz]
 have hl:=Ff p.1 13 0 Z
 rw [List.drop_zero] at hl
 have:(match pq.findIdx? (λ x=>decide (x=p.1)) with | some i=>Sum.inr ((3+0+i:Nat):Int) | none=>(Sum.inl ():Unit⊕Int))=.inr p.2:=by
  have hall:∀ lev:Fin 6,∀ p∈tb lev.1,(match pq.findIdx? (λ x=>decide (x=p.1)) with | some i=>Sum.inr ((3+0+i:Nat):Int) | none=>(Sum.inl ():Unit⊕Int))=.inr p.2:=by decide
  exact hall ⟨lev,by omega⟩ p hp
 rw [this] at hl
 exact jJ p.2 (bS hl) Z
theorem Ag (b:Bool)(l:List ae)(lev:Nat):((tb lev).map (·.1)).find? (λ s=>sgB b l s)=(rz b l lev).map (·.1):=by
 unfold rz
 induction tb lev with
 | nil=>rfl
 | cons p r ih =>
  rw [List.map_cons,List.find?_cons,List.find?_cons]
  cases sgB b l p.1 with
  | true=>rfl
  | false=>exact ih
theorem Cl {b:Bool}{l:List ae}{lev:Nat}{p:Bytes×Int}(h:rz b l lev=some p):p∈tb lev∧sgB b l p.1=true:=⟨List.mem_of_find?_eq_some h,List.find?_some (p:=λ p:Bytes×Int=>sgB b l p.1) h⟩
theorem xH {lev:Nat}:((tb lev).map (·.1)).length≤1000:=by
 rcases lev with _ | _ | _ | _ | _ | k <;> simp [tb]
def rA {α:Type}(L:List ae)(base:Int)(nest:Int)(b:Bool)(e:PE)(z:α×ad):Prop:=∃ (j:Nat) (l':List ae),z.2=.mk L (j:Int) nest base (eD e)∧Pos L base j nest b l'
theorem yv {e:PE}(he:e.1≠0):(!decide ((eD e).fKind=0))=true:=by show (!decide (e.1=0))=true; simp [he]
theorem yM {i:Nat}{nest:Int}{b:Bool}{l:List ae}{e:PE}(he:e.1≠0)(h:Pos L base i nest b l) :
  Ev2 (λ n _=>bX n (.mk L (i:Int) nest base (eD e))) (rA L base nest b e):=by
 refine cj ?_
 simp only [bX,aY,Option.bind_some]
 exact aj (yv he) (ab ⟨i,l,Z,h⟩)
theorem lM (hL:Gd (L.map (mvT base)))(hlen:L.length≤1000000000){i:Nat}{nest:Int}{b:Bool}{l:List ae}{e:PE}(he:e.1≠0)(h:Pos L base i nest b l)(r1:ac×ad)(k op:Int)(nm key:Bytes)(vk vn:Int)(vs:Bytes)(vi:List ah)(vks:List Bytes)(kids:List ac) :
  Ev2 (λ n m=>bf n (aA n) r1 m k op nm key vk vn vs vi vks kids L (i:Int) nest base e.1 e.2 []) (λ s=>∃ z,s=.inr z∧rA L base nest b e z):=by
 refine aV ?_
 simp only [bf]
 refine eg (af _ (jd hL hlen _ he h) ?_)
 rintro _ ⟨j,rfl,h3⟩
 refine ai Bool.false_ne_true (af _ (jd hL hlen _ he h3) ?_)
 rintro _ ⟨j,rfl,h3⟩
 exact ai Bool.false_ne_true (ab ⟨_,Z,j,l,Z,h3⟩)
theorem zj (hL:Gd (L.map (mvT base)))(hlen:L.length≤1000000000){i:Nat}{nest:Int}{b:Bool}{l:List ae}{e:PE}(he:e.1≠0)(h:Pos L base i nest b l) :
  Ev2 (λ n _=>cq n (.mk L (i:Int) nest base (eD e))) (rA L base nest b e):=by
 refine cj ?_
 simp only [cq]
 refine af _ (yM he h) ?_
 rintro ⟨z1,z2⟩ ⟨j,l',h2,h3⟩
 cases h2
 refine eg (cA (bS (lM hL hlen he h3 (z1,.mk L (j:Int) nest base (eD e)) _ _ _ _ _ _ _ _ _ _)) ?_)
 rintro _ ⟨z,rfl,hz⟩
 exact hz
theorem C4 (hL:Gd (L.map (mvT base)))(hlen:L.length≤1000000000){i:Nat}{nest:Int}{b:Bool}{l:List ae}{e:PE}(he:e.1≠0)(h:Pos L base i nest b l) :
  Ev2 (λ n _=>ca n (.mk L (i:Int) nest base (eD e))) (rA L base nest b e):=by
 refine cj ?_
 simp only [ca]
 refine af (λ t=>∃ j:Nat,t=(0,L,(j:Int),nest,base,e.1,e.2,[])∧Pos L base j nest b l) ?_ ?_
 ·refine af _ (jd hL hlen _ he h) ?_
  rintro _ ⟨j,rfl,h3⟩
  refine ai Bool.false_ne_true (af _ (jd hL hlen _ he h3) ?_)
  rintro _ ⟨j,rfl,h3⟩
  exact ai Bool.false_ne_true (ab ⟨j,Z,h3⟩)
 ·rintro _ ⟨j,rfl,h3⟩
  refine aj Z (af _ (zj hL hlen he h3) ?_)
  rintro ⟨z1,z2⟩ hz
  exact ab hz
theorem pR (hL:Gd (L.map (mvT base)))(hlen:L.length≤1000000000){i:Nat}{nest:Int}{b:Bool}{l:List ae}{e:PE}(he:e.1≠0)(h:Pos L base i nest b l){lev:Nat}(hlev:lev≤5)(r5:ac×ad)(k op:Int)(nm key:Bytes)(vk vn:Int)(vs:Bytes)(vi:List ah)(vks:List Bytes)(kids:List ac) :
  Ev2 (λ n m=>bn n (aT n) (lev:Int) r5 m k op nm key vk vn vs vi vks kids L (i:Int) nest base e.1 e.2 []) (λ s=>∃ z,s=.inr z∧rA L base nest b e z):=by
 refine aV ?_
 simp only [bn]
 refine ao _ (au (u6 hlev) Z) (af _ (Cz hL hlen he _ xH h) ?_)
 rintro _ ⟨j,rfl,h3⟩
 exact aj Z (ab ⟨_,Z,j,l,Z,h3⟩)
theorem zu (hL:Gd (L.map (mvT base)))(hlen:L.length≤1000000000){nest:Int}{b:Bool}{e:PE}(he:e.1≠0):∀ (k lev i:Nat) (l:List ae),lev+k=6→Pos L base i nest b l →
  Ev2 (λ n _=>aT n (.mk L (i:Int) nest base (eD e)) (lev:Int)) (rA L base nest b e):=by
 intro k
 induction k with
 | zero =>
  intro lev i l hk h
  refine cj ?_
  simp only [aT]
  refine aj O (af _ (C4 hL hlen he h) ?_)
  rintro ⟨z1,z2⟩ hz
  exact ab hz
 | succ k ih =>
  intro lev i l hk h
  refine cj ?_
  simp only [aT]
  refine ai O (ar (aG O O) (af _ (rB (P:=λ x=>Ev2 (λ n _=>aT n (.mk L (i:Int) nest base (eD e)) x) _) (ih (lev+1) i l O h)) ?_))
  rintro ⟨z1,z2⟩ ⟨j,l',h2,h3⟩
  cases h2
  refine eg (cA (bS (pR hL hlen he h3 O (z1,.mk L (j:Int) nest base (eD e)) _ _ _ _ _ _ _ _ _ _)) ?_)
  rintro _ ⟨z,rfl,hz⟩
  exact hz
theorem gp (hL:Gd (L.map (mvT base)))(hlen:L.length≤1000000000){i:Nat}{nest:Int}{b:Bool}{l:List ae}{e:PE}(he:e.1≠0)(h:Pos L base i nest b l) :
  Ev2 (λ n _=>aA n (.mk L (i:Int) nest base (eD e))) (rA L base nest b e):=by
 refine cj ?_
 simp only [aA]
 refine af _ (zu hL hlen he 6 0 i l Z h) ?_
 rintro ⟨z1,z2⟩ ⟨j,l',h2,h3⟩
 cases h2
 refine af _ (jd hL hlen _ he h3) ?_
 rintro _ ⟨j,rfl,h3⟩
 exact aj Z (ab ⟨j,l',Z,h3⟩)
end
end Go.Ab.R06
end
section
namespace Go.Ab.R06
open Go.Proofs Go.Ab Go.Ab.RB
attribute [local irreducible] awp ge bq aK aW AV.sub M dc
def qD (n_0:Int):Option Bool :=
 (
   if (-9007199254740992)≤n_0 then
    some (decide (n_0≤9007199254740992))
   else
    some false
  : Option Bool).bind λ t2 =>
 some t2
def eH (s_0:Bytes)(i_1:Int)(lo_2:Int)(hi_3:Int):Option Bool :=
 (
   if i_1 < (s_0.length:Int) then
    ck ((0:Int)≤i_1∧i_1 < (s_0.length:Int)) <|
    if lo_2≤byt s_0 i_1 then
     ck ((0:Int)≤i_1∧i_1 < (s_0.length:Int)) <|
     some (decide (byt s_0 i_1≤hi_3))
    else
     some false
   else
    some false
  : Option Bool).bind λ t5 =>
 some t5
def lL (s_0:Bytes)(i_1:Int):Option (Int×Int) :=
 (
   if i_1 < 0 then
    some true
   else
    some (decide ((s_0.length:Int)≤i_1))
  : Option Bool).bind λ t2 =>
 if t2=true then
  some (0,0)
 else
  ck ((0:Int)≤i_1∧i_1 < (s_0.length:Int)) <|
  if byt s_0 i_1 < 128 then
   ck (inR (byt s_0 i_1)) <|
   some (byt s_0 i_1,1)
  else
   (
     if 194≤byt s_0 i_1 then
      if byt s_0 i_1≤223 then
       ck (inR (i_1+1)) <|
       (eH s_0 (i_1+1) 128 191).bind λ r10 =>
       some r10
      else
       some false
     else
      some false
    : Option Bool).bind λ t12 =>
   if t12=true then
    ck (inR (dC .u8 (byt s_0 i_1) 31)) <|
    ck ((0:Int)≤6) <|
    ck (inR (i_1+1)) <|
    ck ((0:Int)≤i_1+1∧i_1+1 < (s_0.length:Int)) <|
    ck (inR (dC .u8 (byt s_0 (i_1+1)) 63)) <|
    some (iOr .i64 (kq .i64 (dC .u8 (byt s_0 i_1) 31) 6) (dC .u8 (byt s_0 (i_1+1)) 63),2)
   else
    (
      if byt s_0 i_1=224 then
       some 160
      else
       some 128
     : Option Int).bind λ lo20 =>
    (
      if byt s_0 i_1=237 then
       some 159
      else
       some 191
     : Option Int).bind λ hi22 =>
    (
      if 224≤byt s_0 i_1 then
       if byt s_0 i_1≤239 then
        ck (inR (i_1+1)) <|
        (eH s_0 (i_1+1) lo20 hi22).bind λ r26 =>
        if r26=true then
         ck (inR (i_1+2)) <|
         (eH s_0 (i_1+2) 128 191).bind λ r30 =>
         some r30
        else
         some false
       else
        some false
      else
       some false
     : Option Bool).bind λ t32 =>
    if t32=true then
     ck (inR (dC .u8 (byt s_0 i_1) 15)) <|
     ck ((0:Int)≤12) <|
     ck (inR (i_1+1)) <|
     ck ((0:Int)≤i_1+1∧i_1+1 < (s_0.length:Int)) <|
     ck (inR (dC .u8 (byt s_0 (i_1+1)) 63)) <|
     ck ((0:Int)≤6) <|
     ck (inR (i_1+2)) <|
     ck ((0:Int)≤i_1+2∧i_1+2 < (s_0.length:Int)) <|
     ck (inR (dC .u8 (byt s_0 (i_1+2)) 63)) <|
     some (iOr .i64 (iOr .i64 (kq .i64 (dC .u8 (byt s_0 i_1) 15) 12) (kq .i64 (dC .u8 (byt s_0 (i_1+1)) 63) 6)) (dC .u8 (byt s_0 (i_1+2)) 63),3)
    else
     (
       if byt s_0 i_1=240 then
        some 144
       else
        some 128
      : Option Int).bind λ lo44 =>
     (
       if byt s_0 i_1=244 then
        some 143
       else
        some 191
      : Option Int).bind λ hi46 =>
     (
       if 240≤byt s_0 i_1 then
        if byt s_0 i_1≤244 then
         ck (inR (i_1+1)) <|
         (eH s_0 (i_1+1) lo44 hi46).bind λ r50 =>
         if r50=true then
          ck (inR (i_1+2)) <|
          (eH s_0 (i_1+2) 128 191).bind λ r54 =>
          if r54=true then
           ck (inR (i_1+3)) <|
           (eH s_0 (i_1+3) 128 191).bind λ r58 =>
           some r58
          else
           some false
         else
          some false
        else
         some false
       else
        some false
      : Option Bool).bind λ t60 =>
     if t60=true then
      ck (inR (dC .u8 (byt s_0 i_1) 7)) <|
      ck ((0:Int)≤18) <|
      ck (inR (i_1+1)) <|
      ck ((0:Int)≤i_1+1∧i_1+1 < (s_0.length:Int)) <|
      ck (inR (dC .u8 (byt s_0 (i_1+1)) 63)) <|
      ck ((0:Int)≤12) <|
      ck (inR (i_1+2)) <|
      ck ((0:Int)≤i_1+2∧i_1+2 < (s_0.length:Int)) <|
      ck (inR (dC .u8 (byt s_0 (i_1+2)) 63)) <|
      ck ((0:Int)≤6) <|
      ck (inR (i_1+3)) <|
      ck ((0:Int)≤i_1+3∧i_1+3 < (s_0.length:Int)) <|
      ck (inR (dC .u8 (byt s_0 (i_1+3)) 63)) <|
      some (iOr .i64 (iOr .i64 (iOr .i64 (kq .i64 (dC .u8 (byt s_0 i_1) 7) 18) (kq .i64 (dC .u8 (byt s_0 (i_1+1)) 63) 12)) (kq .i64 (dC .u8 (byt s_0 (i_1+2)) 63) 6)) (dC .u8 (byt s_0 (i_1+3)) 63),4)
     else
      some (0,0)
def iH (s_0:Bytes):Nat→Int→Option (Unit⊕Bool)
 | 0,_=>none
 | m+1,i8 =>
 if i8 < (s_0.length:Int) then
  (lL s_0 i8).bind λ r10 =>
  if r10.2=0 then
   some (.inr false)
  else
   ck (inR (i8+r10.2)) <|
   iH s_0 m (i8+r10.2)
 else
  some (.inl ())
def nj (n:Nat)(s_0:Bytes):Option Bool :=
 if 4096 < (s_0.length:Int) then
  some false
 else
  jn (iH s_0 n 0) λ q15 =>
  some true
def mc (v_0:ah):Option Bool :=
 (
   if v_0.fKind=2 then
    some true
   else
    if v_0.fKind=1 then
     if v_0.fNum=0 then
      some true
     else
      if v_0.fNum=1 then
       some true
      else
       some (decide (v_0.fNum=0))
    else
     some (decide (v_0.fNum=0))
  : Option Bool).bind λ num5 =>
 (
   if v_0.fKind=3 then
    some true
   else
    some (decide (v_0.fStr=([]:Bytes)))
  : Option Bool).bind λ str7 =>
 (
   if v_0.fKind=4 then
    some true
   else
    if v_0.fKind=5 then
     some true
    else
     some (decide ((v_0.fItems.length:Int)=0))
  : Option Bool).bind λ items10 =>
 (
   if v_0.fKind=5 then
    if (v_0.fKeys.length:Int)=(v_0.fItems.length:Int) then
     some true
    else
     some false
   else
    some (decide ((v_0.fKeys.length:Int)=0))
  : Option Bool).bind λ keys13 =>
 (
   if 0≤v_0.fKind then
    if v_0.fKind≤6 then
     if num5=true then
      if str7=true then
       if items10=true then
        some keys13
       else
        some false
      else
       some false
     else
      some false
    else
     some false
   else
    some false
  : Option Bool).bind λ t19 =>
 some t19
def j7 (n:Nat)(s_0:Bytes):Option Int :=
 if 4096 < (s_0.length:Int) then
  some 3
 else
  (nj n s_0).bind λ r2 =>
  if (!r2)=true then
   some 1
  else
   some 0
def ib (n:Nat)(v_0:ah):Nat→Int→Option (Unit⊕Int)
 | 0,_=>none
 | m+1,i25 =>
 if i25 < (v_0.fKeys.length:Int) then
  ck ((0:Int)≤i25∧i25 < (v_0.fKeys.length:Int)) <|
  (j7 n (lat v_0.fKeys i25)).bind λ r28 =>
  if r28=0 then
   (
     if 0 < i25 then
      ck (inR (i25 - 1)) <|
      ck ((0:Int)≤i25 - 1∧i25 - 1 < (v_0.fKeys.length:Int)) <|
      ck ((0:Int)≤i25∧i25 < (v_0.fKeys.length:Int)) <|
      some (!Op.bytesLess (lat v_0.fKeys (i25 - 1)) (lat v_0.fKeys i25))
     else
      some false
    : Option Bool).bind λ t35 =>
   if t35=true then
    some (.inr 1)
   else
    ck (inR (i25+1)) <|
    ib n v_0 m (i25+1)
  else
   some (.inr r28)
 else
  some (.inl ())
def sb (n:Nat)(v_0:ah):Option Int :=
 (mc v_0).bind λ r1 =>
 if (!r1)=true then
  some 1
 else
  (
    if v_0.fKind=2 then
     (qD v_0.fNum).bind λ r5 =>
     some (!r5)
    else
     some false
   : Option Bool).bind λ t7 =>
  if t7=true then
   some 5
  else
   (j7 n v_0.fStr).bind λ r9 =>
   if r9=0 then
    jn (ib n v_0 n 0) λ q40 =>
    some 0
   else
    some r9
def ea (a_0:ah)(b_1:ah):Nat→Int→Option (Unit⊕Bool)
 | 0,_=>none
 | m+1,i13 =>
 if i13 < (a_0.fKeys.length:Int) then
  ck ((0:Int)≤i13∧i13 < (a_0.fKeys.length:Int)) <|
  ck ((0:Int)≤i13∧i13 < (b_1.fKeys.length:Int)) <|
  if lat a_0.fKeys i13=lat b_1.fKeys i13 then
   ck (inR (i13+1)) <|
   ea a_0 b_1 m (i13+1)
  else
   some (.inr false)
 else
  some (.inl ())
def ed (r_ref07_Equal:ah→ah→Option Bool)(a_0:ah)(b_1:ah):Nat→Int→Option (Unit⊕Bool)
 | 0,_=>none
 | m+1,i28 =>
 if i28 < (a_0.fItems.length:Int) then
  ck ((0:Int)≤i28∧i28 < (a_0.fItems.length:Int)) <|
  ck ((0:Int)≤i28∧i28 < (b_1.fItems.length:Int)) <|
  (r_ref07_Equal (lat a_0.fItems i28) (lat b_1.fItems i28)).bind λ r32 =>
  if (!r32)=true then
   some (.inr false)
  else
   ck (inR (i28+1)) <|
   ed r_ref07_Equal a_0 b_1 m (i28+1)
 else
  some (.inl ())
def fg:Nat→ah→ah→Option Bool
 | 0,_,_=>none
 | n+1,a_0,b_1 =>
 (
   if a_0.fKind=b_1.fKind then
    if a_0.fNum=b_1.fNum then
     if a_0.fStr=b_1.fStr then
      if (a_0.fItems.length:Int)=(b_1.fItems.length:Int) then
       some (!decide ((a_0.fKeys.length:Int)=(b_1.fKeys.length:Int)))
      else
       some true
     else
      some true
    else
     some true
   else
    some true
  : Option Bool).bind λ t5 =>
 if t5=true then
  some false
 else
  jn (ea a_0 b_1 n 0) λ q38 =>
  jn (ed (fg n) a_0 b_1 n 0) λ q39 =>
  some true
theorem rr (n:Nat):∀ (a_0:ah) (b_1:ah) (r:Bool),fg n a_0 b_1=some r→aK Tryz.prog 50 [.agg (ah.cs a_0),.agg (ah.cs b_1)] (·=.p (eB r)):=by
 induction n with
 | zero=>intro a_0 b_1 r h0; cases h0
 | succ n ih =>
 have ih_ref07_Equal_ok:=ih
 intro a_0 b_1 r h0
 rw [fg] at h0
 refine cB good Tryz.func50 Z Z Z λ w0=>mP (λ v:Bool=>.p (eB v)) ?_
 refine nx 8 Z (bd h0 λ o40 h1 h0=>?_)
 refine kN o40 (λ v41=>⟨[(2,.ptr 2 0),(3,.ptr 3 0),(43,.p (eB v41))],[(2,(ah.cs a_0).map .p),(3,(ah.cs b_1).map .p)]⟩) ?_ ?_
 ·refine nx 1 Z (fB [43] h0 Z (λ c6 h0=>?_) λ c6 h0=>?_)
  ·exact nx 6 Z (mQ (oi h0) Z (sr))
  refine nx 8 Z ?_
  obtain ⟨o42,h1,hL0,hR0⟩:=dk h0
  refine kEx 0 (λ v43:Unit=>o42=.inl v43) (λ v43=>⟨[(2,.ptr 2 0),(3,.ptr 3 0)],[(2,(ah.cs a_0).map .p),(3,(ah.cs b_1).map .p)]⟩) (λ v43 hv=>?_) ?_
  ·have h0:=hL0 _ hv
   refine nx 7 Z ?_
   obtain ⟨o44,h1,hL0,hR0⟩:=dk h0
   refine kEx 2 (λ v45:Unit=>o44=.inl v45) (λ v45=>⟨[],[]⟩) (λ v45 hv=>?_) ?_
   ·have h0:=hL0 _ hv
    exact nx 6 Z (mQ (oi h0) Z (sr))
   refine lG (λ (q46:Int)=>⟨[(2,.ptr 2 0),(3,.ptr 3 0),(6,.p (eI q46))],[(2,(ah.cs a_0).map .p),(3,(ah.cs b_1).map .p)]⟩) (λ m (q46:Int)=>ed (fg n) a_0 b_1 m q46) Y 0 h1 (gE Z Z) ?_
   rintro m i28 h1
   replace h1:ed (fg n) a_0 b_1 (m+1) i28=some o44:=h1
   rw [ed] at h1
   refine nx 6 Z (oLl (f:=cC) Z Z ?_)
   refine nx 2 Z (fD [66] h1 Z (λ c29 h1=>?_) λ c29 h1=>?_)
   ·refine nx 5 Z (cc' h1 λ hk30 h1=>?_)
    refine cc' h1 λ hk31 h1=>bd h1 λ r32 e33 h1=>mD [(2,.ptr 2 0),(3,.ptr 3 0),(6,.p (eI i28))] Z ⟨Z,Z,Z,trivial⟩ Z (dR 3 Z ?_)
    refine dq (.rptr (ah.cs (lat a_0.fItems i28))) [70,71] Z (λ _ e _ q=>am Z (kB (f:=cC) (l:=a_0.fItems) ah.cs Z Z Z Z Z Z (e _ _ Z) Z (e _ _ Z) hk30 ah.cells_eq Y q)) Z (dR 4 Z ?_)
    refine dq (.rptr (ah.cs (lat b_1.fItems i28))) [75,76] Z (λ _ e _ q=>am Z (kB (f:=cC) (l:=b_1.fItems) ah.cs Z Z Z Z Z Z (e _ _ Z) Z (e _ _ Z) hk31 ah.cells_eq Y q)) Z (dR 1 Z ?_)
    refine dq (.p (eB r32)) [73,78] Z (λ _ e _ q=>am Z (cG (ih_ref07_Equal_ok (lat a_0.fItems i28) (lat b_1.fItems i28) _ e33) Z Z Z (aE (e _ _ Z) (aE (e _ _ Z) bK)) ⟨sr,sr,trivial⟩ Tryz.call50 Z q)) Z (dR 1 Z ?_)
    refine dE Z (nx 1 Z ?_)
    refine fB [80] h1 Z (λ c34 h1=>?_) λ c34 h1=>?_
    ·exact nx 6 Z (mQ (hR0 _ (oi h1).symm) Z (sr))
    refine nx 4 Z (oA h1 Z Z λ hk35 h1=>?_)
    exact nx 2 Z (eX (i28+1) h1 (gE Z Z))
   exact nx 2 Z (eXi _ (oi h1).symm (gE Z Z))
  refine lG (λ (q47:Int)=>⟨[(2,.ptr 2 0),(3,.ptr 3 0),(5,.p (eI q47))],[(2,(ah.cs a_0).map .p),(3,(ah.cs b_1).map .p)]⟩) (λ m (q47:Int)=>ea a_0 b_1 m q47) Y 0 h1 (gE Z Z) ?_
  rintro m i13 h1
  replace h1:ea a_0 b_1 (m+1) i13=some o42:=h1
  rw [ea] at h1
  refine nx 6 Z (oLl (f:=eS) Z Z ?_)
  refine nx 2 Z (fD [48] h1 Z (λ c14 h1=>?_) λ c14 h1=>?_)
  ·refine nx 5 Z (cc' h1 λ hk15 h1=>?_)
   refine cc' h1 λ hk16 h1=>mD [(2,.ptr 2 0),(3,.ptr 3 0),(5,.p (eI i13))] Z ⟨Z,Z,Z,trivial⟩ Z (dR 3 Z ?_)
   refine dq (.rptr [eS (lat a_0.fKeys i13)]) [52,53] Z (λ _ e _ q=>am Z (kB (f:=eS) (l:=a_0.fKeys) (λ x=>[eS x]) Z Z Z Z Z Z (e _ _ Z) Z (e _ _ Z) hk15 Y Y q)) Z (dR 4 Z ?_)
   refine dq (.rptr [eS (lat b_1.fKeys i13)]) [57,58] Z (λ _ e _ q=>am Z (kB (f:=eS) (l:=b_1.fKeys) (λ x=>[eS x]) Z Z Z Z Z Z (e _ _ Z) Z (e _ _ Z) hk16 Y Y q)) Z (dR 1 Z ?_)
   refine dq (.p (eB (!decide (lat a_0.fKeys i13=lat b_1.fKeys i13)))) [55,60] Z (λ _ e _ q=>am Z (rl Z Z Z (e _ _ Z) (e _ _ Z) Z q)) Z (dE Z ?_)
   refine nx 1 Z (fN [61] h1 Z (λ c17 h1=>?_) λ c17 h1=>?_)
   ·refine nx 4 Z (oA h1 Z Z λ hk18 h1=>?_)
    exact nx 2 Z (eX (i13+1) h1 (gE Z Z))
   exact nx 6 Z (mQ (hR0 _ (oi h1).symm) Z (sr))
  exact nx 2 Z (eXi _ (oi h1).symm (gE Z Z))
 refine nx 7 Z (fN [11,12] h1 Z (λ c1 h1=>?_) λ c1 h1=>?_)
 ·refine nx 7 Z (fN [17,18,19] h1 Z (λ c2 h1=>?_) λ c2 h1=>?_)
  ·refine nx 4 Z (oS Z Z ?_)
   refine nx 2 Z (fN [24,25,26] h1 Z (λ c3 h1=>?_) λ c3 h1=>?_)
   ·refine nx 2 Z (oLl (f:=cC) Z Z ?_)
    refine nx 2 Z (oLl (f:=cC) Z Z ?_)
    refine nx 3 Z (fN [33,34,35] h1 Z (λ c4 h1=>?_) λ c4 h1=>?_)
    ·refine nx 2 Z (oLl (f:=eS) Z Z ?_)
     refine nx 2 Z (oLl (f:=eS) Z Z ?_)
     exact nx 3 Z (eX _ (oi h1).symm (gE Z Z))
    exact nx 9 Z (eX _ (oi h1).symm (gE Z Z))
   exact nx 18 Z (eX _ (oi h1).symm (gE Z Z))
  exact nx 25 Z (eX _ (oi h1).symm (gE Z Z))
 exact nx 32 Z (eX _ (oi h1).symm (gE Z Z))
end Go.Ab.R06
end
section
namespace Go.Ab.R06
open Go.Ab Go.Ab.RB Go.Lib
theorem xt {src:Bytes→SE⊕Bytes}{l:Bytes}(hs:∀ r e,src r=.inl e→e.1≠0){e:SE}(h:jv src l=.inl e):e.1≠0:=by
 cases l with
 | nil=>cases h; decide
 | cons b r =>
  rw [j1] at h
  split at h
  ·split at h
   ·cases h; exact (by decide:(7:Int)≠0)
   ·cases h
  split at h
  ·cases h
  split at h
  ·cases h
  split at h
  ·split at h
   ·rename_i e' he; cases h; exact hs _ _ he
   ·cases h
  split at h
  ·cases h; exact (by decide:(2:Int)≠0)
  ·cases h
theorem zT:∀ (f k:Nat),(∀ l e,fK f k l=.inl e→e.1≠0)∧(∀ n l e,jH f k n l=.inl e→e.1≠0)
 | 0,k=>⟨λ l e h=>(by rw [fK] at h; cases h; decide),λ n l e h=>(by rw [jH] at h; cases h; decide)⟩
 | f+1,k=>by
  have ih:=zT f
  constructor
  ·intro l e h
   cases l with
   | nil=>rw [fK] at h; cases h; decide
   | cons b r =>
    rw [nH] at h
    split at h
    ·cases h
    split at h
    ·exact (ih k).1 _ _ h
    split at h
    ·split at h
     ·cases h; exact (by decide:(4:Int)≠0)
     ·split at h
      ·rename_i e' he; cases h; exact (ih (k+1)).2 _ _ _ he
      ·exact (ih k).1 _ _ h
    split at h
    ·cases h; decide
    ·split at h
     ·cases h; exact (by decide:(2:Int)≠0)
     ·exact (ih k).1 _ _ h
  ·intro n l e h
   rw [nA] at h
   generalize fm false l=l0 at h
   cases l0 with
   | nil=>cases h; decide
   | cons b r =>
    rw [nt] at h
    cases hq:jv (fK f k) (b::r) with
    | inl e'=>rw [hq] at h; cases h; exact xt (ih k).1 hq
    | inr z =>
     obtain ⟨c,t,l'⟩:=z
     rw [hq,oM] at h
     split at h
     ·split at h
      ·cases h
      ·exact (ih k).2 _ _ _ h
     split at h
     ·exact (ih k).2 _ _ _ h
     ·exact (ih k).2 _ _ _ h
end Go.Ab.R06
end
section
namespace Go.Ab.R06
open Go.Proofs Go.Ab Go.Ab.RB
attribute [local irreducible] awp ge bq aK aW AV.sub M dc
def ir (k_0:Int):Option Bool :=
 (
   if k_0=12 then
    some true
   else
    some (decide (k_0=13))
  : Option Bool).bind λ t2 =>
 some t2
def jD (k_0:Int):Option Bool :=
 (
   if k_0=3 then
    some true
   else
    if k_0=4 then
     some true
    else
     if k_0=9 then
      some true
     else
      (ir k_0).bind λ r4 =>
      some r4
  : Option Bool).bind λ t6 =>
 some t6
def ip (k_0:Int)(n_1:Int):Option Bool :=
 (
   if k_0=1 then
    some true
   else
    some (decide (k_0=3))
  : Option Bool).bind λ t2 =>
 if t2=true then
  some (decide (n_1=0))
 else
  if k_0=2 then
   some (decide (1≤n_1))
  else
   (
     if k_0=4 then
      some true
     else
      some (decide (k_0=6))
    : Option Bool).bind λ t6 =>
   if t6=true then
    some (decide (n_1=1))
   else
    (
      if k_0=5 then
       some true
      else
       some (decide (k_0=7))
     : Option Bool).bind λ t9 =>
    if t9=true then
     some (decide (n_1=2))
    else
     if k_0=8 then
      some (decide (n_1=3))
     else
      (
        if k_0=9 then
         some true
        else
         some (decide (k_0=10))
       : Option Bool).bind λ t13 =>
      if t13=true then
       some true
      else
       if k_0=11 then
        ck ((2:Int)≠0) <|
        some (decide (n_1.tmod 2=0))
       else
        if k_0=12 then
         (
           if n_1=2 then
            some true
           else
            some (decide (n_1=3))
          : Option Bool).bind λ t19 =>
         some t19
        else
         if k_0=13 then
          (
            if n_1=3 then
             some true
            else
             some (decide (n_1=4))
           : Option Bool).bind λ t22 =>
          some t22
         else
          some false
def kk (v_0:ah):Option Bool :=
 (
   if v_0.fKind=0 then
    if v_0.fNum=0 then
     if v_0.fStr=([]:Bytes) then
      if (v_0.fItems.length:Int)=0 then
       some (decide ((v_0.fKeys.length:Int)=0))
      else
       some false
     else
      some false
    else
     some false
   else
    some false
  : Option Bool).bind λ t5 =>
 some t5
def gT (e_0:ac):Option Bool :=
 (
   (ip e_0.fKind (e_0.fKids.length:Int)).bind λ r1 =>
   if (!r1)=true then
    some true
   else
    (ir e_0.fKind).bind λ r4 =>
    if (!r4)=true then
     if e_0.fKey=([]:Bytes) then
      (jD e_0.fKind).bind λ r8 =>
      if (!r8)=true then
       some (!decide (e_0.fName=([]:Bytes)))
      else
       some false
     else
      some true
    else
     (jD e_0.fKind).bind λ r11 =>
     if (!r11)=true then
      some (!decide (e_0.fName=([]:Bytes)))
     else
      some false
  : Option Bool).bind λ t14 =>
 if t14=true then
  some false
 else
  if e_0.fKind=1 then
   (
     if e_0.fOp=0 then
      if e_0.fValue.fKind=0 then
       some true
      else
       if e_0.fValue.fKind=1 then
        some true
       else
        if e_0.fValue.fKind=3 then
         some true
        else
         if e_0.fValue.fKind=2 then
          some (decide (0≤e_0.fValue.fNum))
         else
          some false
     else
      some false
    : Option Bool).bind λ t22 =>
   some t22
  else
   (kk e_0.fValue).bind λ r23 =>
   if (!r23)=true then
    some false
   else
    if e_0.fKind=6 then
     (
       if e_0.fOp=1 then
        some true
       else
        some (decide (e_0.fOp=2))
      : Option Bool).bind λ t28 =>
     some t28
    else
     if e_0.fKind=7 then
      (
        if 3≤e_0.fOp then
         some (decide (e_0.fOp≤15))
        else
         some false
       : Option Bool).bind λ t31 =>
      some t31
     else
      some (decide (e_0.fOp=0))
end Go.Ab.R06
end
section
namespace Go.Ab.R06
open Go.Ab Go.Ab.RB Go.Lib
theorem ckT {α:Type}(x:Option α):ck True x=x:=b8 trivial
theorem BB (v:ah)(h:v.fItems.length+v.fKeys.length≤1000000000000000):iy v=kk v:=by
 unfold iy kk
 by_cases h1:v.fKind=0
 ·by_cases h2:v.fNum=0
  ·by_cases h3:v.fStr=[]
   ·simp only [if_pos h1,if_pos h2,if_pos h3]
    rw [b8 (aG O O)]
    by_cases h4:(v.fItems.length:Int)=0
    ·rw [if_pos h4]
     simp only [Option.bind_some,Option.some.injEq,decide_eq_decide]; omega
    ·rw [if_neg h4]
     simp only [Option.bind_some,Option.some.injEq,decide_eq_false_iff_not]; omega
   ·simp only [if_pos h1,if_pos h2,if_neg h3]
  ·simp only [if_pos h1,if_neg h2]
 ·simp only [if_neg h1]
theorem C5 (v:ah):∃ b,kk v=some b:=by
 unfold kk
 repeat' split
 all_goals exact ⟨_,Z⟩
theorem tI (e:ac)(h:e.fValue.fItems.length+e.fValue.fKeys.length≤1000000000000000):gf e=gT e:=by
 obtain ⟨z,hz⟩:=C5 e.fValue
 have hz':=(BB e.fValue h).trans hz
 unfold gf gT ia
 rw [hz,hz']
 clear hz hz' h
 have hk0:0≤(e.fKids.length:Int):=by omega
 have hp:(e.fKids.length:Int).tmod 2=0∨(e.fKids.length:Int).tmod 2=1:=by
  have:=Int.emod_two_eq (e.fKids.length:Int)
  rwa [Int.tmod_eq_emod_of_nonneg hk0]
 generalize (e.fKids.length:Int)=m at hk0 hp ⊢
 generalize e.fKind=k
 generalize e.fOp=op
 generalize e.fValue.fKind=vk
 generalize e.fValue.fNum=vn
 generalize e.fName=name
 generalize e.fKey=key
 by_cases hr:k < 1∨13 < k
 ·have e2:ip k m=some false:=by
   unfold ip
   simp only [show ¬ k=1 by omega,show ¬ k=2 by omega,show ¬ k=3 by omega,show ¬ k=4 by omega,show ¬ k=5 by omega,show ¬ k=6 by omega,show ¬ k=7 by omega,show ¬ k=8 by omega,show ¬ k=9 by omega,show ¬ k=10 by omega,show ¬ k=11 by omega,show ¬ k=12 by omega,show ¬ k=13 by omega,if_false,decide_false,Option.bind_some,Bool.false_eq_true]
  rw [e2]
  by_cases q:k < 1
  ·rw [if_pos q]; rfl
  ·rw [if_neg q,if_pos O]; rfl
 ·have hk:k=1∨k=2∨k=3∨k=4∨k=5∨k=6∨k=7∨k=8∨k=9∨k=10∨k=11∨k=12∨k=13:=by omega
  unfold io jf ns ip ir jD
  unfold ir
  by_cases hn:name=[] <;> by_cases hke:key=[] <;> cases z <;> rcases hp with hp | hp
  all_goals (rcases hk with rfl | rfl | rfl | rfl | rfl | rfl | rfl | rfl | rfl | rfl | rfl | rfl | rfl)
  all_goals (simp [hn,hke,hp,ckT]; try done)
  all_goals (repeat' split)
  all_goals (try (simp_all; done))
  all_goals (try omega)
  all_goals (try simp_all)
  all_goals (repeat' split)
  all_goals (try (simp_all; done))
  all_goals (try omega)
end Go.Ab.R06
end
section
namespace Go.Ab.R06
open Go.Ab Go.Ab.RB
theorem Am (s:Bytes)(hs:s.length≤1000000000000000):∀ (k i:Nat),i+k=s.length→Ev2 (λ _ m=>cg s m (i:Int)) (·=if pE (wb s) i k then .inl () else .inr false):=by
 intro k
 induction k with
 | zero =>
  intro i hi
  refine aV ?_
  simp only [cg]
  refine ai O (ab Z)
 | succ k ih =>
  intro i hi
  refine aV ?_
  simp only [cg]
  refine aj O (ar O ?_)
  have hb:byt s i=((s.getD i 0).toNat:Int):=gj s i
  rw [hb]
  have hor:=DD (s.getD i 0)
  have hok:=pc s i
  rw [pi,mI] at hok
  refine ao (!wb s i) ?_ ?_
  ·generalize s.getD i 0=b at hor hok ⊢
   generalize wb s i=o at hok ⊢
   generalize iOr .u8 ((b.toNat:Nat):Int) 32=v at hor ⊢
   have hT:(nS b=true)→o=true:=λ h=>hok.2 (.inl ((pi b).1 h))
   have mk:∀ x:Bool,(x=true↔¬ (((97≤b.toNat∧b.toNat≤122)∨(65≤b.toNat∧b.toNat≤90)∨b.toNat=95)∨(i≠0∧48≤b.toNat∧b.toNat≤57)))→x=!o:=λ x hx=>eqB (by rw [hx,← hok]; simp)
   refine ar O (aP (λ h=>ab (mk _ ?_)) (λ h=>aP (λ h1=>?_) (λ h1=>aP (λ h2=>?_) (λ h2=>ab (mk _ ?_)))))
   ·simp; omega
   ·refine aP (λ h3=>ab (mk _ ?_)) (λ h3=>ar O (aP (λ h4=>ab (mk _ ?_)) (λ h4=>ar O (ab (mk _ ?_)))))
    ·simp; omega
    ·simp; omega
    ·rw [decide_eq_true_eq]; omega
   ·refine aP (λ h3=>ab (mk _ ?_)) (λ h3=>ar O (aP (λ h4=>ab (mk _ ?_)) (λ h4=>ar O (ab (mk _ ?_)))))
    ·simp; omega
    ·simp; omega
    ·rw [decide_eq_true_eq]; omega
   ·simp; omega
  ·cases hk:wb s i with
   | false=>exact aj G (ab (by simp [pE,hk]))
   | true =>
    refine ai G (ar (aG O O) ?_)
    have:=ih (i+1) O
    rw [Int.natCast_add,Int.natCast_one] at this
    simpa [pE,hk] using this
theorem vz (s:Bytes)(hs:s.length≤1000000000000000):Ev2 (λ n _=>dK n s) (·=hQ s):=by
 simp only [dK]
 have h:=Am s hs s.length 0 O
 have hi:=xe s
 cases ha:pE (wb s) 0 s.length with
 | false =>
  rw [ha] at h hi
  refine jJ false (bS h) (eqB ?_)
  rw [hi]; simp
 | true =>
  rw [ha] at h hi
  refine fE () (bS h) ?_
  refine af (·=hQ s) (aP (λ h=>ab (eqB ?_)) (λ h=>ab (eqB ?_))) (λ t ht=>ab ht)
  ·rw [hi]; simp [h]
  ·rw [hi,decide_eq_true_eq]; simp [h]; omega
end Go.Ab.R06
end
section
namespace Go.Ab.R06
open Go.Ab Go.Ab.RB Go.Lib
theorem t31:(List.range 256).all (λ n=>dC .u8 (n:Int) 31 == ((n % 32:Nat):Int))=true:=by kernel_rfl
theorem t15:(List.range 256).all (λ n=>dC .u8 (n:Int) 15 == ((n % 16:Nat):Int))=true:=by kernel_rfl
theorem t7:(List.range 256).all (λ n=>dC .u8 (n:Int) 7 == ((n % 8:Nat):Int))=true:=by kernel_rfl
theorem or64 (a b:Nat)(ha:a < 4611686018427387904)(hb:b < 4611686018427387904):iOr .i64 (a:Int) (b:Int)=((a ||| b:Nat):Int):=by
 have hlt:a ||| b < 4611686018427387904:=Nat.or_lt_two_pow (n:=62) ha hb
 have e1:(BitVec.ofInt 64 (a:Int)).toNat=a:=by
  rw [BitVec.toNat_ofInt]; omega
 have e2:(BitVec.ofInt 64 (b:Int)).toNat=b:=by
  rw [BitVec.toNat_ofInt]; omega
 show IntKind.wrap .i64 (((BitVec.ofInt 64 (a:Int)) ||| (BitVec.ofInt 64 (b:Int))).toNat:Nat)=_
 rw [BitVec.toNat_or,e1,e2]
 simp [IntKind.wrap,IntKind.bits,IntKind.signed]
 omega
theorem tp (a b k:Nat)(ha:a*2 ^ k < 4611686018427387904)(hb:b < 2 ^ k)(hk:k≤20):iOr .i64 ((a*2 ^ k:Nat):Int) (b:Int)=((a*2 ^ k+b:Nat):Int):=by
 have hp:2 ^ k≤2 ^ 20:=Nat.pow_le_pow_right (by decide) hk
 have h20:(2:Nat) ^ 20=1048576:=rfl
 rw [or64 _ _ ha O]
 have:=Nat.shiftLeft_add_eq_or_of_lt hb a
 rw [Nat.shiftLeft_eq] at this
 rw [← this]
theorem tC (a k:Nat)(hk:k≤20)(ha:a*2 ^ k < 4611686018427387904):kq .i64 (a:Int) (k:Int)=((a*2 ^ k:Nat):Int):=by
 have:min (k:Int).toNat IntKind.i64.bits=k:=by
  have:IntKind.i64.bits=64:=rfl
  rw [this]; omega
 unfold kq
 rw [this]
 have e:(a:Int)*2 ^ k=((a*2 ^ k:Nat):Int):=by push_cast; rfl
 rw [e]
 generalize a*2 ^ k=v at ha
 simp [IntKind.wrap,IntKind.bits,IntKind.signed]
 omega
def Ea (l:Bytes):Int×Int:=if (decodeL l).1=65533∧(decodeL l).2=1 then (0,0) else (((decodeL l).1:Int),((decodeL l).2:Int))
theorem Cg (s:Bytes)(j:Nat)(lo hi:Int):eH s (j:Int) lo hi=some (decide (j < s.length∧lo≤((s.getD j 0).toNat:Int)∧((s.getD j 0).toNat:Int)≤hi)):=by
 unfold eH
 have hb:byt s (j:Int)=((s.getD j 0).toNat:Int):=gj s j
 rw [hb]
 by_cases h:j < s.length
 ·rw [if_pos O,b8 O]
  by_cases h2:lo≤((s.getD j 0).toNat:Int)
  ·rw [if_pos h2,b8 O]
   refine congrArg some (eqB ?_)
   rw [decide_eq_true_eq,decide_eq_true_eq]
   exact ⟨λ q=>⟨h,h2,q⟩,λ q=>q.2.2⟩
  ·rw [if_neg h2,Option.bind_some]
   symm; rw [Option.some.injEq,decide_eq_false_iff_not]
   exact λ q=>h2 q.2.1
 ·rw [if_neg O]; simp [h]
set_option maxHeartbeats 8000000 in
theorem wv (s:Bytes)(i:Nat)(hi:i < s.length)(hs:s.length≤1000000000):lL s (i:Int)=some (Ea (s.drop i)):=by
 have hg:∀ k,(s.drop i).getD k 0=s.getD (i+k) 0:=λ k=>by
  rw [List.getD_eq_getElem?_getD,List.getElem?_drop,List.getD_eq_getElem?_getD]
 unfold lL Ea
 rw [decodeL_N,hg,hg,hg,hg,Nat.add_zero,List.length_drop]
 have b:∀ k:Nat,byt s ((i:Int)+k)=((s.getD (i+k) 0).toNat:Int):=λ k=>by
  rw [show (i:Int)+(k:Int)=((i+k:Nat):Int) by omega]; exact gj s (i+k)
 have c:∀ (k:Nat) lo hi,eH s ((i:Int)+k) lo hi=some (decide (k < s.length - i∧lo≤((s.getD (i+k) 0).toNat:Int)∧((s.getD (i+k) 0).toNat:Int)≤hi)):=λ k lo hi=>by
  rw [show (i:Int)+(k:Int)=((i+k:Nat):Int) by omega,Cg]
  refine congrArg some (eqB ?_)
  rw [decide_eq_true_eq,decide_eq_true_eq]
  constructor
  ·rintro ⟨h1,h2⟩; exact ⟨by omega,h2⟩
  ·rintro ⟨h1,h2⟩; exact ⟨by omega,h2⟩
 have b0:byt s (i:Int)=((s.getD i 0).toNat:Int):=gj s i
 have b1:byt s ((i:Int)+1)=((s.getD (i+1) 0).toNat:Int):=b 1
 have b2:byt s ((i:Int)+2)=((s.getD (i+2) 0).toNat:Int):=b 2
 have b3:byt s ((i:Int)+3)=((s.getD (i+3) 0).toNat:Int):=b 3
 have c1:∀ lo hi,eH s ((i:Int)+1) lo hi=_:=c 1
 have c2:∀ lo hi,eH s ((i:Int)+2) lo hi=_:=c 2
 have c3:∀ lo hi,eH s ((i:Int)+3) lo hi=_:=c 3
 simp only [b0,b1,b2,b3,c1,c2,c3]
 obtain ⟨n,hn⟩:∃ n,s.length=i+n:=⟨s.length - i,by omega⟩
 have hn1:s.length - i=n:=by omega
 have hlen:(s.length:Int)=(i:Int)+n:=by omega
 rw [hn1,hlen]
 have l0:=(s.getD i 0).toNat_lt
 have l1:=(s.getD (i+1) 0).toNat_lt
 have l2:=(s.getD (i+2) 0).toNat_lt
 have l3:=(s.getD (i+3) 0).toNat_lt
 generalize (s.getD i 0).toNat=B0 at l0 ⊢
 generalize (s.getD (i+1) 0).toNat=B1 at l1 ⊢
 generalize (s.getD (i+2) 0).toNat=B2 at l2 ⊢
 generalize (s.getD (i+3) 0).toNat=B3 at l3 ⊢
 have hnp:0 < n:=by omega
 have hnb:n≤1000000000:=by omega
 have hib:i≤1000000000:=by omega
 clear hg b c b0 b1 b2 b3 c1 c2 c3 hn1 hlen hn hi hs
 have a31:dC .u8 (B0:Int) 31=((B0 % 32:Nat):Int):=tab t31 B0 O
 have a15:dC .u8 (B0:Int) 15=((B0 % 16:Nat):Int):=tab t15 B0 O
 have a7:dC .u8 (B0:Int) 7=((B0 % 8:Nat):Int):=tab t7 B0 O
 have a1:dC .u8 (B1:Int) 63=((B1 % 64:Nat):Int):=tab t63 B1 O
 have a2:dC .u8 (B2:Int) 63=((B2 % 64:Nat):Int):=tab t63 B2 O
 have a3:dC .u8 (B3:Int) 63=((B3 % 64:Nat):Int):=tab t63 B3 O
 have two:iOr .i64 (kq .i64 ((B0 % 32:Nat):Int) 6) ((B1 % 64:Nat):Int)=((B0 % 32*64+B1 % 64:Nat):Int):=by
  have h1:kq .i64 ((B0 % 32:Nat):Int) 6=((B0 % 32*2 ^ 6:Nat):Int):=tC _ 6 (by decide) O
  rw [h1]
  exact tp _ _ 6 O O  (by decide)
 have three:iOr .i64 (iOr .i64 (kq .i64 ((B0 % 16:Nat):Int) 12) (kq .i64 ((B1 % 64:Nat):Int) 6)) ((B2 % 64:Nat):Int)=((B0 % 16*4096+B1 % 64*64+B2 % 64:Nat):Int):=by
  have h1:kq .i64 ((B0 % 16:Nat):Int) 12=((B0 % 16*2 ^ 12:Nat):Int):=tC _ 12 (by decide) O
  have h2:kq .i64 ((B1 % 64:Nat):Int) 6=((B1 % 64*2 ^ 6:Nat):Int):=tC _ 6 (by decide) O
  have h3:=tp (B0 % 16) (B1 % 64*2 ^ 6) 12 O O  (by decide)
  have h4:=tp (B0 % 16*64+B1 % 64) (B2 % 64) 6 O O  (by decide)
  rw [h1,h2,h3,show B0 % 16*2 ^ 12+B1 % 64*2 ^ 6=(B0 % 16*64+B1 % 64)*2 ^ 6 by omega,h4]
 have four:iOr .i64 (iOr .i64 (iOr .i64 (kq .i64 ((B0 % 8:Nat):Int) 18) (kq .i64 ((B1 % 64:Nat):Int) 12)) (kq .i64 ((B2 % 64:Nat):Int) 6)) ((B3 % 64:Nat):Int)=((B0 % 8*262144+B1 % 64*4096+B2 % 64*64+B3 % 64:Nat):Int):=by
  have h1:kq .i64 ((B0 % 8:Nat):Int) 18=((B0 % 8*2 ^ 18:Nat):Int):=tC _ 18 (by decide) O
  have h2:kq .i64 ((B1 % 64:Nat):Int) 12=((B1 % 64*2 ^ 12:Nat):Int):=tC _ 12 (by decide) O
  have h2':kq .i64 ((B2 % 64:Nat):Int) 6=((B2 % 64*2 ^ 6:Nat):Int):=tC _ 6 (by decide) O
  have h3:=tp (B0 % 8) (B1 % 64*2 ^ 12) 18 O O  (by decide)
  have h4:=tp (B0 % 8*64+B1 % 64) (B2 % 64*2 ^ 6) 12 O O  (by decide)
  have h5:=tp (B0 % 8*4096+B1 % 64*64+B2 % 64) (B3 % 64) 6 O O  (by decide)
  rw [h1,h2,h2',h3,show B0 % 8*2 ^ 18+B1 % 64*2 ^ 12=(B0 % 8*64+B1 % 64)*2 ^ 12 by omega,h4,show (B0 % 8*64+B1 % 64)*2 ^ 12+B2 % 64*2 ^ 6=(B0 % 8*4096+B1 % 64*64+B2 % 64)*2 ^ 6 by omega,h5]
 rw [a31,a15,a7,a1,a2,a3,two,three,four]
 have i1:inR ((i:Int)+1):=aG O O
 have i2:inR ((i:Int)+2):=aG O O
 have i3:inR ((i:Int)+3):=aG O O
 have e0:((if (i:Int) < 0 then some true else some (decide ((i:Int)+n≤i))):Option Bool)=some false:=by
  rw [if_neg O]; simp; omega
 rw [e0,Option.bind_some,if_neg G,b8 O]
 unfold decodeN
 by_cases h0:B0 < 128
 ·rw [if_pos (show (B0:Int) < 128 by omega),b8 (aG O O),if_pos h0]
  simp only
  rw [if_neg O]; rfl
 rw [if_neg (show ¬ (B0:Int) < 128 by omega),if_neg h0]
 have e12:((if 194≤(B0:Int) then if (B0:Int)≤223 then ck (inR ((i:Int)+1)) <| (some (decide (1 < n∧(128:Int)≤(B1:Int)∧(B1:Int)≤191))).bind λ r10=>some r10 else some false else some false):Option Bool)=some (decide (194≤B0∧B0≤223∧1 < n∧128≤B1∧B1≤191)):=by
  by_cases q1:194≤B0
  ·rw [if_pos O]
   by_cases q2:B0≤223
   ·rw [if_pos O,b8 i1,Option.bind_some]
    refine congrArg some (eqB ?_)
    rw [decide_eq_true_eq,decide_eq_true_eq]; omega
   ·rw [if_neg O]; simp; omega
  ·rw [if_neg O]; simp; omega
 rw [e12,Option.bind_some]
 by_cases h12:194≤B0∧B0≤223∧1 < n∧128≤B1∧B1≤191
 ·rw [if_pos (by simp only [decide_eq_true_eq]; exact h12),b8 (aG O O),b8 O,b8 i1,b8 O,b8 (aG O O)]
  rw [if_pos (show B0 / 32=6∧1 < n∧B1 / 64=2 by omega),if_pos (show B0 % 32*64+B1 % 64 ≥ 128 by omega)]
  show some _=some (if B0 % 32*64+B1 % 64=65533∧_ then _ else _)
  rw [if_neg O]; rfl
 rw [if_neg (by simp only [decide_eq_true_eq]; exact h12)]
 have hlo:((if (B0:Int)=224 then some 160 else some 128):Option Int)=some (if B0=224 then 160 else 128):=by
  by_cases q:B0=224
  ·rw [if_pos O,if_pos q]
  ·rw [if_neg O,if_neg q]
 have hhi:((if (B0:Int)=237 then some 159 else some 191):Option Int)=some (if B0=237 then 159 else 191):=by
  by_cases q:B0=237
  ·rw [if_pos O,if_pos q]
  ·rw [if_neg O,if_neg q]
 have hlo4:((if (B0:Int)=240 then some 144 else some 128):Option Int)=some (if B0=240 then 144 else 128):=by
  by_cases q:B0=240
  ·rw [if_pos O,if_pos q]
  ·rw [if_neg O,if_neg q]
 have hhi4:((if (B0:Int)=244 then some 143 else some 191):Option Int)=some (if B0=244 then 143 else 191):=by
  by_cases q:B0=244
  ·rw [if_pos O,if_pos q]
  ·rw [if_neg O,if_neg q]
 rw [hlo,Option.bind_some,hhi,Option.bind_some]
 have e32:∀ lo hi:Int,((if 224≤(B0:Int) then if (B0:Int)≤239 then ck (inR ((i:Int)+1)) <| (some (decide (1 < n∧lo≤(B1:Int)∧(B1:Int)≤hi))).bind λ r26=>if r26=true then ck (inR ((i:Int)+2)) <| (some (decide (2 < n∧(128:Int)≤(B2:Int)∧(B2:Int)≤191))).bind λ r30=>some r30 else some false else some false else some false):Option Bool)
   = some (decide (224≤B0∧B0≤239∧(1 < n∧lo≤(B1:Int)∧(B1:Int)≤hi)∧2 < n∧128≤B2∧B2≤191)):=by
  intro lo hi
  by_cases q1:224≤B0
  ·rw [if_pos O]
   by_cases q2:B0≤239
   ·rw [if_pos O,b8 i1,Option.bind_some]
    by_cases q3:1 < n∧lo≤(B1:Int)∧(B1:Int)≤hi
    ·rw [if_pos (by simp only [decide_eq_true_eq]; exact q3),b8 i2,Option.bind_some]
     refine congrArg some (eqB ?_)
     rw [decide_eq_true_eq,decide_eq_true_eq]
     constructor
     ·intro q; exact ⟨q1,q2,q3,by omega⟩
     ·intro q; have:=q.2.2.2; omega
    ·rw [if_neg (by simp only [decide_eq_true_eq]; exact q3)]
     symm; rw [Option.some.injEq,decide_eq_false_iff_not]
     intro q; exact q3 q.2.2.1
   ·rw [if_neg O]
    symm; rw [Option.some.injEq,decide_eq_false_iff_not]
    intro q; exact q2 q.2.1
  ·rw [if_neg O]
   symm; rw [Option.some.injEq,decide_eq_false_iff_not]
   intro q; exact q1 q.1
 rw [e32,Option.bind_some]
 by_cases h32:224≤B0∧B0≤239∧(1 < n∧(if B0=224 then 160 else 128)≤(B1:Int)∧(B1:Int)≤(if B0=237 then 159 else 191))∧2 < n∧128≤B2∧B2≤191
 ·rw [if_pos (by simp only [decide_eq_true_eq]; exact h32)]
  obtain ⟨k1,k2,⟨k3,k4,k5⟩,k6,k7,k8⟩:=h32
  have k4':128≤B1∧(B0=224→160≤B1):=by split at k4 <;> omega
  have k5':B1≤191∧(B0=237→B1≤159):=by split at k5 <;> omega
  clear k4 k5
  repeat rw [b8 (by first | exact i1 | exact i2 | omega | exact aG O O)]
  rw [if_neg (show ¬ (B0 / 32=6∧1 < n∧B1 / 64=2) by omega),if_pos (show B0 / 16=14∧(1 < n∧B1 / 64=2)∧2 < n∧B2 / 64=2 by omega),if_pos (show B0 % 16*4096+B1 % 64*64+B2 % 64 ≥ 2048∧(B0 % 16*4096+B1 % 64*64+B2 % 64 < 55296∨57344≤B0 % 16*4096+B1 % 64*64+B2 % 64∧B0 % 16*4096+B1 % 64*64+B2 % 64≤1114111) by omega)]
  show some _=some (if B0 % 16*4096+B1 % 64*64+B2 % 64=65533∧(3:Nat)=1 then _ else _)
  rw [if_neg O]; rfl
 rw [if_neg (by simp only [decide_eq_true_eq]; exact h32)]
 rw [hlo4,Option.bind_some,hhi4,Option.bind_some]
 have h32':¬ (224≤B0∧B0≤239∧1 < n∧(B0=224→160≤B1)∧128≤B1∧B1≤191∧(B0=237→B1≤159)∧2 < n∧128≤B2∧B2≤191):=by
  rintro ⟨k1,k2,k3,k4,k5,k6,k7,k8⟩
  exact h32 ⟨k1,k2,⟨k3,by split <;> omega,by split <;> omega⟩,k8⟩
 clear h32 e32
 have e60:∀ lo hi:Int,((if 240≤(B0:Int) then if (B0:Int)≤244 then ck (inR ((i:Int)+1)) <| (some (decide (1 < n∧lo≤(B1:Int)∧(B1:Int)≤hi))).bind λ r50=>if r50=true then ck (inR ((i:Int)+2)) <| (some (decide (2 < n∧(128:Int)≤(B2:Int)∧(B2:Int)≤191))).bind λ r54=>if r54=true then ck (inR ((i:Int)+3)) <| (some (decide (3 < n∧(128:Int)≤(B3:Int)∧(B3:Int)≤191))).bind λ r58=>some r58 else some false else some false else some false else some false):Option Bool)
   = some (decide (240≤B0∧B0≤244∧(1 < n∧lo≤(B1:Int)∧(B1:Int)≤hi)∧(2 < n∧128≤B2∧B2≤191)∧3 < n∧128≤B3∧B3≤191)):=by
  intro lo hi
  by_cases q1:240≤B0
  ·rw [if_pos O]
   by_cases q2:B0≤244
   ·rw [if_pos O,b8 i1,Option.bind_some]
    by_cases q3:1 < n∧lo≤(B1:Int)∧(B1:Int)≤hi
    ·rw [if_pos (by simp only [decide_eq_true_eq]; exact q3),b8 i2,Option.bind_some]
     by_cases q4:2 < n∧128≤B2∧B2≤191
     ·rw [if_pos (by simp only [decide_eq_true_eq]; omega),b8 i3,Option.bind_some]
      refine congrArg some (eqB ?_)
      rw [decide_eq_true_eq,decide_eq_true_eq]
      constructor
      ·intro q; exact ⟨q1,q2,q3,q4,by omega⟩
      ·intro q; have:=q.2.2.2.2; omega
     ·rw [if_neg (by simp only [decide_eq_true_eq]; omega)]
      symm; rw [Option.some.injEq,decide_eq_false_iff_not]
      intro q; exact q4 q.2.2.2.1
    ·rw [if_neg (by simp only [decide_eq_true_eq]; exact q3)]
     symm; rw [Option.some.injEq,decide_eq_false_iff_not]
     intro q; exact q3 q.2.2.1
   ·rw [if_neg O]
    symm; rw [Option.some.injEq,decide_eq_false_iff_not]
    intro q; exact q2 q.2.1
  ·rw [if_neg O]
   symm; rw [Option.some.injEq,decide_eq_false_iff_not]
   intro q; exact q1 q.1
 rw [e60,Option.bind_some]
 by_cases h60:240≤B0∧B0≤244∧(1 < n∧(if B0=240 then 144 else 128)≤(B1:Int)∧(B1:Int)≤(if B0=244 then 143 else 191))∧(2 < n∧128≤B2∧B2≤191)∧3 < n∧128≤B3∧B3≤191
 ·rw [if_pos (by simp only [decide_eq_true_eq]; exact h60)]
  obtain ⟨k1,k2,⟨k3,k4,k5⟩,⟨k6,k7,k8⟩,k9,k10,k11⟩:=h60
  have k4':128≤B1∧(B0=240→144≤B1):=by split at k4 <;> omega
  have k5':B1≤191∧(B0=244→B1≤143):=by split at k5 <;> omega
  clear k4 k5
  repeat rw [b8 (by first | exact i1 | exact i2 | exact i3 | omega | exact aG O O)]
  rw [if_neg (show ¬ (B0 / 32=6∧1 < n∧B1 / 64=2) by omega),if_neg (show ¬ (B0 / 16=14∧(1 < n∧B1 / 64=2)∧2 < n∧B2 / 64=2) by omega),if_pos (show B0 / 8=30∧(1 < n∧B1 / 64=2)∧(2 < n∧B2 / 64=2)∧3 < n∧B3 / 64=2 by omega)]
  generalize hv:B0 % 8*262144+B1 % 64*4096+B2 % 64*64+B3 % 64=v
  rw [if_pos (show v ≥ 65536∧(v < 55296∨57344≤v∧v≤1114111) by omega)]
  show some _=some (if v=65533∧(4:Nat)=1 then _ else _)
  rw [if_neg O]; rfl
 rw [if_neg (by simp only [decide_eq_true_eq]; exact h60)]
 have h60':¬ (240≤B0∧B0≤244∧1 < n∧(B0=240→144≤B1)∧128≤B1∧B1≤191∧(B0=244→B1≤143)∧2 < n∧128≤B2∧B2≤191∧3 < n∧128≤B3∧B3≤191):=by
  rintro ⟨k1,k2,k3,k4,k5,k6,k7,k8,k9,k10,k11⟩
  exact h60 ⟨k1,k2,⟨k3,by split <;> omega,by split <;> omega⟩,⟨k8,k9,k10⟩,k11⟩
 clear h60 e60
 symm
 refine congrArg some (if_pos ?_)
 repeat' split
 all_goals first | exact ⟨Z,Z⟩ | (exfalso; omega)
theorem yD (s:Bytes)(hs:s.length≤1000000000):∀ (k i:Nat),s.length - i < k→i≤s.length→Ev2 (λ _ m=>iH s m (i:Int)) (·=if validD (s.drop i)=true then .inl () else .inr false):=by
 intro k
 induction k with
 | zero=>intro i h; omega
 | succ k ih =>
  intro i hk hi
  refine aV ?_
  simp only [iH]
  by_cases h:i < s.length
  ·have hne:s.drop i≠[]:=by intro q; have:=congrArg List.length q; rw [List.length_drop] at this; simp at this; omega
   refine aj O (ao _ (au (wv s i h hs) Z) ?_)
   have hv:=wu _ hne
   have hdf:=jb _ hne
   rw [List.length_drop] at hdf
   unfold Ea
   by_cases q:(decodeL (s.drop i)).1=65533∧(decodeL (s.drop i)).2=1
   ·rw [if_pos q]
    refine aj Z (ab ?_)
    rw [if_neg (λ z=>((hv.1 z).1 q))]
   ·rw [if_neg q]
    refine ai (by simp only; omega) (ar (aG (by simp only; omega) (by simp only; omega)) ?_)
    have:=ih (i+(decodeL (s.drop i)).2) O O
    rw [Int.natCast_add] at this
    refine cA this λ r hr=>?_
    rw [hr,← List.drop_drop]
    by_cases z:validD ((s.drop i).drop (decodeL (s.drop i)).2)=true
    ·rw [if_pos z,if_pos (hv.2 ⟨q,z⟩)]
    ·rw [if_neg z,if_neg (λ y=>z (hv.1 y).2)]
  ·refine ai O (ab ?_)
   rw [List.drop_of_length_le O,if_pos validD_nil]
theorem zm (s:Bytes)(hs:s.length≤1000000000):Ev2 (λ n _=>nj n s) (·=(decide (s.length≤4096)&&validD s)):=by
 simp only [nj]
 refine aP (λ h=>ab ?_) (λ h=>?_)
 ·have:¬ s.length≤4096:=by omega
  simp [this]
 ·have h':s.length≤4096:=by omega
  have l:=yD s hs (s.length+1) 0 O O
  rw [List.drop_zero] at l
  cases hv:validD s with
  | true=>rw [hv] at l; exact fE () (bS l) (ab (by simp [h']))
  | false=>rw [hv] at l; exact jJ false (bS l) G
theorem drop_at (s:Bytes){i:Nat}(h:i < s.length):s.drop i=s.getD i 0::s.drop (i+1):=by
 rw [List.getD_eq_getElem?_getD,List.getElem?_eq_getElem h,Option.getD_some]
 exact List.drop_eq_getElem_cons h
theorem DT (b:UInt8)(r:Bytes)(h:128≤b.toNat):128≤(decodeL (b::r)).1:=by
 have hN:=decN (b::r).length ((b::r).getD 0 0).toNat ((b::r).getD 1 0).toNat ((b::r).getD 2 0).toNat ((b::r).getD 3 0).toNat G (UInt8.toNat_lt _)
 rw [← decodeL_N] at hN
 rcases Nat.lt_or_ge (decodeL (b::r)).1 128 with q | q
 ·have:=(hN.2.2.2.1 q).2
  have hb0:((b::r).getD 0 0).toNat=b.toNat:=rfl
  omega
 ·exact q
end Go.Ab.R06
end
section
namespace Go.Ab
set_option autoImplicit false
inductive ah.Bd:ah→Prop where
 | mk {x:ah} (bKind:inR x.fKind) (bNum:inR x.fNum) (bStr:x.fStr.length≤gP) (bItems:x.fItems.length*80≤gP) (eItems:∀ y∈x.fItems,ah.Bd y) (bKeys:x.fKeys.length*16≤gP) (eKeys:∀ y∈x.fKeys,y.length≤gP):ah.Bd x
theorem ah.Bd.bKind {x:ah}(h:ah.Bd x):inR x.fKind:=by cases h; assumption
theorem ah.Bd.bNum {x:ah}(h:ah.Bd x):inR x.fNum:=by cases h; assumption
theorem ah.Bd.bStr {x:ah}(h:ah.Bd x):x.fStr.length≤gP:=by cases h; assumption
theorem ah.Bd.bItems {x:ah}(h:ah.Bd x):x.fItems.length*80≤gP:=by cases h; assumption
theorem ah.Bd.eItems {x:ah}(h:ah.Bd x):∀ y∈x.fItems,ah.Bd y:=by cases h; assumption
theorem ah.Bd.bKeys {x:ah}(h:ah.Bd x):x.fKeys.length*16≤gP:=by cases h; assumption
theorem ah.Bd.eKeys {x:ah}(h:ah.Bd x):∀ y∈x.fKeys,y.length≤gP:=by cases h; assumption
inductive ac.Bd:ac→Prop where
 | mk {x:ac} (bKind:inR x.fKind) (bOp:inR x.fOp) (bName:x.fName.length≤gP) (bKey:x.fKey.length≤gP) (bValue:ah.Bd x.fValue) (bKids:x.fKids.length*160≤gP) (eKids:∀ y∈x.fKids,ac.Bd y) (bAt:inR x.fAt):ac.Bd x
theorem ac.Bd.bKind {x:ac}(h:ac.Bd x):inR x.fKind:=by cases h; assumption
theorem ac.Bd.bOp {x:ac}(h:ac.Bd x):inR x.fOp:=by cases h; assumption
theorem ac.Bd.bName {x:ac}(h:ac.Bd x):x.fName.length≤gP:=by cases h; assumption
theorem ac.Bd.bKey {x:ac}(h:ac.Bd x):x.fKey.length≤gP:=by cases h; assumption
theorem ac.Bd.bValue {x:ac}(h:ac.Bd x):ah.Bd x.fValue:=by cases h; assumption
theorem ac.Bd.bKids {x:ac}(h:ac.Bd x):x.fKids.length*160≤gP:=by cases h; assumption
theorem ac.Bd.eKids {x:ac}(h:ac.Bd x):∀ y∈x.fKids,ac.Bd y:=by cases h; assumption
theorem ac.Bd.bAt {x:ac}(h:ac.Bd x):inR x.fAt:=by cases h; assumption
inductive ap.Bd:ap→Prop where
 | mk {x:ap} (bKind:inR x.fKind) (bAt:inR x.fAt) (bName:x.fName.length≤gP):ap.Bd x
theorem ap.Bd.bKind {x:ap}(h:ap.Bd x):inR x.fKind:=by cases h; assumption
theorem ap.Bd.bAt {x:ap}(h:ap.Bd x):inR x.fAt:=by cases h; assumption
theorem ap.Bd.bName {x:ap}(h:ap.Bd x):x.fName.length≤gP:=by cases h; assumption
inductive bJ.Bd:bJ→Prop where
 | mk {x:bJ} (bcount:inR x.fcount):bJ.Bd x
theorem bJ.Bd.bcount {x:bJ}(h:bJ.Bd x):inR x.fcount:=by cases h; assumption
inductive ae.Bd:ae→Prop where
 | mk {x:ae} (bKind:inR x.fKind) (bText:x.fText.length≤gP) (bAt:inR x.fAt):ae.Bd x
theorem ae.Bd.bKind {x:ae}(h:ae.Bd x):inR x.fKind:=by cases h; assumption
theorem ae.Bd.bText {x:ae}(h:ae.Bd x):x.fText.length≤gP:=by cases h; assumption
theorem ae.Bd.bAt {x:ae}(h:ae.Bd x):inR x.fAt:=by cases h; assumption
inductive cI.Bd:cI→Prop where
 | mk {x:cI} (bL:x.fL.length*32≤gP) (eL:∀ y∈x.fL,ae.Bd y) (bI:inR x.fI) (bIn:inR x.fIn) (bD:ap.Bd x.fD):cI.Bd x
theorem cI.Bd.bL {x:cI}(h:cI.Bd x):x.fL.length*32≤gP:=by cases h; assumption
theorem cI.Bd.eL {x:cI}(h:cI.Bd x):∀ y∈x.fL,ae.Bd y:=by cases h; assumption
theorem cI.Bd.bI {x:cI}(h:cI.Bd x):inR x.fI:=by cases h; assumption
theorem cI.Bd.bIn {x:cI}(h:cI.Bd x):inR x.fIn:=by cases h; assumption
theorem cI.Bd.bD {x:cI}(h:cI.Bd x):ap.Bd x.fD:=by cases h; assumption
inductive ak.Bd:ak→Prop where
 | mk {x:ak} (bs:x.fs.length≤gP) (bat:inR x.fat) (bi:inR x.fi) (bfrom:inR x.ffrom) (btext:x.ftext.length≤gP) (bparts:x.fparts.length*160≤gP) (eparts:∀ y∈x.fparts,ac.Bd y):ak.Bd x
theorem ak.Bd.bs {x:ak}(h:ak.Bd x):x.fs.length≤gP:=by cases h; assumption
theorem ak.Bd.bat {x:ak}(h:ak.Bd x):inR x.fat:=by cases h; assumption
theorem ak.Bd.bi {x:ak}(h:ak.Bd x):inR x.fi:=by cases h; assumption
theorem ak.Bd.bfrom {x:ak}(h:ak.Bd x):inR x.ffrom:=by cases h; assumption
theorem ak.Bd.btext {x:ak}(h:ak.Bd x):x.ftext.length≤gP:=by cases h; assumption
theorem ak.Bd.bparts {x:ak}(h:ak.Bd x):x.fparts.length*160≤gP:=by cases h; assumption
theorem ak.Bd.eparts {x:ak}(h:ak.Bd x):∀ y∈x.fparts,ac.Bd y:=by cases h; assumption
inductive ad.Bd:ad→Prop where
 | mk {x:ad} (bl:x.fl.length*32≤gP) (el:∀ y∈x.fl,ae.Bd y) (bat:inR x.fat) (bnest:inR x.fnest) (bbase:inR x.fbase) (bbad:ap.Bd x.fbad):ad.Bd x
theorem ad.Bd.bl {x:ad}(h:ad.Bd x):x.fl.length*32≤gP:=by cases h; assumption
theorem ad.Bd.el {x:ad}(h:ad.Bd x):∀ y∈x.fl,ae.Bd y:=by cases h; assumption
theorem ad.Bd.bat {x:ad}(h:ad.Bd x):inR x.fat:=by cases h; assumption
theorem ad.Bd.bnest {x:ad}(h:ad.Bd x):inR x.fnest:=by cases h; assumption
theorem ad.Bd.bbase {x:ad}(h:ad.Bd x):inR x.fbase:=by cases h; assumption
theorem ad.Bd.bbad {x:ad}(h:ad.Bd x):ap.Bd x.fbad:=by cases h; assumption
end Go.Ab
end
section
namespace Go.Ab.R06
open Go.Ab Go.Ab.RB Go.Lib
theorem vm {P:Int→Prop}{i:Nat}(h:P ((i+1:Nat):Int)):P ((i:Int)+1):=by rwa [Int.natCast_add,Int.natCast_one] at h
theorem zJ {α:Type} [Inhabited α] (l:List α){i:Nat}(h:i < l.length):l.drop i=lat l (i:Int)::l.drop (i+1):=by
 rw [nr l i h]; exact List.drop_eq_getElem_cons h
def o5 (v:ah):Prop:=v.fKind=1∧v.fNum≠0∧v.fNum≠1∨v.fKind≠1∧v.fKind≠2∧v.fNum≠0∨v.fKind≠3∧v.fStr≠[]∨v.fItems≠[]∨v.fKeys≠[]
theorem xX {α:Type}(l:List α):(0 < (l.length:Int))↔l≠[]:=by rw [← List.length_pos_iff]; omega
theorem vc {α:Type}(l:List α):((l.length:Int)=0)↔l=[]:=by rw [← List.length_eq_zero_iff]; omega
theorem yN (v:ah)(h0:0≤v.fKind)(h3:v.fKind≤3):∃ b,iG v=some b∧(b=true↔¬ o5 v):=by
 unfold iG o5
 have hk:v.fKind=0∨v.fKind=1∨v.fKind=2∨v.fKind=3:=by omega
 clear h0 h3
 rcases hk with h | h | h | h <;> by_cases a:v.fNum=0 <;> by_cases b:v.fNum=1 <;> by_cases c:v.fStr=[] <;> by_cases d:v.fItems=[] <;> by_cases e:v.fKeys=[] <;> simp [h,a,b,c,d,e,xX,vc,AR,zU]
theorem yI (v:ah)(h0:0≤v.fKind)(h3:v.fKind≤3):∃ b,mc v=some b∧(b=true↔¬ o5 v):=by
 unfold mc o5
 have hk:v.fKind=0∨v.fKind=1∨v.fKind=2∨v.fKind=3:=by omega
 clear h0 h3
 rcases hk with h | h | h | h <;> by_cases a:v.fNum=0 <;> by_cases b:v.fNum=1 <;> by_cases c:v.fStr=[] <;> by_cases d:v.fItems=[] <;> by_cases e:v.fKeys=[] <;> simp [h,a,b,c,d,e,xX,vc,AR,zU]
theorem sC {v:ah}(h:o5 v):vM v=1:=if_pos h
theorem tQ {v:ah}(h:¬ o5 v):vM v=if v.fKind=2∧¬ (-jE≤v.fNum∧v.fNum≤jE) then 5 else if v.fKind=3∧4096 < v.fStr.length then 3 else if v.fKind=3∧validD v.fStr=false then 1 else 0:=if_neg h
def uh (s:Bytes):Int:=if 4096 < s.length then 3 else if validD s=false then 1 else 0
theorem Eb (s:Bytes):jh s=some (uh s):=by
 unfold jh uh
 by_cases h:4096 < s.length
 ·rw [if_pos O,if_pos h]
 ·rw [if_neg O,if_neg h,Dn,Option.bind_some]
  have:decide (s.length≤4096)=true:=by rw [decide_eq_true_eq]; omega
  rw [this,Bool.true_and]
  cases validD s <;> rfl
theorem EA (s:Bytes):Ev2 (λ n _=>j7 n s) (·=uh s):=by
 simp only [j7]
 unfold uh
 refine aP (λ h=>ab (by rw [if_pos O])) (λ h=>?_)
 rw [if_neg (show ¬ 4096 < s.length by omega)]
 refine ao _ (zm s O) ?_
 have:decide (s.length≤4096)=true:=by rw [decide_eq_true_eq]; omega
 rw [this,Bool.true_and]
 cases validD s with
 | true=>exact ai (by decide) (ab Z)
 | false=>exact aj (by decide) (ab Z)
theorem yi:uh []=0:=by unfold uh; rw [if_neg (by decide)]; rfl
theorem CZ (v:ah)(h0:0≤v.fKind)(h3:v.fKind≤3):Ev2 (λ n _=>gK n v) (·=vM v):=by
 obtain ⟨b,hb,hi⟩:=yN v h0 h3
 simp only [gK]
 refine ao _ (au hb Z) (aP (λ h=>ab ?_) (λ h=>?_))
 ·have:o5 v:=Classical.byContradiction λ k=>by rw [hi.2 k] at h; simp at h
  rw [sC this]
 ·have hg:¬ o5 v:=hi.1 (by simpa using h)
  rw [tQ hg]
  by_cases h2:v.fKind=2
  ·simp only [h2,if_true,true_and]
   by_cases hv:-jE≤v.fNum∧v.fNum≤jE
   ·refine fE () (ao _ (au (uG _) Z) (ai (by simp [hv]) (ab Z))) (ab ?_)
    rw [if_neg (by simpa using hv),if_neg O,if_neg O]
   ·refine jJ 5 (ao _ (au (uG _) Z) (aj (by simp [hv]) (ab Z))) ?_
    rw [if_pos hv]
  ·by_cases h5:v.fKind=3
   ·refine jJ (uh v.fStr) (ai h2 (aj h5 (ao _ (au (Eb _) Z) (ab Z)))) ?_
    rw [if_neg O]; unfold uh; simp only [h5,true_and]
   ·refine fE () (ai h2 (ai h5 (ai O (ab Z)))) (ab ?_)
    rw [if_neg O,if_neg O,if_neg O]
theorem Fh (v:ah)(h0:0≤v.fKind)(h3:v.fKind≤3):Ev2 (λ n _=>sb n v) (·=vM v):=by
 obtain ⟨b,hb,hi⟩:=yI v h0 h3
 simp only [sb]
 refine ao _ (au hb Z) (aP (λ h=>ab ?_) (λ h=>?_))
 ·have:o5 v:=Classical.byContradiction λ k=>by rw [hi.2 k] at h; simp at h
  rw [sC this]
 ·have hg:¬ o5 v:=hi.1 (by simpa using h)
  rw [tQ hg]
  have nv:qD v.fNum=some (decide (-jE≤v.fNum∧v.fNum≤jE)):=uG v.fNum
  have tail:v.fKeys=[]:=by unfold o5 at hg; simp only [not_or] at hg; exact Classical.not_not.1 hg.2.2.2.2
  have str:v.fKind≠3→v.fStr=[]:=λ k=>by unfold o5 at hg; simp only [not_or] at hg; exact Classical.byContradiction λ q=>hg.2.2.1 ⟨k,q⟩
  have last:Ev2 (λ n _=>(j7 n v.fStr).bind λ r9=>if r9=0 then jn (ib n v n 0) λ _=>some 0 else some r9) (·=uh v.fStr):=by
   refine ao _ (EA _) (aP (λ h=>?_) (λ h=>ab Z))
   refine fE () (bS (f:=λ n m=>ib n v m 0) (aV ?_)) (ab h.symm)
   simp only [ib]
   exact ai (by rw [tail]; decide) (ab Z)
  by_cases h2:v.fKind=2
  ·simp only [h2,if_true,true_and]
   refine ao (!decide (-jE≤v.fNum∧v.fNum≤jE)) (ao _ (au nv Z) (ab Z)) (aP (λ h=>ab ?_) (λ h=>?_))
   ·rw [if_pos (λ k=>by rw [decide_eq_true k] at h; exact absurd h (by decide))]
   ·rw [if_neg (show ¬ ¬ (-jE≤v.fNum∧v.fNum≤jE) from λ k=>h (by rw [decide_eq_false k]; rfl)),if_neg O,if_neg O]
    rw [str O,yi] at last
    rw [str O]
    exact last
  ·refine ao false (ai h2 (ab Z)) (ai (by decide) ?_)
   rw [if_neg O]
   by_cases h5:v.fKind=3
   ·simp only [h5,true_and]; exact last
   ·rw [if_neg O,if_neg O]
    rw [str h5,yi] at last
    rw [str h5]
    exact last
theorem wH {v:ah}(h:vM v=0):v.fItems=[]:=by
 have hg:¬ o5 v:=λ k=>by rw [sC k] at h; cases h
 unfold o5 at hg; simp only [not_or] at hg; exact Classical.not_not.1 hg.2.2.2.1
theorem AG (v:ah)(h0:0≤v.fKind)(h3:v.fKind≤3):Ev2 (λ n _=>gh n v) (·=vM v):=by
 simp only [gh]
 refine af (λ r=>r.1=vM v) (cj ?_) (λ r hr=>ab hr)
 simp only [cS]
 refine ai (by decide) (ai (by decide) (ar (by decide) (ao _ (CZ v h0 h3) (aP (λ h=>?_) (λ h=>ab Z)))))
 refine fE 1 (bS (f:=λ n m=>cV (cS n) v 1 m 0 (0+1)) (aV ?_)) (ab h.symm)
 simp only [cV]
 exact ai (by rw [wH h]; decide) (ab Z)
theorem BG (k:Int):io k=some (decide (k=3∨k=4∨k=9∨k=12∨k=13)):=by
 unfold io jf
 by_cases a:k=3
 ·simp [a]
 by_cases b:k=4
 ·simp [b]
 by_cases c:k=9
 ·simp [c]
 by_cases d:k=12
 ·simp [d]
 simp [a,b,c,d]
theorem xS (k:Int):jD k=some (decide (k=3∨k=4∨k=9∨k=12∨k=13)):=by
 unfold jD ir
 by_cases a:k=3
 ·simp [a]
 by_cases b:k=4
 ·simp [b]
 by_cases c:k=9
 ·simp [c]
 by_cases d:k=12
 ·simp [d]
 simp [a,b,c,d]
section
variable {α β:Type}
theorem wo {p:Prop} [Decidable p] {a b:Option α}(h1:p→∃ r,a=some r)(h2:¬p→∃ r,b=some r):∃ r,(if p then a else b)=some r:=by
 by_cases h:p
 ·simpa only [if_pos h] using h1 h
 ·simpa only [if_neg h] using h2 h
theorem ul {g:Option β}{k:β→Option α}(h:∃ r,g=some r)(hk:∀ x,∃ r,k x=some r):∃ r,g.bind k=some r:=by
 obtain ⟨x,rfl⟩:=h
 exact hk x
theorem Be {p:Prop} [Decidable p] {a:Option α}(hp:p)(h:∃ r,a=some r):∃ r,ck p a=some r:=by rw [b8 hp]; exact h
end
theorem Af (k:Int):∃ r,ir k=some r:=by unfold ir; repeat' (first | exact ⟨_,rfl⟩ | refine ul ?_ (λ _=>?_) | refine wo (λ _=>?_) (λ _=>?_) | refine Be (by decide) ?_)
theorem DY (k n:Int):∃ r,ip k n=some r:=by unfold ip; repeat' (first | exact ⟨_,rfl⟩ | exact Af _ | exact ⟨_,xS _⟩ | refine ul ?_ (λ _=>?_) | refine wo (λ _=>?_) (λ _=>?_) | refine Be (by decide) ?_)
theorem wO (e:ac):∃ r,gT e=some r:=by unfold gT; repeat' (first | exact ⟨_,rfl⟩ | exact Af _ | exact ⟨_,xS _⟩ | exact DY _ _ | exact C5 _ | refine ul ?_ (λ _=>?_) | refine wo (λ _=>?_) (λ _=>?_) | refine Be (by decide) ?_)
inductive VSz:ah→Prop where
 | mk {x:ah} (v:x.fItems.length+x.fKeys.length≤1000000000000000) (sub:∀ y∈x.fItems,VSz y):VSz x
theorem VSz.v {x:ah}(h:VSz x):x.fItems.length+x.fKeys.length≤1000000000000000:=by cases h; assumption
theorem yE {k n:Int}{s:Bytes}:VSz (.mk k n s [] []):=.mk (Nat.zero_le _) (λ _ h=>by cases h)
inductive Sz:ac→Prop where
 | mk {x:ac} (n:x.fName.length≤1000000000000000) (k:x.fKey.length≤1000000000000000) (w:VSz x.fValue) (c:x.fKids.length≤1000000000000000) (kids:∀ y∈x.fKids,Sz y):Sz x
theorem Sz.n {x:ac}(h:Sz x):x.fName.length≤1000000000000000:=by cases h; assumption
theorem Sz.k {x:ac}(h:Sz x):x.fKey.length≤1000000000000000:=by cases h; assumption
theorem Sz.w {x:ac}(h:Sz x):VSz x.fValue:=by cases h; assumption
theorem Sz.v {x:ac}(h:Sz x):x.fValue.fItems.length+x.fValue.fKeys.length≤1000000000000000:=h.w.v
theorem Sz.kids {x:ac}(h:Sz x):∀ y∈x.fKids,Sz y:=by cases h; assumption
theorem vJ {e:ac}(hb:Sz e):gT e=some (td e):=by
 have h:=tI e hb.v
 obtain ⟨r,hr⟩:=wO e
 unfold td
 rw [h,hr]; rfl
theorem zt {e:ac}(hb:Sz e):gf e=some (td e):=by
 rw [tI e hb.v,vJ hb]
theorem vg {e:ac}(hb:Sz e)(h:td e=true)(hk:e.fKind=1):0≤e.fValue.fKind∧e.fValue.fKind≤3:=by
 have h1:=vJ hb
 rw [h] at h1
 unfold gT at h1
 generalize (Option.bind (ip e.fKind (e.fKids.length:Int)) _:Option Bool)=o at h1
 cases o with
 | none=>cases h1
 | some t =>
  cases t with
  | true=>cases h1
  | false =>
   simp only [Option.bind_some,Bool.false_eq_true,if_false,hk,if_true] at h1
   by_cases a:e.fOp=0
   ·by_cases b:e.fValue.fKind=0
    ·omega
    ·by_cases c:e.fValue.fKind=1
     ·omega
     ·by_cases d:e.fValue.fKind=3
      ·omega
      ·by_cases f:e.fValue.fKind=2
       ·omega
       ·simp [a,b,c,d,f] at h1
   ·simp [a] at h1
theorem Dq {e:ac}(hb:Sz e):Ev2 (λ n _=>iv n e) (·=pg e):=by
 have b1:=hb.n
 have b2:=hb.k
 simp only [iv]
 unfold pg
 refine ao _ (au (zt hb) Z) (aP (λ h=>ab (by rw [if_pos (by simpa using h)])) (λ h=>?_))
 have h:td e=true:=by simpa using h
 rw [if_neg (show ¬ td e=false by rw [h]; decide)]
 refine aP (λ hk=>?_) (λ hk=>?_)
 ·rw [if_pos hk]
  exact ao _ (AG _ (vg hb h hk).1 (vg hb h hk).2) (ab Z)
 rw [if_neg hk]
 refine ao (decide ((e.fKind=3∨e.fKind=4∨e.fKind=9∨e.fKind=12∨e.fKind=13)∧(hQ e.fName=false∨e.fKind≠4∧pw e.fName=true))) ?_ ?_
 ·refine ao _ (au (BG _) Z) (aP (λ hn=>?_) (λ hn=>ab ?_))
  ·have hn:=of_decide_eq_true hn
   rw [show decide ((e.fKind=3∨e.fKind=4∨e.fKind=9∨e.fKind=12∨e.fKind=13)∧(hQ e.fName=false∨e.fKind≠4∧pw e.fName=true))=decide (hQ e.fName=false∨e.fKind≠4∧pw e.fName=true) by simp only [hn,true_and]]
   refine ao _ (vz _ O) (aP (λ hi=>ab ?_) (λ hi=>aP (λ h4=>ab ?_) (λ h4=>ao _ (au (ss _) Z) (ab ?_))))
   ·have hi:hQ e.fName=false:=by simpa using hi
    simp [hi]
   ·have hi:hQ e.fName=true:=by simpa using hi
    simp [hi,h4]
   ·have hi:hQ e.fName=true:=by simpa using hi
    simp [hi,h4]
  ·have hn:¬ (e.fKind=3∨e.fKind=4∨e.fKind=9∨e.fKind=12∨e.fKind=13):=λ k=>hn (decide_eq_true k)
   simp only [hn,false_and,decide_false]
 ·refine aP (λ hq=>ab (by rw [if_pos (of_decide_eq_true hq)])) (λ hq=>?_)
  rw [if_neg (λ k=>hq (decide_eq_true k))]
  refine ao (decide (e.fKey≠[]∧(hQ e.fKey=false∨pw e.fKey=true))) ?_ ?_
  ·refine aP (λ hk=>ab (by simp [hk])) (λ hk=>?_)
   refine ao _ (vz _ O) (aP (λ hi=>ab ?_) (λ hi=>ao _ (au (ss _) Z) (ab ?_)))
   ·have hi:hQ e.fKey=false:=by simpa using hi
    simp [hi,hk]
   ·have hi:hQ e.fKey=true:=by simpa using hi
    simp [hi,hk]
  ·refine aP (λ hq=>ab (by rw [if_pos (of_decide_eq_true hq)])) (λ hq=>ab ?_)
   rw [if_neg (λ k=>hq (decide_eq_true k))]
theorem E4 {e:ac}(hb:Sz e):∀ (c lv:Nat) (ci li:Int),ci=c→li=lv→c≤4096→lv≤33 →
  Ev2 (λ n _=>bg n (bJ.mk ci) e li) (λ r=>r.1=(nN c lv e).1∧r.2=bJ.mk (((nN c lv e).2:Nat):Int)∧(nN c lv e).2≤4096):=by
 induction hb with
 | @mk x sn sk sv hs skids ih =>
  intro c lv ci li hc hl h1 h2
  have hb:Sz x:=.mk sn sk sv hs skids
  refine cj ?_
  simp only [bg]
  rw [uO]
  refine aP (λ h=>?_) (λ h=>?_)
  ·rw [if_pos O]; exact ab ⟨rfl,by rw [hc],h1⟩
  rw [if_neg (show ¬ 32 < lv by omega)]
  refine aP (λ h5=>?_) (λ h5=>?_)
  ·rw [if_pos O]; exact ab ⟨rfl,by rw [hc],h1⟩
  rw [if_neg (show ¬ 4096≤c by omega)]
  refine ar (aG O O) ?_
  refine ao _ (Dq hb) ?_
  refine aP (λ h0=>?_) (λ h0=>?_)
  ·rw [if_pos h0]
   have loop:∀ (k i c:Nat) (ci:Int),i+k=x.fKids.length→ci=c→c≤4096→Ev2 (λ n m=>bo (bg n) x li m (i:Int) ci) (λ s=>(nT c (lv+1) (x.fKids.drop i)).2≤4096∧s=if (nT c (lv+1) (x.fKids.drop i)).1=0 then .inl (((nT c (lv+1) (x.fKids.drop i)).2:Nat):Int) else .inr ((nT c (lv+1) (x.fKids.drop i)).1,bJ.mk (((nT c (lv+1) (x.fKids.drop i)).2:Nat):Int))):=by
    intro k
    induction k with
    | zero =>
     intro i c ci hi hc h6
     refine aV ?_
     simp only [bo]
     rw [List.drop_eq_nil_of_le O]
     exact ai O (ab ⟨by rw [nT]; exact h6,by rw [nT,hc]; rfl⟩)
    | succ k ihk =>
     intro i c ci hi hc h6
     refine aV ?_
     simp only [bo]
     rw [zJ _ (show i < x.fKids.length by omega),qn]
     refine aj O (ar O (ar (aG O O) ?_))
     refine af _ (ih _ (rp O) c (lv+1) ci (li+1) hc O h6 O) ?_
     rintro ⟨r1,r2⟩ ⟨q1,q2,q3⟩
     simp only at q1 q2
     subst q1 q2
     refine aP (λ h8=>?_) (λ h8=>?_)
     ·simp only [if_pos h8]
      refine ar (aG O O) ?_
      exact vm (P:=λ j=>Ev2 (λ n m=>bo (bg n) x li m j _) _) (ihk (i+1) _ _ O rfl q3)
     ·simp only [if_neg h8]; exact ab ⟨q3,rfl⟩
   refine eg (cA (bS (f:=λ n m=>bo (bg n) x li m 0 (ci+1)) (loop x.fKids.length 0 (c+1) (ci+1) O O O)) ?_)
   rintro s ⟨s1,s2⟩
   simp only [List.drop_zero] at s1 s2
   subst s2
   by_cases h9:(nT (c+1) (lv+1) x.fKids).1=0
   ·simp only [if_pos h9]; exact ab ⟨h9.symm,rfl,s1⟩
   ·rw [if_neg h9]; exact ⟨rfl,rfl,s1⟩
  ·rw [if_neg h0]; exact ab ⟨rfl,by rw [hc,Int.natCast_add,Int.natCast_one],by omega⟩
theorem xU {e:ac}(hb:Sz e):Ev2 (λ n _=>gk n e) (·=chk e):=by
 simp only [gk]
 exact af _ (E4 hb 0 1 0 1 Z Z (by decide) (by decide)) (λ r hr=>ab hr.1)
end Go.Ab.R06
end
section
namespace Go.Ab.R06
open Go.Ab Go.Ab.RB Go.Lib
theorem tlS (b:Bool)(l:List ae):tl b l <:+ l:=by
 unfold tl nf
 cases b
 ·exact List.tail_suffix _
 ·exact (List.tail_suffix _).trans (List.dropWhile_suffix _)
theorem t1 {b:Bool}{l m:List ae}(h:l <:+ m):tl b l <:+ m:=(tlS b l).trans h
def Gl (l:List ae):Prop:=Gd l∧l.length≤1000000000
def fH {α:Type}(P:α→Prop)(l0:List ae)(x:PR α):Prop:=∀ q,x=some q→match q with
 | .inl e=>e.1≠0
 | .inr (a,l')=>P a∧l' <:+ l0∧Gl l'
theorem ik {α:Type}{P:α→Prop}{l0:List ae}:fH P l0 none:=by intro q h; cases h
theorem dz {α:Type}{P:α→Prop}{l0 l':List ae}{a:α}(p:P a)(h:l' <:+ l0)(g:Gl l'):fH P l0 (pok a l'):=by intro q h'; cases h'; exact ⟨p,h,g⟩
theorem qL {α:Type}{P:α→Prop}{l0:List ae}{k a:Int}(h:k≠0):fH P l0 (per k a):=by intro q h'; cases h'; exact h
theorem cK {α:Type}{P:α→Prop}{p:Prop} [Decidable p] {l0:List ae}{x y:PR α}(h1:p→fH P l0 x)(h2:¬p→fH P l0 y):fH P l0 (if p then x else y):=by
 by_cases h:p
 ·rw [if_pos h]; exact h1 h
 ·rw [if_neg h]; exact h2 h
theorem bN {α β:Type}{x:PR α}{k:α→List ae→PR β}{q:PE⊕(β×List ae)}(h:pb x k=some q):(∃ e,x=some (.inl e)∧q=.inl e)∨(∃ a l,x=some (.inr (a,l))∧k a l=some q):=by
 cases x with
 | none=>cases h
 | some y =>
  rcases y with e | ⟨a,l⟩
  ·cases h; exact .inl ⟨e,rfl,rfl⟩
  ·exact .inr ⟨a,l,Z,h⟩
theorem dm {α β:Type}{P:α→Prop}{P':β→Prop}{l0 l1:List ae}{x:PR α}{k:α→List ae→PR β}(h:fH P l1 x)(hs:l1 <:+ l0)(hk:∀ a l',P a→l' <:+ l0→Gl l'→fH P' l0 (k a l')):fH P' l0 (pb x k):=by
 intro q hq
 rcases bN hq with ⟨e,hx,rfl⟩ | ⟨a,l,hx,hq⟩
 ·exact h _ hx
 ·exact hk a l (h _ hx).1 ((h _ hx).2.1.trans hs) (h _ hx).2.2 q hq
theorem rY {α:Type}{P:α→Prop}{l0 l1:List ae}{x:PR α}(h:fH P l1 x)(hs:l1 <:+ l0):fH P l0 x:=by
 intro q hq
 have:=h q hq
 rcases q with e | ⟨a,l'⟩
 ·exact this
 ·exact ⟨this.1,this.2.1.trans hs,this.2.2⟩
theorem glk {b:Bool}{l:List ae}{k:Int}(g:Gl l)(h:(hd b l).fKind=k)(hk:k≠6):Gl (tl b l):=⟨xO (mB g.1) O,Nat.le_trans (tlS b l).length_le g.2⟩
theorem glt {b:Bool}{l:List ae}{s:Bytes}(g:Gl l)(h:sgB b l s=true):Gl (tl b l):=glk g (po.1 h).1 (by decide)
theorem glw {b:Bool}{l:List ae}{s:Bytes}(g:Gl l)(h:wdB b l s=true):Gl (tl b l):=glk g (uv.1 h).1 (by decide)
theorem gln {b:Bool}{l:List ae}(g:Gl l):(hd b l).fText.length≤1000000000:=by
 have:=sG (mB (b:=b) g.1)
 have h1:=this.1
 have h2:=this.2.1
 omega
theorem gll {b:Bool}{l:List ae}(g:Gl l):(tl b l).length < l.length:=Ec (mB g.1)
abbrev Tr {α:Type}:α→Prop:=λ _=>True
abbrev Nm:Bytes→Prop:=λ s=>s.length≤1000000000
theorem cD {b:Bool}{s:Bytes}{l:List ae}(g:Gl l):fH Tr (tl b l) (fJ b s l):=cK (λ h=>dz trivial (List.suffix_refl _) (glt g h)) (λ _=>qL (by decide))
theorem wP {b:Bool}{s:Bytes}{l:List ae}(g:Gl l):fH Tr (tl b l) (uP b s l):=cK (λ h=>dz trivial (List.suffix_refl _) (glw g h)) (λ _=>qL (by decide))
theorem mK {b:Bool}{l:List ae}(g:Gl l):fH Nm (tl b l) (sS b l):=cK (λ h=>dz (gln g) (List.suffix_refl _) (glk g h.1 (by decide))) (λ _=>qL (by decide))
theorem xw:∀ (f c:Nat) (l:Bytes) (e:SE),gA f c l=.inl e→e.1≠0
 | 0,c,l,e,h=>by rw [gA] at h; cases h; decide
 | f+1,c,l,e,h=>by
  rw [iq] at h
  cases hsk:fm true l with
  | nil =>
   rw [hsk,lB] at h
   split at h
   ·cases h; decide
   ·cases h
  | cons b r =>
   rw [hsk,ka] at h
   split at h
   ·cases h; exact (show (2:Int)≠0 by decide)
   split at h
   ·cases h; exact (show (14:Int)≠0 by decide)
   cases ht:jv (fK f 0) (b::r) with
   | inl e' =>
    rw [ht] at h; cases h
    show e'.1≠0
    exact xt (λ x y hxy=>(zT f 0).1 x y hxy) ht
   | inr z =>
    obtain ⟨k,t,l'⟩:=z
    rw [ht,lq] at h
    cases hs:gA f (c+1) l' with
    | inl e'=>rw [hs] at h; cases h; exact xw f (c+1) l' _ hs
    | inr ts'=>rw [hs] at h; cases h
theorem Cd {src:Bytes→SE⊕Bytes}{l:Bytes}(hsrc:∀ r r',src r=.inr r'→r'.length < r.length){c:Int}{t l':Bytes}(h:jv src l=.inr (c,t,l')):c≠6∧t.length≤l.length∧(c=3→t.length+2≤l.length)∧(c=2→t.all gS=true):=by
 cases l with
 | nil=>cases h
 | cons b r =>
  rw [j1] at h
  split at h
  ·split at h
   ·cases h
   ·cases h
    exact ⟨by decide,(List.takeWhile_prefix _).length_le,(λ h=>absurd h (by decide)),(λ h=>absurd h (by decide))⟩
  split at h
  ·cases h
   exact ⟨by decide,(List.takeWhile_prefix _).length_le,(λ h=>absurd h (by decide)),λ _=>List.all_takeWhile⟩
  split at h
  ·cases h; exact ⟨by decide,by simp,(λ h=>absurd h (by decide)),(λ h=>absurd h (by decide))⟩
  split at h
  ·split at h
   ·cases h
   ·rename_i r' hr
    cases h
    have:=hsrc r _ hr
    simp only [List.length_take,List.length_cons]
    exact ⟨by decide,by omega,λ _=>by omega,(λ h=>absurd h (by decide))⟩
  split at h
  ·cases h
  ·rename_i hs
   cases h
   exact ⟨by decide,(rD hs).2,(λ h=>absurd h (by decide)),(λ h=>absurd h (by decide))⟩
theorem oT (c:Bool)(l:Bytes):(fm c l).length≤l.length:=by
 have h1:=(List.dropWhile_suffix (p:=ke) (l:=l)).length_le
 unfold fm
 split
 ·rename_i b r hb
  rw [hb] at h1
  split
  ·exact Nat.le_trans (List.dropWhile_suffix _).length_le h1
  ·exact h1
 ·exact Nat.zero_le _
theorem vy (s:Bytes)(a:Int)(h0:0≤a)(h1:a+(s.length:Int)≤1000000000):∀ (f c:Nat) (l:Bytes) (ts:List Tk),l.length≤s.length→gA f c l=.inr ts→Gd ((ts.map (tkS s)).map (mvT a))∧(∀ t∈ts.map (tkS s),t.fKind=3→t.fText.length+2≤l.length)∧ts.length≤l.length+1
 | 0,c,l,ts,_,h=>by rw [gA] at h; cases h
 | f+1,c,l,ts,hl,h=>by
  rw [iq] at h
  have hk:=oT true l
  cases hsk:fm true l with
  | nil =>
   rw [hsk,lB] at h
   split at h
   ·cases h
   ·cases h
    refine ⟨⟨⟨?_,?_,λ h=>absurd (show (6:Int)=3 from h) (by decide),λ h=>absurd (show (6:Int)=2 from h) (by decide)⟩,.inl ⟨Z,Z⟩⟩,?_,by simp⟩
    ·show 0≤(s.length:Int) - ((0:Nat):Int)+a; omega
    ·show (s.length:Int) - ((0:Nat):Int)+a+((0:Nat):Int)≤_; omega
    ·intro t ht hk; simp only [List.map_cons,List.map_nil,List.mem_singleton] at ht; subst ht; cases hk
  | cons b r =>
   rw [hsk] at hk
   rw [hsk,ka] at h
   split at h
   ·cases h
   split at h
   ·cases h
   cases ht:jv (fK f 0) (b::r) with
   | inl e=>rw [ht] at h; cases h
   | inr z =>
    obtain ⟨k,t,l'⟩:=z
    rw [ht,lq] at h
    obtain ⟨b1,b2,b3,b4⟩:=Cd (λ x y hxy=>((ii f 0).1 x y hxy).2) ht
    have b5:=(ki (λ x y _ hxy=>(ii f 0).1 x y hxy) ht).2
    cases hs:gA f (c+1) l' with
    | inl e=>rw [hs] at h; cases h
    | inr ts' =>
     rw [hs] at h; cases h
     obtain ⟨i1,i2,i3⟩:=vy s a h0 h1 f (c+1) l' ts' O hs
     have hn:(b::r).length≤s.length:=by omega
     refine ⟨⟨⟨?_,?_,?_,b4⟩,.inr ⟨b1,i1⟩⟩,?_,by simp only [List.length_cons] at i3 b5 hk ⊢; omega⟩
     ·show 0≤(s.length:Int) - ((b::r).length:Int)+a; omega
     ·show (s.length:Int) - ((b::r).length:Int)+a+(t.length:Int)≤_; omega
     ·intro hk3
      have:=b3 hk3
      show (s.length:Int) - ((b::r).length:Int)+a+1+(t.length:Int)≤_; omega
     ·intro y hy hy3
      rw [List.map_cons] at hy
      rcases List.mem_cons.1 hy with rfl | hy
      ·have:=b3 hy3
       show t.length+2≤_; omega
      ·have:=i2 y hy hy3
       omega
theorem ra {s:Bytes}{a:Int}(h0:0≤a)(h1:a+(s.length:Int)≤1000000000)(h:(eJ s).2.fKind=0):Gd ((eJ s).1.map (mvT a))∧(∀ t∈(eJ s).1,t.fKind=3→t.fText.length+2≤s.length)∧(eJ s).1.length≤65537:=by
 unfold eJ at h ⊢
 split
 ·rename_i hl; rw [if_pos hl] at h; cases h
 ·rename_i hl
  rw [if_neg hl] at h
  cases hs:gA (s.length+1) 0 s with
  | inl e =>
   rw [hs] at h
   exact absurd h (xw _ _ _ e hs)
  | inr ts =>
   obtain ⟨i1,i2,i3⟩:=vy s a h0 h1 _ _ s ts (Nat.le_refl _) hs
   refine ⟨i1,i2,?_⟩
   show ([]++ts.map (tkS s)).length≤_
   rw [List.nil_append,List.length_map]; omega
theorem rh {s:Bytes}{a:Int}(h0:0≤a)(h1:a+(s.length:Int)≤1000000000)(h:(eJ s).2.fKind=0):Gl ((eJ s).1.map (mvT a)) :=
 ⟨(ra h0 h1 h).1,by have:=(ra h0 h1 h).2.2; rw [List.length_map]; omega⟩
theorem iR:∀ (f:Nat),(∀ d l r,gb f d l=some (some r)→r <:+ l∧r.length < l.length)∧(∀ l r,iz f l=some (some r)→r <:+ l∧r.length < l.length)
 | 0=>⟨λ d l r h=>(by rw [gb] at h; cases h),λ l r h=>(by rw [iz] at h; cases h)⟩
 | f+1=>by
  obtain ⟨i1,i2⟩:=iR f
  constructor
  ·intro d l r h
   cases l with
   | nil=>rw [gb] at h; cases h
   | cons b l =>
    have up:∀ {x:Bytes},r <:+ x∧r.length < x.length→x <:+ l→r <:+ (b::l)∧r.length < (b::l).length:=λ hx hy=>⟨(hx.1.trans hy).trans (List.suffix_cons _ _),by have:=hy.length_le; rw [List.length_cons]; omega⟩
    rw [gb] at h
    split at h
    ·exact up (i1 _ _ _ h) (List.suffix_refl _)
    split at h
    ·split at h
     ·cases h; exact ⟨List.suffix_cons _ _,Nat.lt_succ_self _⟩
     ·exact up (i1 _ _ _ h) (List.suffix_refl _)
    split at h
    ·cases hq:iz f l with
     | none=>rw [hq] at h; cases h
     | some y =>
      rw [hq] at h
      cases y with
      | none=>cases h
      | some r'=>exact up (i1 _ _ _ h) (i2 _ _ hq).1
    ·exact up (i1 _ _ _ h) (List.suffix_refl _)
  ·intro l r h
   cases l with
   | nil=>rw [iz] at h; cases h
   | cons b l =>
    have up:∀ {x:Bytes},r <:+ x∧r.length < x.length→x <:+ l→r <:+ (b::l)∧r.length < (b::l).length:=λ hx hy=>⟨(hx.1.trans hy).trans (List.suffix_cons _ _),by have:=hy.length_le; rw [List.length_cons]; omega⟩
    rw [iz] at h
    split at h
    ·cases h; exact ⟨List.suffix_cons _ _,Nat.lt_succ_self _⟩
    split at h
    ·exact up (i2 _ _ h) (List.drop_suffix _ _)
    split at h
    ·exact up (i2 _ _ h) (List.drop_suffix 2 l)
    split at h
    ·cases hq:gb f 1 ((b::l).drop 2) with
     | none=>rw [hq] at h; cases h
     | some y =>
      rw [hq] at h
      cases y with
      | none=>cases h
      | some r'=>exact up (i2 _ _ h) ((i1 _ _ _ hq).1.trans (List.drop_suffix 1 l))
    ·exact up (i2 _ _ h) (List.suffix_refl _)
theorem pt {l t:Bytes}{n:Nat}(h:jR l=.inr (t,n)):1≤n∧n≤l.length:=by
 cases l with
 | nil=>cases h
 | cons b r =>
  rw [jR] at h
  split at h
  ·split at h
   ·rename_i hz
    cases h
    have:=(pn r).2.2.1 hz
    rw [List.length_cons]; omega
   ·cases h
  ·split at h
   ·cases h
   ·cases h
    have:=jb (b::r) G
    exact ⟨this.1,this.2.1⟩
def pD {α:Type}(P:α→Prop)(x:Option (PE⊕α)):Prop:=∀ q,x=some q→match q with
 | .inl e=>e.1≠0
 | .inr a=>P a
theorem oO {α:Type}{P:α→Prop}:pD P none:=by intro e h; cases h
theorem E3 {α:Type}{P:α→Prop}{a:α}(h:P a):pD P (some (.inr a)):=by intro e h'; cases h'; exact h
theorem vW {α:Type}{P:α→Prop}{k a:Int}(h:k≠0):pD P (some (.inl (k,a))):=by intro e h'; cases h'; exact h
theorem rx {α:Type}{P:α→Prop}{p:Prop} [Decidable p] {x y:Option (PE⊕α)}(h1:p→pD P x)(h2:¬p→pD P y):pD P (if p then x else y):=by
 by_cases h:p
 ·rw [if_pos h]; exact h1 h
 ·rw [if_neg h]; exact h2 h
theorem ot {k op:Int}{nm key:Bytes}{kids:List ac}{at':Int}(n:nm.length≤1000000000)(m:key.length≤1000000000)(c:kids.length≤4000000000)(h:∀ y∈kids,Sz y):Sz (ac.mk k op nm key v0 kids at') :=
 .mk (Nat.le_trans n (by decide)) (Nat.le_trans m (by decide)) yE (Nat.le_trans c (by decide)) h
theorem Ax (v:ah)(at':Int)(h:VSz v):Sz (vO v at'):=.mk (Nat.zero_le _) (Nat.zero_le _) h (Nat.zero_le _) (λ y hy=>by cases hy)
theorem DW (s:Bytes)(at':Int):Sz (yR s at'):=Ax _ _ yE
theorem m1 {a:ac}(h:Sz a):∀ y∈[a],Sz y:=λ y hy=>by rw [List.mem_singleton.1 hy]; exact h
theorem m2 {a b:ac}(h:Sz a)(g:Sz b):∀ y∈[a,b],Sz y:=λ y hy=>by
 rcases List.mem_cons.1 hy with rfl | hy
 ·exact h
 ·exact m1 g y hy
theorem m3 {a b c:ac}(h:Sz a)(g:Sz b)(k:Sz c):∀ y∈[a,b,c],Sz y:=λ y hy=>by
 rcases List.mem_cons.1 hy with rfl | hy
 ·exact h
 ·exact m2 g k y hy
def Kd (N:Nat)(ks:List ac):Prop:=(∀ y∈ks,Sz y)∧ks.length≤N
def Rd (n:Nat)(z:Int×Int×Bytes×List ac×Bool):Prop:=z.2.2.1.length≤4096∧(∀ y∈z.2.2.2.1,Sz y)∧z.2.2.2.1.length≤n
structure Fct (f:Nat):Prop where
 e:∀ b l,Gl l→fH Sz (tl b l) (fb f b l)
 b:∀ lev b l,Gl l→fH Sz (tl b l) (kW f lev b l)
 bl:∀ lev b x l,Sz x→Gl l→fH Sz l (lN f lev b x l)
 u:∀ b l,Gl l→fH Sz (tl b l) (unS f b l)
 pl:∀ b x l,Sz x→Gl l→fH Sz l (iA f b x l)
 p:∀ b l,Gl l→fH Sz (tl b l) (jB f b l)
 s:∀ b l,Gl l→(hd b l).fKind=3→fH Sz (tl b l) (mY f b l)
 n:∀ b l,Gl l→(hd b l).fKind=1→fH Sz (tl b l) (jN f b l)
 i:∀ e l,Gl l→fH (Kd l.length) (tl true l) (ga f e l)
 t:∀ l,Gl l→fH (Kd (2*l.length)) (tl true l) (lR f l)
 k:∀ l,Gl l→fH Sz (tl true l) (jO f l)
 lo:∀ a k l,Gl l→fH Sz l (iX f a k l)
 tm:∀ (s:Bytes) (a:Int),0≤a→a+(s.length:Int)≤1000000000→pD Sz (gX f s a)
 r:∀ (frm pos:Int) (text:Bytes) (parts:List ac) (opn:Bool) (s:Bytes) (n:Nat),0≤pos→pos+(s.length:Int)≤1000000000→text.length≤4096→(∀ y∈parts,Sz y)→parts.length+2*s.length≤n→pD (Rd n) (fq f frm pos text parts opn s)
 w:∀ (s:Bytes) (a:Int),0≤a→a+(s.length:Int)≤1000000000→pD Sz (dZ f s a)
theorem jY {l p:Bytes}(h:hasPrefix l p=true):p.length≤l.length:=by
 unfold hasPrefix at h
 exact (List.isPrefixOf_iff_prefix.1 h).length_le
theorem yo {s:Bytes}{k:Int}(h:jR s=.inl k):k≠0:=by
 cases s with
 | nil=>cases h; decide
 | cons b r =>
  rw [jR] at h
  split at h
  ·split at h
   ·cases h
   ·cases h; assumption
  ·split at h
   ·cases h; decide
   ·cases h
theorem zP {frm pos:Int}{text:Bytes}{parts:List ac}(h:∀ y∈parts,Sz y):(∀ y∈flS frm pos text parts,Sz y)∧(flS frm pos text parts).length≤parts.length+1:=by
 unfold flS
 split
 ·refine ⟨λ y hy=>?_,by simp⟩
  rcases List.mem_append.1 hy with hy | hy
  ·exact h y hy
  ·rw [List.mem_singleton.1 hy]; exact DW _ _
 ·exact ⟨h,by omega⟩
theorem vT {at':Int}{n:Nat}{z:Int×Int×Bytes×List ac×Bool}(hn:n≤3000000000)(h:Rd n z):Sz (oc at' z):=by
 obtain ⟨frm,pos,text,parts,opn⟩:=z
 obtain ⟨h1,h2,h3⟩:=h
 simp only at h1 h2 h3
 unfold oc
 have:=zP (frm:=frm) (pos:=pos) (text:=text) h2
 cases opn with
 | true=>exact ot (by decide) (by decide) O this.1
 | false=>exact DW _ _
theorem ER {e:ac}(h:Sz e)(at':Int):Sz (ac.mk e.fKind e.fOp e.fName e.fKey e.fValue e.fKids at'):=by
 cases h with
 | mk n k v c kids=>exact .mk n k v c kids
abbrev sfx (l:List ae):l <:+ l:=List.suffix_refl l
theorem fct:∀ f,Fct f:=by
 intro f
 induction f with
 | zero =>
  constructor
  ·intro b l _; rw [fb]; exact ik
  ·intro v b l _; rw [kW]; exact ik
  ·intro v b x l _ _; rw [lN]; exact ik
  ·intro b l _; rw [unS]; exact ik
  ·intro b x l _ _; rw [iA]; exact ik
  ·intro b l _; rw [jB]; exact ik
  ·intro b l _ _; rw [mY]; exact ik
  ·intro b l _ _; rw [jN]; exact ik
  ·intro b l _; rw [ga]; exact ik
  ·intro l _; rw [lR]; exact ik
  ·intro l _; rw [jO]; exact ik
  ·intro a k l _; rw [iX]; exact ik
  ·intro s a _ _; rw [gX]; exact oO
  ·intro a b c d e g n _ _ _ _ _; rw [fq]; exact oO
  ·intro s a _ _; rw [dZ]; exact oO
 | succ f ih =>
  constructor
  ·intro b l g
   rw [fb]
   refine dm (ih.b 0 b l g) (sfx _) λ c l1 z1 s1 g1=>cK (λ hs=>?_) (λ _=>dz z1 s1 g1)
   exact dm (ih.e b _ (glt g1 hs)) (t1 (t1 s1)) λ a l2 z2 s2 g2=>dm (cD g2) (t1 s2) λ _ l3 _ s3 g3=>dm (ih.e b _ g3) (t1 s3) λ d l4 z4 s4 g4=>dz (ot (by decide) (by decide) G (m3 z1 z2 z4)) s4 g4
  ·intro v b l g
   rw [kW]
   exact cK (λ _=>ih.u b l g) (λ _=>dm (ih.b _ b l g) (sfx _) λ e l1 z1 s1 g1=>rY (ih.bl v b e l1 z1 g1) s1)
  ·intro v b x l zx g
   rw [lN]
   cases ha:rz b l v with
   | none=>exact dz zx (sfx _) g
   | some p =>
    have hs:sgB b l p.1=true:=List.find?_some (p:=λ p:Bytes×Int=>sgB b l p.1) ha
    exact dm (ih.b _ b _ (glt g hs)) (t1 (tlS b l)) λ y l1 z1 s1 g1=>rY (ih.bl v b _ l1 (ot (by decide) (by decide) G (m2 zx z1)) g1) s1
  ·intro b l g
   rw [unS]
   refine cK (λ hs=>dm (ih.u b _ (glt g hs)) (t1 (sfx _)) λ e l1 z1 s1 g1=>dz (ot (by decide) (by decide) G (m1 z1)) s1 g1) (λ _=>cK (λ hs=>dm (ih.u b _ (glt g hs)) (t1 (sfx _)) λ e l1 z1 s1 g1=>dz (ot (by decide) (by decide) G (m1 z1)) s1 g1) (λ _=>?_))
   exact dm (ih.p b l g) (sfx _) λ e l1 z1 s1 g1=>rY (ih.pl b e l1 z1 g1) s1
  ·intro b x l zx g
   rw [iA]
   refine cK (λ hs=>cK (λ hk=>?_) (λ _=>qL (by decide))) (λ _=>cK (λ hs=>?_) (λ _=>dz zx (sfx _) g))
   ·exact rY (ih.pl b _ _ (ot (gln (glt g hs)) (by decide) G (m1 zx)) (glk (glt g hs) hk (by decide))) (t1 (tlS b l))
   ·exact dm (ih.e true _ (glt g hs)) (t1 (tlS b l)) λ y l1 z1 s1 g1=>dm (cD g1) (t1 s1) λ _ l2 _ s2 g2=>rY (ih.pl b _ _ (ot (by decide) (by decide) G (m2 zx z1)) g2) s2
  ·intro b l g
   rw [jB]
   refine cK (λ hk=>cK (λ _=>dz (Ax _ _ yE) (sfx _) (glk g hk (by decide))) (λ h=>qL h)) (λ _=>cK (λ hk=>ih.s b l g hk) (λ _=>cK (λ hk=>ih.n b l g hk) (λ _=>?_)))
   refine cK (λ hs=>dm (ih.e true _ (glt g hs)) (tlS true _) λ e l1 z1 s1 g1=>dm (cD g1) (t1 s1) λ _ l2 _ s2 g2=>dz z1 s2 g2) (λ _=>?_)
   refine cK (λ hs=>cK (λ hw=>rY (ih.lo _ _ _ (glw (glt g hs) hw)) (tlS true _)) (λ _=>dm (ih.i _ _ (glt g hs)) (tlS true _) λ ks l1 z1 s1 g1=>dz (ot (by decide) (by decide) (by have:=z1.2; have:=(glt g hs).2; omega) z1.1) s1 g1)) (λ _=>?_)
   exact cK (λ hs=>cK (λ hw=>rY (ih.lo _ _ _ (glw (glt g hs) hw)) (tlS true _)) (λ _=>dm (ih.t _ (glt g hs)) (tlS true _) λ ks l1 z1 s1 g1=>dz (ot (by decide) (by decide) (by have:=z1.2; have:=(glt g hs).2; omega) z1.1) s1 g1)) (λ _=>qL (by decide))
  ·intro b l g hk
   rw [mY]
   intro q hq
   have hb:=sG (mB (b:=b) g.1)
   have ht':=ih.tm (hd b l).fText ((hd b l).fAt+1) (by have:=hb.1; omega) (by have:=hb.2.2.1 hk; omega)
   cases ht:gX f (hd b l).fText ((hd b l).fAt+1) with
   | none=>rw [ht] at hq; cases hq
   | some y =>
    rw [ht] at hq
    have ht':=ht' y ht
    rcases y with e | e
    ·cases hq; exact ht'
    ·cases hq; exact ⟨ER ht' _,sfx _,glk g hk (by decide)⟩
  ·intro b l g hk
   have g1:=glk g hk (by decide)
   have gn:=gln (b:=b) g
   rw [jN]
   refine cK (λ _=>dz (Ax _ _ yE) (sfx _) g1) (λ _=>cK (λ _=>dz (Ax _ _ yE) (sfx _) g1) (λ _=>cK (λ _=>dz (Ax _ _ yE) (sfx _) g1) (λ _=>cK (λ _=>qL (by decide)) (λ _=>?_))))
   exact cK (λ hs=>dm (ih.i _ _ (glt g1 hs)) (t1 (tlS b _)) λ ks l1 z1 s1 g2=>dz (ot gn (by decide) (by have:=z1.2; have:=(glt g1 hs).2; omega) z1.1) s1 g2) (λ _=>dz (ot gn (by decide) (by decide) (λ y hy=>by cases hy)) (sfx _) g1)
  ·intro e l g
   have gt:=gll (b:=true) g
   rw [ga]
   refine cK (λ hs=>dz ⟨(λ y hy=>by cases hy),Nat.zero_le _⟩ (sfx _) (glt g hs)) (λ _=>dm (ih.e true l g) (sfx _) λ x l1 zx s1 g1=>cK (λ hs=>?_) (λ _=>dm (cD g1) (t1 s1) λ _ l2 _ s2 g2=>dz ⟨m1 zx,by simp only [List.length_singleton]; omega⟩ s2 g2))
   have h1:=s1.length_le
   have h2:=gll (b:=true) g1
   exact dm (ih.i e _ (glt g1 hs)) (t1 (t1 s1)) λ r l2 z2 s2 g2=>dz ⟨λ y hy=>by
    rcases List.mem_cons.1 hy with rfl | hy
    ·exact zx
    ·exact z2.1 y hy,by have:=z2.2; simp only [List.length_cons]; omega⟩ s2 g2
  ·intro l g
   have gt:=gll (b:=true) g
   rw [lR]
   refine cK (λ hs=>dz ⟨(λ y hy=>by cases hy),Nat.zero_le _⟩ (sfx _) (glt g hs)) (λ _=>dm (ih.k l g) (sfx _) λ k l1 z1 s1 g1=>dm (cD g1) (t1 s1) λ _ l2 _ s2 g2=>dm (ih.e true l2 g2) (t1 s2) λ x l3 z3 s3 g3=>cK (λ hs=>?_) (λ _=>dm (cD g3) (t1 s3) λ _ l4 _ s4 g4=>dz ⟨m2 z1 z3,by simp only [List.length_cons,List.length_nil]; omega⟩ s4 g4))
   have h1:=s3.length_le
   have h2:=gll (b:=true) g3
   exact dm (ih.t _ (glt g3 hs)) (t1 (t1 s3)) λ r l4 z4 s4 g4=>dz ⟨λ y hy=>by
    rcases List.mem_cons.1 hy with rfl | hy
    ·exact z1
    rcases List.mem_cons.1 hy with rfl | hy
    ·exact z3
    ·exact z4.1 y hy,by have:=z4.2; simp only [List.length_cons]; omega⟩ s4 g4
  ·intro l g
   rw [jO]
   refine cK (λ hk=>dz (DW _ _) (sfx _) (glk g hk (by decide))) (λ _=>cK (λ hk=>ih.s true l g hk) (λ _=>cK (λ hs=>?_) (λ _=>qL (by decide))))
   exact dm (ih.e true _ (glt g hs)) (tlS true _) λ e l1 z1 s1 g1=>dm (cD g1) (t1 s1) λ _ l2 _ s2 g2=>dz z1 s2 g2
  ·intro a k l g
   rw [iX]
   refine dm (mK g) (tlS true l) λ v l1 z1 s1 g1=>dm (P:=λ p:Bytes×Bytes=>p.1.length≤1000000000∧p.2.length≤1000000000) (l1:=l1) (cK (λ hs=>dm (mK (glt g1 hs)) (t1 (tlS true l1)) λ w l2 z2 s2 g2=>dz ⟨z2,z1⟩ s2 g2) (λ _=>dz ⟨z1,Nat.zero_le _⟩ (sfx _) g1)) s1 λ nk l2 zn s2 g2=>?_
   refine dm (wP g2) (t1 s2) λ _ l3 _ s3 g3=>dm (ih.e true l3 g3) (t1 s3) λ x l4 z4 s4 g4=>dm (cD g4) (t1 s4) λ _ l5 _ s5 g5=>dm (ih.e true l5 g5) (t1 s5) λ c l6 z6 s6 g6=>?_
   refine dm (P:=Kd 3) (l1:=l6) (cK (λ _=>dm (cD g6) (tlS true l6) λ _ l7 _ s7 g7=>dm (ih.e true l7 g7) (t1 s7) λ d l8 z8 s8 g8=>dz ⟨m3 z4 z6 z8,by simp⟩ s8 g8) (λ _=>dz ⟨m2 z4 z6,by simp⟩ (sfx _) g6)) s6 λ ks l7 z7 s7 g7=>?_
   refine dm (P:=Kd 4) (l1:=l7) (cK (λ hw=>dm (ih.e true _ (glw g7 hw)) (t1 (tlS true l7)) λ e l8 z8 s8 g8=>dz ⟨λ y hy=>by
    rcases List.mem_append.1 hy with hy | hy
    ·exact z7.1 y hy
    ·exact m1 z8 y hy,by have:=z7.2; rw [List.length_append,List.length_singleton]; omega⟩ s8 g8) (λ _=>dz ⟨z7.1,by have:=z7.2; omega⟩ (sfx _) g7)) s7 λ ks l8 z8 s8 g8=>?_
   exact dm (cD g8) (t1 s8) λ _ l9 _ s9 g9=>dz (ot zn.1 zn.2 (by have:=z8.2; omega) z8.1) s9 g9
  ·intro s a h0 h1
   rw [gX]
   have hr':=ih.r a a [] [] false s (2*s.length) h0 h1 (by decide) (λ y hy=>by cases hy) G
   intro q hq
   cases hr:fq f a a [] [] false s with
   | none=>rw [hr] at hq; cases hq
   | some y =>
    rw [hr] at hq
    have hr':=hr' y hr
    rcases y with e' | z
    ·cases hq; exact hr'
    ·have hz:Sz (oc a z):=vT O hr'
     simp only [lA,Option.some.injEq] at hq
     split at hq
     ·cases hq; exact hz
     ·cases hq; assumption
  ·intro frm pos text parts opn s n h0 h1 ht hp hn
   cases s with
   | nil=>rw [fq]; exact E3 ⟨ht,hp,by simp only [List.length_nil] at hn; omega⟩
   | cons c r =>
    have hcl:(c::r).length=r.length+1:=rfl
    rw [fq]
    refine rx (λ hx=>rx (λ _=>vW (by decide)) (λ hl=>ih.r _ _ _ _ _ _ n O ?_ ?_ hp ?_)) (λ _=>rx (λ hx=>?_) (λ _=>?_))
    ·have:=jY hx
     rw [List.length_drop]; simp only [List.length_cons,List.length_nil] at this h1 ⊢; omega
    ·rw [List.length_append]; simp only [List.length_cons,List.length_nil]; omega
    ·rw [List.length_drop]; omega
    ·cases hc:gb f 1 ((c::r).drop 2) with
     | none=>exact oO
     | some y =>
      cases y with
      | none=>exact vW (by decide)
      | some r' =>
       simp only []
       have hr:=(iR f).1 _ _ _ hc
       have hr2:=hr.2
       have hr1:=hr.1.length_le
       have hx:=jY hx
       have hfl:=zP (frm:=frm) (pos:=pos) (text:=text) hp
       rw [List.length_drop] at hr1 hr2
       simp only [List.length_cons,List.length_nil] at hr1 hr2 h1 hx hn
       have hw':=ih.w (((c::r).drop 2).take (((c::r).drop 2).length - r'.length - 1)) (pos+2) O (by simp only [List.length_take,List.length_drop,List.length_cons]; omega)
       cases hw:dZ f (((c::r).drop 2).take (((c::r).drop 2).length - r'.length - 1)) (pos+2) with
       | none=>exact oO
       | some z =>
        have hw':=hw' z hw
        rcases z with e | e
        ·intro e' h; cases h; exact hw'
        ·refine ih.r _ _ _ _ _ _ n O (by simp only [List.length_cons]; omega) (by decide) (λ y hy=>?_) (by rw [List.length_append,List.length_singleton]; omega)
         rcases List.mem_append.1 hy with hy | hy
         ·exact hfl.1 y hy
         ·rw [List.mem_singleton.1 hy]; exact hw'
    ·cases hi:jR (c::r) with
     | inl k=>exact vW (yo hi)
     | inr tn =>
      have:=pt hi
      exact rx (λ _=>vW (by decide)) (λ hl=>ih.r _ _ _ _ _ _ n O (by rw [List.length_drop]; omega) (by rw [List.length_append]; omega) hp (by rw [List.length_drop]; omega))
  ·intro s a h0 h1
   rw [dZ]
   refine rx (λ h=>vW h) (λ hk=>?_)
   have hk:(eJ s).2.fKind=0:=Classical.not_not.1 hk
   have hx':=ih.e true _ (rh h0 h1 hk)
   intro q hq
   cases hx:fb f true ((eJ s).1.map (mvT a)) with
   | none=>rw [hx] at hq; cases hq
   | some y =>
    rw [hx] at hq
    have hx':=hx' y hx
    rcases y with e' | ⟨x,l⟩
    ·cases hq; exact hx'
    ·simp only [] at hq
     split at hq
     ·cases hq; exact hx'.1
     ·cases hq; exact (show (2:Int)≠0 by decide)
theorem ew {L:List ae}{base:Int}(hL:Gd (L.map (mvT base)))(hlen:L.length≤1000000000){i:Nat}{nest:Int}{b:Bool}{l:List ae}(s:Bytes){q:PE⊕(Unit×List ae)}(h0:0≤nest)(hb:b=decide (0 < nest))(h:Pos L base i (nest+1) true l)(hq:fJ true s l=some q) :
  Ev2 (λ n _=>bc n (.mk L (i:Int) (nest+1) base dOk) s) (BC L base nest b q):=by subst hb; exact Ba hL hlen s h0 h hq
theorem fC {L:List ae}{base:Int}(hL:Gd (L.map (mvT base)))(hlen:L.length≤1000000000){i:Nat}{nest:Int}{b:Bool}{l:List ae}{e:PE}(s:Bytes)(he:e.1≠0)(h0:0≤nest)(hb:b=decide (0 < nest))(h:Pos L base i (nest+1) true l) :
  Ev2 (λ n _=>bc n (.mk L (i:Int) (nest+1) base (eD e)) s) (λ z=>∃ (j:Nat) (l':List ae),z=.mk L (j:Int) nest base (eD e)∧Pos L base j nest b l'):=by subst hb; exact BX hL hlen s he h0 h
theorem sg6 {b:Bool}{l:List ae}{s:Bytes}(h:sgB b l s=true):(hd b l).fKind≠6:=by have:=(po.1 h).1; omega
theorem wd6 {b:Bool}{l:List ae}{s:Bytes}(h:wdB b l s=true):(hd b l).fKind≠6:=by have:=(uv.1 h).1; omega
theorem Dd (e:ac):ac.mk e.fKind e.fOp e.fName e.fKey (ah.mk e.fValue.fKind e.fValue.fNum e.fValue.fStr e.fValue.fItems e.fValue.fKeys) e.fKids e.fAt=e:=by
 obtain ⟨k,op,nm,key,⟨vk,vn,vs,vi,vks⟩,kids,at'⟩:=e; rfl
def Fl {α:Type}(F:Nat→ad→Option (α×ad))(b:Bool)(l:List ae)(x:PR α):Prop :=
 ∀ (L:List ae) (base:Int),Gd (L.map (mvT base))→L.length≤1000000000→∀ (i:Nat) (nest:Int) (q:PE⊕(α×List ae)),Pos L base i nest b l→x=some q→Ev2 (λ n _=>F n (.mk L (i:Int) nest base dOk)) (Out L base nest b q)
def FlC {α:Type}(F:Nat→ad→Option (α×ad))(l:List ae)(x:PR α):Prop :=
 ∀ (L:List ae) (base:Int),Gd (L.map (mvT base))→L.length≤1000000000→∀ (i:Nat) (nest:Int) (b:Bool) (q:PE⊕(α×List ae)),0≤nest→b=decide (0 < nest)→Pos L base i (nest+1) true l→x=some q→Ev2 (λ n _=>F n (.mk L (i:Int) (nest+1) base dOk)) (Out L base nest b q)
def BE (L:List ae)(base nest:Int)(en:Bytes)(out:List ac)(q:PE⊕(List ac×List ae))(r:List ac×List ae×Int×Int×Int×Int×Int×Bytes):Prop:=match q with
 | .inl e=>e.1≠0∧∃ (j:Nat) (l':List ae),((r.2=(L,(j:Int),nest,base,e.1,e.2,[])∧Pos L base j nest true l')∨(r.2=(L,(j:Int),nest,base,0,0,[])∧Pos L base j nest true l'∧fJ true en l'=some (.inl e)))
 | .inr (ks,l')=>∃ (j:Nat) (l'':List ae),r=(out++ks,L,(j:Int),nest,base,0,0,[])∧Pos L base j nest true l''∧fJ true en l''=some (.inr ((),l'))
def RdO (s:Bytes)(a:Int)(q:PE⊕(Int×Int×Bytes×List ac×Bool))(r:(Bytes×Int×Int×Int×Bytes×(List ac)×Bool)⊕(ap×ak)):Prop:=match q with
 | .inl e=>e.1≠0∧∃ t,r=.inr (eD e,t)
 | .inr (frm,pos,text,parts,opn)=>∃ (i fr:Nat),frm=a+(fr:Int)∧pos=a+(i:Int)∧fr≤i∧i≤s.length∧parts.length≤2*i∧r=.inl (s,a,(i:Int),(fr:Int),text,parts,opn)
def WOut (q:PE⊕ac)(r:ac×ap):Prop:=match q with
 | .inl e=>e.1≠0∧r.2=eD e
 | .inr x=>r=(x,dOk)
structure Fol (f:Nat):Prop where
 e:∀ b l,Fl aA b l (fb f b l)
 b:∀ (lev:Nat) (li:Int) b l,li=lev→lev≤6→Fl (λ n p=>aT n p li) b l (kW f lev b l)
 bl:∀ (lev:Nat) (li:Int) b l (x:ac) (r5:ac×ad),li=lev→lev≤5→x.fAt=r5.1.fAt→∀ (L:List ae) (base:Int),Gd (L.map (mvT base))→L.length≤1000000000→∀ (i:Nat) (nest:Int) (q:PE⊕(ac×List ae)),Pos L base i nest b l→lN f lev b x l=some q →
  Ev2 (λ n m=>bn n (aT n) li r5 m x.fKind x.fOp x.fName x.fKey x.fValue.fKind x.fValue.fNum x.fValue.fStr x.fValue.fItems x.fValue.fKeys x.fKids L (i:Int) nest base 0 0 []) (λ s=>∃ z,s=.inr z∧Out L base nest b q z)
 u:∀ b l,Fl ca b l (unS f b l)
 pl:∀ b l (x:ac) (r1:ac×ad),x.fAt=r1.1.fAt→∀ (L:List ae) (base:Int),Gd (L.map (mvT base))→L.length≤1000000000→∀ (i:Nat) (nest:Int) (q:PE⊕(ac×List ae)),Pos L base i nest b l→iA f b x l=some q →
  Ev2 (λ n m=>bf n (aA n) r1 m x.fKind x.fOp x.fName x.fKey x.fValue.fKind x.fValue.fNum x.fValue.fStr x.fValue.fItems x.fValue.fKeys x.fKids L (i:Int) nest base 0 0 []) (λ s=>∃ z,s=.inr z∧Out L base nest b q z)
 p:∀ b l,Fl bX b l (jB f b l)
 s:∀ b l,(hd b l).fKind=3→Fl cU b l (mY f b l)
 n:∀ b l,(hd b l).fKind=1→Fl du b l (jN f b l)
 i:∀ (en:Bytes) (l:List ae) (out:List ac),Gd l→out.length+l.length≤1000000000→∀ (L:List ae) (base:Int),Gd (L.map (mvT base))→L.length≤1000000000→∀ (i:Nat) (nest:Int) (q:PE⊕(List ac×List ae)),Pos L base i nest true l→ga f en l=some q →
  Ev2 (λ n m=>bV n (aA n) en m out L (i:Int) nest base 0 0 []) (BE L base nest en out q)
 t:∀ (l:List ae) (out:List ac),Gl l→out.length+2*l.length≤3000000000→∀ (L:List ae) (base:Int),Gd (L.map (mvT base))→L.length≤1000000000→∀ (i:Nat) (nest:Int) (q:PE⊕(List ac×List ae)),Pos L base i nest true l→lR f l=some q →
  Ev2 (λ n m=>bC n (aA n) (cu n) m out L (i:Int) nest base 0 0 []) (BE L base nest [125] out q)
 k:∀ l,Fl cu true l (jO f l)
 lo:∀ (a k:Int) l,wdB true l [102,111,114]=true→k=12∨k=13→FlC (λ n p=>cT n p a k) l (iX f a k (tl true l))
 tm:∀ (s:Bytes) (a:Int) q,0≤a→a+(s.length:Int)≤1000000000→gX f s a=some q→Ev2 (λ n _=>eq n s a) (·=Bo q)
 r:∀ (s:Bytes) (a:Int) (i fr:Nat) (text:Bytes) (parts:List ac) (opn:Bool) q,0≤a→a+(s.length:Int)≤1000000000→i≤s.length→fr≤i→text.length≤4096→parts.length≤2*i→fq f (a+(fr:Int)) (a+(i:Int)) text parts opn (s.drop i)=some q →
  Ev2 (λ n m=>bm n (aB n) m s a (i:Int) (fr:Int) text parts opn) (RdO s a q)
 w:∀ (s:Bytes) (a:Int) q,0≤a→a+(s.length:Int)≤1000000000→dZ f s a=some q→Ev2 (λ n _=>d5 n s a) (WOut q)
theorem EO {f:Nat}(ih:Fol f):∀ b l,Fl aA b l (fb (f+1) b l):=by
 intro b l L base hL hlen i nest q h hq
 rw [fb] at hq
 refine cj ?_
 simp only [aA]
 rcases bN hq with ⟨e,hx,rfl⟩ | ⟨c,l1,hx,hq⟩
 ·
  refine af _ (ih.b 0 0 b l Z (by decide) L base hL hlen i nest _ h hx) ?_
  rintro ⟨z1,z2⟩ ⟨he,j,l',h2,h3⟩
  cases h2
  refine af _ (jd hL hlen _ he h3) ?_
  rintro _ ⟨j,rfl,h3⟩
  exact aj Z (ab ⟨he,j,l',Z,h3⟩)
 ·
  refine af _ (ih.b 0 0 b l Z (by decide) L base hL hlen i nest _ h hx) ?_
  rintro ⟨z1,z2⟩ ⟨h1,j,h2,h3⟩
  replace h1:z1=_:=h1; subst h1; cases h2
  refine af _ (fo hL hlen _ h3) ?_
  rintro ⟨z1,z2⟩ ⟨h1,j,h2,h3⟩
  replace h1:z1=_:=h1; subst h1; cases h2
  by_cases hs:sgB b l1 [63]=true
  ·
   rw [if_pos hs] at hq
   refine ai (by simp [hs]) ?_
   refine af _ (dY hL hlen h3 (sg6 hs)) ?_
   rintro ⟨z1,z2⟩ ⟨h1,j,h2,h3,h4,h5⟩
   replace h1:z1=_:=h1; subst h1; cases h2
   rcases bN hq with ⟨e,hx,rfl⟩ | ⟨a,l2,hx,hq⟩
   ·
    refine af _ (ih.e b _ L base hL hlen j nest _ h3 hx) ?_
    rintro ⟨z1,z2⟩ ⟨he,j,l',h2,h3⟩
    cases h2
    refine af _ (i6 hL hlen _ he h3) ?_
    rintro _ ⟨j,l',rfl,h3⟩
    refine af _ (gp hL hlen he h3) ?_
    rintro ⟨z1,z2⟩ ⟨j,l',h2,h3⟩
    cases h2
    exact ab ⟨he,j,l',Z,h3⟩
   ·
    refine af _ (ih.e b _ L base hL hlen j nest _ h3 hx) ?_
    rintro ⟨z1,z2⟩ ⟨h1,j,h2,h3⟩
    replace h1:z1=_:=h1; subst h1; cases h2
    rcases bN hq with ⟨e,hx,rfl⟩ | ⟨u,l3,hx,hq⟩
    ·
     refine af _ (jk hL hlen _ h3 hx) ?_
     rintro _ ⟨he,j,l',rfl,h3⟩
     refine af _ (gp hL hlen he h3) ?_
     rintro ⟨z1,z2⟩ ⟨j,l',h2,h3⟩
     cases h2
     exact ab ⟨he,j,l',Z,h3⟩
    ·
     refine af _ (jk hL hlen _ h3 hx) ?_
     rintro _ ⟨j,rfl,h3,h4⟩
     rcases bN hq with ⟨e,hx,rfl⟩ | ⟨d,l4,hx,hq⟩
     ·
      refine af _ (ih.e b _ L base hL hlen j nest _ h3 hx) ?_
      rintro ⟨z1,z2⟩ ⟨he,j,l',h2,h3⟩
      cases h2
      exact ab ⟨he,j,l',Z,h3⟩
     ·
      refine af _ (ih.e b _ L base hL hlen j nest _ h3 hx) ?_
      rintro ⟨z1,z2⟩ ⟨h1,j,h2,h3⟩
      replace h1:z1=_:=h1; subst h1; cases h2
      cases hq
      exact ab ⟨Z,j,Z,h3⟩
  ·
   rw [if_neg hs] at hq; cases hq
   exact aj (by simpa using hs) (ab ⟨Z,j,Z,h3⟩)
theorem E9 {f:Nat}(ih:Fol f):∀ (lev:Nat) (li:Int) b l,li=lev→lev≤6→Fl (λ n p=>aT n p li) b l (kW (f+1) lev b l):=by
 intro lev li b l hli h6 L base hL hlen i nest q h hq
 rw [kW] at hq
 refine cj ?_
 simp only [aT]
 by_cases hv:5 < lev
 ·
  rw [if_pos hv] at hq
  refine aj O ?_
  refine af _ (ih.u b l L base hL hlen i nest _ h hq) ?_
  rintro ⟨z1,z2⟩ hz
  exact ab hz
 ·
  rw [if_neg hv] at hq
  refine ai O (ar (aG O O) ?_)
  rcases bN hq with ⟨e,hx,rfl⟩ | ⟨c,l1,hx,hq⟩
  ·
   refine af _ (ih.b (lev+1) (li+1) b l O O  L base hL hlen i nest _ h hx) ?_
   rintro ⟨z1,z2⟩ ⟨he,j,l',h2,h3⟩
   cases h2
   subst hli
   refine eg (cA (bS (pR hL hlen he h3 O (z1,.mk L (j:Int) nest base (eD e)) _ _ _ _ _ _ _ _ _ _)) ?_)
   rintro _ ⟨z,rfl,j,l',hz1,hz2⟩
   exact ⟨he,j,l',hz1,hz2⟩
  ·
   refine af _ (ih.b (lev+1) (li+1) b l O O  L base hL hlen i nest _ h hx) ?_
   rintro ⟨z1,z2⟩ ⟨h1,j,h2,h3⟩
   replace h1:z1=_:=h1; subst h1; cases h2
   refine eg (cA (bS (ih.bl lev li b _ _ (_,.mk L (j:Int) nest base dOk) hli O rfl L base hL hlen j nest q h3 hq)) ?_)
   rintro _ ⟨z,rfl,hz⟩
   exact hz
theorem Ef {f:Nat}(ih:Fol f):∀ (lev:Nat) (li:Int) b l (x:ac) (r5:ac×ad),li=lev→lev≤5→x.fAt=r5.1.fAt→∀ (L:List ae) (base:Int),Gd (L.map (mvT base))→L.length≤1000000000→∀ (i:Nat) (nest:Int) (q:PE⊕(ac×List ae)),Pos L base i nest b l→lN (f+1) lev b x l=some q →
  Ev2 (λ n m=>bn n (aT n) li r5 m x.fKind x.fOp x.fName x.fKey x.fValue.fKind x.fValue.fNum x.fValue.fStr x.fValue.fItems x.fValue.fKeys x.fKids L (i:Int) nest base 0 0 []) (λ s=>∃ z,s=.inr z∧Out L base nest b q z):=by
 intro lev li b l x r5 hli hl5 hat L base hL hlen i nest q h hq
 rw [lN] at hq
 refine aV ?_
 simp only [bn]
 subst hli
 refine ao _ (au (u6 hl5) Z) ?_
 have ha:=zG hL hlen ((tb lev).map (·.1)) xH h
 rw [Ag] at ha
 have eta:ac.mk x.fKind x.fOp x.fName x.fKey (ah.mk x.fValue.fKind x.fValue.fNum x.fValue.fStr x.fValue.fItems x.fValue.fKeys) x.fKids r5.1.fAt=x:=by rw [← hat]; exact Dd x
 rw [eta]
 cases hp:rz b l lev with
 | none =>
  rw [hp] at ha hq
  cases hq
  refine af _ ha ?_
  rintro _ ⟨j,rfl,h3⟩
  exact aj Z (ab ⟨_,Z,Z,j,Z,h3⟩)
 | some p =>
  rw [hp] at ha hq
  obtain ⟨hm,hs⟩:=Cl hp
  refine af _ ha ?_
  rintro _ ⟨j,rfl,h3⟩
  refine ai Bool.false_ne_true ?_
  refine af _ (dY hL hlen h3 (sg6 hs)) ?_
  rintro ⟨z1,z2⟩ ⟨h1,j,h2,h3,h4,h5⟩
  replace h1:z1=_:=h1; subst h1; cases h2
  refine ar (aG O O) ?_
  have hq:pb (kW f (lev+1) b (tl b l)) (λ y l=>lN f lev b (ac.mk 7 p.2 [] [] v0 [x,y] x.fAt) l)=some q:=hq
  rcases bN hq with ⟨e,hx,rfl⟩ | ⟨y,l1,hx,hq⟩
  ·
   refine af _ (ih.b (lev+1) ((lev:Int)+1) b _ O O  L base hL hlen j nest _ h3 hx) ?_
   rintro ⟨z1,z2⟩ ⟨he,j,l',h2,h3⟩
   cases h2
   refine ao _ (C8 hl5 hm) ?_
   refine cA (pR hL hlen he h3 hl5 r5 _ _ _ _ _ _ _ _ _ _) ?_
   rintro _ ⟨z,rfl,j,l',hz1,hz2⟩
   exact ⟨z,Z,he,j,l',hz1,hz2⟩
  ·
   refine af _ (ih.b (lev+1) ((lev:Int)+1) b _ O O  L base hL hlen j nest _ h3 hx) ?_
   rintro ⟨z1,z2⟩ ⟨h1,j,h2,h3⟩
   replace h1:z1=_:=h1; subst h1; cases h2
   refine ao _ (C8 hl5 hm) ?_
   exact ih.bl lev lev b _ (ac.mk 7 p.2 [] [] v0 [x,_] x.fAt) r5 Z hl5 hat L base hL hlen j nest q h3 hq
theorem Bs {f:Nat}(ih:Fol f):∀ b l,Fl cq b l (pb (jB f b l) λ e l=>iA f b e l):=by
 intro b l L base hL hlen i nest q h hq
 refine cj ?_
 simp only [cq]
 rcases bN hq with ⟨e,hx,rfl⟩ | ⟨c,l1,hx,hq⟩
 ·
  refine af _ (ih.p b l L base hL hlen i nest _ h hx) ?_
  rintro ⟨z1,z2⟩ ⟨he,j,l',h2,h3⟩
  cases h2
  refine eg (cA (bS (lM hL hlen he h3 (z1,.mk L (j:Int) nest base (eD e)) _ _ _ _ _ _ _ _ _ _)) ?_)
  rintro _ ⟨z,rfl,j,l',hz1,hz2⟩
  exact ⟨he,j,l',hz1,hz2⟩
 ·
  refine af _ (ih.p b l L base hL hlen i nest _ h hx) ?_
  rintro ⟨z1,z2⟩ ⟨h1,j,h2,h3⟩
  replace h1:z1=_:=h1; subst h1; cases h2
  refine eg (cA (bS (ih.pl b _ _ (_,.mk L (j:Int) nest base dOk) Z L base hL hlen j nest q h3 hq)) ?_)
  rintro _ ⟨z,rfl,hz⟩
  exact hz
theorem EK {f:Nat}(ih:Fol f):∀ b l,Fl ca b l (unS (f+1) b l):=by
 intro b l L base hL hlen i nest q h hq
 rw [unS] at hq
 refine cj ?_
 simp only [ca]
 by_cases hs:sgB b l [33]=true
 ·
  rw [if_pos hs] at hq
  refine af (λ t=>∃ j:Nat,t=(1,L,(j:Int),nest,base,0,0,[])∧Pos L base j nest b l) ?_ ?_
  ·
   refine af _ (fo hL hlen _ h) ?_
   rintro ⟨z1,z2⟩ ⟨h1,j,h2,h3⟩
   replace h1:z1=_:=h1; subst h1; cases h2
   exact aj hs (ab ⟨j,Z,h3⟩)
  ·
   rintro _ ⟨j,rfl,h3⟩
   refine ai (show ¬ (1:Int)=0 by decide) ?_
   refine af _ (dY hL hlen h3 (sg6 hs)) ?_
   rintro ⟨z1,z2⟩ ⟨h1,j,h2,h3,h4,h5⟩
   replace h1:z1=_:=h1; subst h1; cases h2
   rcases bN hq with ⟨e,hx,rfl⟩ | ⟨c,l1,hx,hq⟩
   ·
    refine af _ (ih.u b _ L base hL hlen j nest _ h3 hx) ?_
    rintro ⟨z1,z2⟩ ⟨he,j,l',h2,h3⟩
    cases h2
    exact ab ⟨he,j,l',Z,h3⟩
   ·
    refine af _ (ih.u b _ L base hL hlen j nest _ h3 hx) ?_
    rintro ⟨z1,z2⟩ ⟨h1,j,h2,h3⟩
    replace h1:z1=_:=h1; subst h1; cases h2
    cases hq
    exact ab ⟨Z,j,Z,h3⟩
 rw [if_neg hs] at hq
 by_cases hs2:sgB b l [45]=true
 ·
  rw [if_pos hs2] at hq
  refine af (λ t=>∃ j:Nat,t=(2,L,(j:Int),nest,base,0,0,[])∧Pos L base j nest b l) ?_ ?_
  ·
   refine af _ (fo hL hlen _ h) ?_
   rintro ⟨z1,z2⟩ ⟨h1,j,h2,h3⟩
   replace h1:z1=_:=h1; subst h1; cases h2
   refine ai hs ?_
   refine af _ (fo hL hlen _ h3) ?_
   rintro ⟨z1,z2⟩ ⟨h1,j,h2,h3⟩
   replace h1:z1=_:=h1; subst h1; cases h2
   exact aj hs2 (ab ⟨j,Z,h3⟩)
  ·
   rintro _ ⟨j,rfl,h3⟩
   refine ai (show ¬ (2:Int)=0 by decide) ?_
   refine af _ (dY hL hlen h3 (sg6 hs2)) ?_
   rintro ⟨z1,z2⟩ ⟨h1,j,h2,h3,h4,h5⟩
   replace h1:z1=_:=h1; subst h1; cases h2
   rcases bN hq with ⟨e,hx,rfl⟩ | ⟨c,l1,hx,hq⟩
   ·
    refine af _ (ih.u b _ L base hL hlen j nest _ h3 hx) ?_
    rintro ⟨z1,z2⟩ ⟨he,j,l',h2,h3⟩
    cases h2
    exact ab ⟨he,j,l',Z,h3⟩
   ·
    refine af _ (ih.u b _ L base hL hlen j nest _ h3 hx) ?_
    rintro ⟨z1,z2⟩ ⟨h1,j,h2,h3⟩
    replace h1:z1=_:=h1; subst h1; cases h2
    cases hq
    exact ab ⟨Z,j,Z,h3⟩
 rw [if_neg hs2] at hq
 refine af (λ t=>∃ j:Nat,t=(0,L,(j:Int),nest,base,0,0,[])∧Pos L base j nest b l) ?_ ?_
 ·
  refine af _ (fo hL hlen _ h) ?_
  rintro ⟨z1,z2⟩ ⟨h1,j,h2,h3⟩
  replace h1:z1=_:=h1; subst h1; cases h2
  refine ai hs ?_
  refine af _ (fo hL hlen _ h3) ?_
  rintro ⟨z1,z2⟩ ⟨h1,j,h2,h3⟩
  replace h1:z1=_:=h1; subst h1; cases h2
  exact ai hs2 (ab ⟨j,Z,h3⟩)
 ·
  rintro _ ⟨j,rfl,h3⟩
  refine aj Z ?_
  refine af _ (Bs ih b l L base hL hlen j nest _ h3 hq) ?_
  rintro ⟨z1,z2⟩ hz
  exact ab hz
theorem DF {f:Nat}(ih:Fol f):∀ b l (x:ac) (r1:ac×ad),x.fAt=r1.1.fAt→∀ (L:List ae) (base:Int),Gd (L.map (mvT base))→L.length≤1000000000→∀ (i:Nat) (nest:Int) (q:PE⊕(ac×List ae)),Pos L base i nest b l→iA (f+1) b x l=some q →
  Ev2 (λ n m=>bf n (aA n) r1 m x.fKind x.fOp x.fName x.fKey x.fValue.fKind x.fValue.fNum x.fValue.fStr x.fValue.fItems x.fValue.fKeys x.fKids L (i:Int) nest base 0 0 []) (λ s=>∃ z,s=.inr z∧Out L base nest b q z):=by
 intro b l x r1 hat L base hL hlen i nest q h hq
 have hn:=h.2.1
 have hb:=h.2.2.2.1
 rw [iA] at hq
 refine aV ?_
 simp only [bf]
 have eta:ac.mk x.fKind x.fOp x.fName x.fKey (ah.mk x.fValue.fKind x.fValue.fNum x.fValue.fStr x.fValue.fItems x.fValue.fKeys) x.fKids r1.1.fAt=x:=by rw [← hat]; exact Dd x
 rw [eta]
 refine eg ?_
 refine af _ (fo hL hlen _ h) ?_
 rintro ⟨z1,z2⟩ ⟨h1,j,h2,h3⟩
 replace h1:z1=_:=h1; subst h1; cases h2
 by_cases hs:sgB b l [46]=true
 ·
  rw [if_pos hs] at hq
  refine aj hs ?_
  refine af _ (dY hL hlen h3 (sg6 hs)) ?_
  rintro ⟨z1,z2⟩ ⟨h1,j,h2,h3,h4,h5⟩
  replace h1:z1=_:=h1; subst h1; cases h2
  refine af _ (eQ hL hlen h3) ?_
  rintro ⟨z1,z2⟩ ⟨h1,j,h2,h3,h4,h5⟩
  replace h1:z1=_:=h1; subst h1; cases h2
  by_cases hk:(hd b (tl b l)).fKind=1
  ·
   rw [if_pos hk] at hq
   refine aj hk ?_
   refine af _ (dY hL hlen h3 O) ?_
   rintro ⟨z1,z2⟩ ⟨h1,j,h2,h3,h4,h5⟩
   replace h1:z1=_:=h1; subst h1; cases h2
   exact ab (ih.pl b _ (ac.mk 4 0 (hd b (tl b l)).fText [] v0 [x] x.fAt) r1 hat L base hL hlen j nest q h3 hq)
  ·
   rw [if_neg hk] at hq; cases hq
   refine ai hk (ao _ (au (gH _ _ _ _) Z) (ab ⟨_,Z,(by decide:(2:Int)≠0),j,_,Z,h3⟩))
 rw [if_neg hs] at hq
 refine ai hs ?_
 refine af _ (fo hL hlen _ h3) ?_
 rintro ⟨z1,z2⟩ ⟨h1,j,h2,h3⟩
 replace h1:z1=_:=h1; subst h1; cases h2
 by_cases hs2:sgB b l [91]=true
 ·
  rw [if_pos hs2] at hq
  refine aj hs2 ?_
  refine af _ (nC hL hlen h3 (sg6 hs2)) ?_
  rintro _ ⟨j,rfl,h3⟩
  rcases bN hq with ⟨e,hx,rfl⟩ | ⟨y,l1,hx,hq⟩
  ·
   refine af _ (ih.e true _ L base hL hlen j (nest+1) _ h3 hx) ?_
   rintro ⟨z1,z2⟩ ⟨he,j,l',h2,h3⟩
   cases h2
   refine af _ (fC hL hlen _ he hn hb h3) ?_
   rintro _ ⟨j,l',rfl,h3⟩
   refine ab (cA (lM hL hlen he h3 r1 _ _ _ _ _ _ _ _ _ _) ?_)
   rintro _ ⟨z,rfl,j,l',hz1,hz2⟩
   exact ⟨z,Z,he,j,l',hz1,hz2⟩
  ·
   refine af _ (ih.e true _ L base hL hlen j (nest+1) _ h3 hx) ?_
   rintro ⟨z1,z2⟩ ⟨h1,j,h2,h3⟩
   replace h1:z1=_:=h1; subst h1; cases h2
   rcases bN hq with ⟨e,hx,rfl⟩ | ⟨u,l2,hx,hq⟩
   ·
    refine af _ (ew hL hlen _ hn hb h3 hx) ?_
    rintro _ ⟨he,j,l',rfl,h3⟩
    refine ab (cA (lM hL hlen he h3 r1 _ _ _ _ _ _ _ _ _ _) ?_)
    rintro _ ⟨z,rfl,j,l',hz1,hz2⟩
    exact ⟨z,Z,he,j,l',hz1,hz2⟩
   ·
    refine af _ (ew hL hlen _ hn hb h3 hx) ?_
    rintro _ ⟨j,rfl,h3,h4⟩
    exact ab (ih.pl b _ (ac.mk 5 0 [] [] v0 [x,_] x.fAt) r1 hat L base hL hlen j nest q h3 hq)
 ·
  rw [if_neg hs2] at hq; cases hq
  exact ai hs2 (ab ⟨_,Z,Z,j,Z,h3⟩)
theorem Pos.gl {L:List ae}{base:Int}(hL:Gd (L.map (mvT base)))(hlen:L.length≤1000000000){i:Nat}{nest:Int}{b:Bool}{l:List ae}(h:Pos L base i nest b l)(hk:(hd b l).fKind≠6):Gl (tl b l):=by
 refine ⟨xO (h.gd hL) hk,?_⟩
 have h1:=congrArg List.length (o0 (h.gd hL))
 have h2:=congrArg List.length h.2.2.2.2
 have h3:=w7 b ((L.drop i).map (mvT base))
 rw [List.length_map,List.length_drop] at h3
 rw [List.length_cons] at h1
 omega
theorem yj {b:Bool}{s:Bytes}{l:List ae}{e:PE}(h:fJ b s l=some (.inl e)):e.1≠0:=by
 unfold fJ at h
 split at h
 ·cases h
 ·cases h; exact (show (2:Int)≠0 by decide)
def LP (L:List ae)(base nest:Int)(en:Bytes)(q:PE⊕(List ac×List ae))(r:List ac×ad):Prop:=match q with
 | .inl e=>e.1≠0∧∃ (j:Nat) (l':List ae),(r.2=.mk L (j:Int) nest base (eD e)∧Pos L base j nest true l')∨(r.2=.mk L (j:Int) nest base dOk∧Pos L base j nest true l'∧fJ true en l'=some (.inl e))
 | .inr (ks,l')=>∃ (j:Nat) (l'':List ae),r.1=ks∧r.2=.mk L (j:Int) nest base dOk∧Pos L base j nest true l''∧fJ true en l''=some (.inr ((),l'))
theorem oL {f:Nat}(ih:Fol f):∀ (en:Bytes) (l:List ae),Gl l→∀ (L:List ae) (base:Int),Gd (L.map (mvT base))→L.length≤1000000000→∀ (i:Nat) (nest:Int) (q:PE⊕(List ac×List ae)),Pos L base i nest true l→ga f en l=some q →
  Ev2 (λ n _=>dx n (.mk L (i:Int) nest base dOk) en) (LP L base nest en q):=by
 intro en l gl L base hL hlen i nest q h hq
 refine cj ?_
 simp only [dx]
 refine af _ (bS (ih.i en l [] gl.1 (by have:=gl.2; simp only [List.length_nil]; omega) L base hL hlen i nest q h hq)) ?_
 rintro ⟨ks,z⟩ hz
 rcases q with e | ⟨ks',l'⟩
 ·obtain ⟨he,j,l',⟨hz,h3⟩ | ⟨hz,h3,h4⟩⟩:=hz
  ·cases hz; exact ab ⟨he,j,l',.inl ⟨rfl,h3⟩⟩
  ·cases hz; exact ab ⟨he,j,l',.inr ⟨rfl,h3,h4⟩⟩
 ·obtain ⟨j,l'',hz,h3,h4⟩:=hz
  cases hz; exact ab ⟨j,l'',rfl,rfl,h3,h4⟩
theorem xu {f:Nat}(ih:Fol f):∀ (l:List ae),Gl l→∀ (L:List ae) (base:Int),Gd (L.map (mvT base))→L.length≤1000000000→∀ (i:Nat) (nest:Int) (q:PE⊕(List ac×List ae)),Pos L base i nest true l→lR f l=some q →
  Ev2 (λ n _=>cW n (.mk L (i:Int) nest base dOk)) (LP L base nest [125] q):=by
 intro l gl L base hL hlen i nest q h hq
 refine cj ?_
 simp only [cW]
 refine af _ (bS (ih.t l [] gl (by have:=gl.2; simp only [List.length_nil]; omega) L base hL hlen i nest q h hq)) ?_
 rintro ⟨ks,z⟩ hz
 rcases q with e | ⟨ks',l'⟩
 ·obtain ⟨he,j,l',⟨hz,h3⟩ | ⟨hz,h3,h4⟩⟩:=hz
  ·cases hz; exact ab ⟨he,j,l',.inl ⟨rfl,h3⟩⟩
  ·cases hz; exact ab ⟨he,j,l',.inr ⟨rfl,h3,h4⟩⟩
 ·obtain ⟨j,l'',hz,h3,h4⟩:=hz
  cases hz; exact ab ⟨j,l'',rfl,rfl,h3,h4⟩
theorem EZ {f:Nat}(ih:Fol f):∀ b l,Fl bX b l (jB (f+1) b l):=by
 intro b l L base hL hlen i nest q h hq
 have hn:=h.2.1
 have hb:=h.2.2.2.1
 rw [jB] at hq
 refine cj ?_
 simp only [bX,aY,Option.bind_some]
 refine ai Bool.false_ne_true ?_
 refine af _ (eQ hL hlen h) ?_
 rintro ⟨z1,z2⟩ ⟨h1,j,h2,h3,h4,h5⟩
 replace h1:z1=_:=h1; subst h1; cases h2
 have tk:=sG (h3.gd hL)
 have t1':=tk.1
 have t2':=tk.2.1
 by_cases k2:(hd b l).fKind=2
 ·
  rw [if_pos k2] at hq
  refine aj k2 (ao _ (wa _ (show (hd b l).fText.length≤1000000000 by omega)) ?_)
  by_cases hz:(uZ (hd b l).fText).2=0
  ·
   rw [if_pos hz] at hq; cases hq
   refine aj hz ?_
   refine af _ (dY hL hlen h3 O) ?_
   rintro ⟨z1,z2⟩ ⟨h1,j,h2,h3,h4,h5⟩
   replace h1:z1=_:=h1; subst h1; cases h2
   exact ao _ (au Z Z) (ab ⟨Z,j,Z,h3⟩)
  ·
   rw [if_neg hz] at hq; cases hq
   exact ai hz (ao _ (au (gH _ _ _ _) Z) (ab ⟨hz,j,l,Z,h3⟩))
 rw [if_neg k2] at hq
 refine ai k2 ?_
 by_cases k3:(hd b l).fKind=3
 ·
  rw [if_pos k3] at hq
  refine aj k3 (af _ (ih.s b l k3 L base hL hlen j nest q h3 hq) ?_)
  rintro ⟨z1,z2⟩ hz
  exact ab hz
 rw [if_neg k3] at hq
 refine ai k3 ?_
 by_cases k1:(hd b l).fKind=1
 ·
  rw [if_pos k1] at hq
  refine aj k1 (af _ (ih.n b l k1 L base hL hlen j nest q h3 hq) ?_)
  rintro ⟨z1,z2⟩ hz
  exact ab hz
 rw [if_neg k1] at hq
 refine ai k1 ?_
 by_cases k4:(hd b l).fKind=4
 ·
  have sg:∀ s,sgB b l s=true↔(hd b l).fText=s:=λ s=>by rw [po]; exact ⟨λ h=>h.2,λ h=>⟨k4,h⟩⟩
  refine aj k4 (af (Out L base nest b q) (cj ?_) (λ z hz=>ab hz))
  simp only [dh]
  refine af _ (eQ hL hlen h3) ?_
  rintro ⟨z1,z2⟩ ⟨h1,j,h2,h3,h4,h5⟩
  replace h1:z1=_:=h1; subst h1; cases h2
  by_cases s1:(hd b l).fText=[40]
  ·
   rw [if_pos ((sg _).2 s1)] at hq
   refine aj s1 ?_
   refine af _ (nC hL hlen h3 O) ?_
   rintro _ ⟨j,rfl,h3⟩
   rcases bN hq with ⟨e,hx,rfl⟩ | ⟨c,l1,hx,hq⟩
   ·
    refine af _ (ih.e true _ L base hL hlen j (nest+1) _ h3 hx) ?_
    rintro ⟨z1,z2⟩ ⟨he,j,l',h2,h3⟩
    cases h2
    refine af _ (fC hL hlen _ he hn hb h3) ?_
    rintro _ ⟨j,l',rfl,h3⟩
    exact ab ⟨he,j,l',Z,h3⟩
   ·
    refine af _ (ih.e true _ L base hL hlen j (nest+1) _ h3 hx) ?_
    rintro ⟨z1,z2⟩ ⟨h1,j,h2,h3⟩
    replace h1:z1=_:=h1; subst h1; cases h2
    rcases bN hq with ⟨e,hx,rfl⟩ | ⟨u,l2,hx,hq⟩
    ·
     refine af _ (ew hL hlen _ hn hb h3 hx) ?_
     rintro _ ⟨he,j,l',rfl,h3⟩
     exact ab ⟨he,j,l',Z,h3⟩
    ·
     refine af _ (ew hL hlen _ hn hb h3 hx) ?_
     rintro _ ⟨j,rfl,h3,h4⟩
     cases hq
     exact ab ⟨Z,j,Z,h3⟩
  rw [if_neg (λ h=>s1 ((sg _).1 h))] at hq
  refine ai s1 ?_
  by_cases s2:(hd b l).fText=[91]
  ·
   rw [if_pos ((sg _).2 s2)] at hq
   refine aj s2 ?_
   have gl:=h3.gl hL hlen (by omega:(hd b l).fKind≠6)
   refine af _ (nC hL hlen h3 O) ?_
   rintro _ ⟨j,rfl,h3⟩
   refine af _ (oN hL hlen _ h3) ?_
   rintro ⟨z1,z2⟩ ⟨h1,j,h2,h3⟩
   replace h1:z1=_:=h1; subst h1; cases h2
   by_cases hw:wdB true (tl b l) [102,111,114]=true
   ·
    rw [if_pos hw] at hq
    refine aj hw (af _ (ih.lo (hd b l).fAt 12 (tl b l) hw (by decide) L base hL hlen j nest b q hn hb h3 hq) ?_)
    rintro ⟨z1,z2⟩ hz
    exact ab hz
   ·
    rw [if_neg hw] at hq
    refine ai hw ?_
    rcases bN hq with ⟨e,hx,rfl⟩ | ⟨ks,l1,hx,hq⟩
    ·
     refine af _ (oL ih _ _ gl L base hL hlen j (nest+1) _ h3 hx) ?_
     rintro ⟨ys,z⟩ ⟨he,j,l',⟨hz,h3⟩ | ⟨hz,h3,hxx⟩⟩
     ·cases hz
      refine af _ (fC hL hlen _ he hn hb h3) ?_
      rintro _ ⟨j,l',rfl,h3⟩
      exact ab ⟨he,j,l',Z,h3⟩
     ·cases hz
      refine af _ (ew hL hlen _ hn hb h3 hxx) ?_
      rintro _ ⟨he,j,l',rfl,h3⟩
      exact ab ⟨he,j,l',Z,h3⟩
    ·
     refine af _ (oL ih _ _ gl L base hL hlen j (nest+1) _ h3 hx) ?_
     rintro ⟨ys,z⟩ ⟨j,l'',hy,hz,h3,hxx⟩
     cases hy; cases hz
     refine af _ (ew hL hlen _ hn hb h3 hxx) ?_
     rintro _ ⟨j,rfl,h3,h4⟩
     cases hq
     exact ab ⟨Z,j,Z,h3⟩
  rw [if_neg (λ h=>s2 ((sg _).1 h))] at hq
  refine ai s2 ?_
  by_cases s3:(hd b l).fText=[123]
  ·
   rw [if_pos ((sg _).2 s3)] at hq
   refine aj s3 ?_
   have gl:=h3.gl hL hlen (by omega:(hd b l).fKind≠6)
   refine af _ (nC hL hlen h3 O) ?_
   rintro _ ⟨j,rfl,h3⟩
   refine af _ (oN hL hlen _ h3) ?_
   rintro ⟨z1,z2⟩ ⟨h1,j,h2,h3⟩
   replace h1:z1=_:=h1; subst h1; cases h2
   by_cases hw:wdB true (tl b l) [102,111,114]=true
   ·
    rw [if_pos hw] at hq
    refine aj hw (af _ (ih.lo (hd b l).fAt 13 (tl b l) hw (by decide) L base hL hlen j nest b q hn hb h3 hq) ?_)
    rintro ⟨z1,z2⟩ hz
    exact ab hz
   ·
    rw [if_neg hw] at hq
    refine ai hw ?_
    rcases bN hq with ⟨e,hx,rfl⟩ | ⟨ks,l1,hx,hq⟩
    ·
     refine af _ (xu ih _ gl L base hL hlen j (nest+1) _ h3 hx) ?_
     rintro ⟨ys,z⟩ ⟨he,j,l',⟨hz,h3⟩ | ⟨hz,h3,hxx⟩⟩
     ·cases hz
      refine af _ (fC hL hlen _ he hn hb h3) ?_
      rintro _ ⟨j,l',rfl,h3⟩
      exact ab ⟨he,j,l',Z,h3⟩
     ·cases hz
      refine af _ (ew hL hlen _ hn hb h3 hxx) ?_
      rintro _ ⟨he,j,l',rfl,h3⟩
      exact ab ⟨he,j,l',Z,h3⟩
    ·
     refine af _ (xu ih _ gl L base hL hlen j (nest+1) _ h3 hx) ?_
     rintro ⟨ys,z⟩ ⟨j,l'',hy,hz,h3,hxx⟩
     cases hy; cases hz
     refine af _ (ew hL hlen _ hn hb h3 hxx) ?_
     rintro _ ⟨j,rfl,h3,h4⟩
     cases hq
     exact ab ⟨Z,j,Z,h3⟩
  rw [if_neg (λ h=>s3 ((sg _).1 h))] at hq; cases hq
  exact ai s3 (ao _ (au (gH _ _ _ _) Z) (ab ⟨(by decide:(2:Int)≠0),j,l,Z,h3⟩))
 ·
  have sn:∀ s,¬ sgB b l s=true:=λ s h=>k4 (po.1 h).1
  rw [if_neg (sn _),if_neg (sn _),if_neg (sn _)] at hq; cases hq
  exact ai k4 (ao _ (au (gH _ _ _ _) Z) (ab ⟨(by decide:(2:Int)≠0),j,l,Z,h3⟩))
theorem EL {f:Nat}(ih:Fol f):∀ b l,(hd b l).fKind=1→Fl du b l (jN (f+1) b l):=by
 intro b l k1 L base hL hlen i nest q h hq
 have hn:=h.2.1
 have hb:=h.2.2.2.1
 rw [jN] at hq
 refine cj ?_
 simp only [du]
 refine af _ (eQ hL hlen h) ?_
 rintro ⟨z1,z2⟩ ⟨h1,j,h2,h3,h4,h5⟩
 replace h1:z1=_:=h1; subst h1; cases h2
 by_cases s1:(hd b l).fText=[110,117,108,108]
 ·
  rw [if_pos s1] at hq; cases hq
  refine aj s1 ?_
  refine af _ (dY hL hlen h3 O) ?_
  rintro ⟨z1,z2⟩ ⟨h1,j,h2,h3,h4,h5⟩
  replace h1:z1=_:=h1; subst h1; cases h2
  exact ao _ (au Z Z) (ab ⟨Z,j,Z,h3⟩)
 rw [if_neg s1] at hq
 refine ai s1 ?_
 by_cases s2:(hd b l).fText=[116,114,117,101]
 ·
  rw [if_pos s2] at hq; cases hq
  refine ao true (aj s2 (ab Z)) (aj Z ?_)
  refine af _ (dY hL hlen h3 O) ?_
  rintro ⟨z1,z2⟩ ⟨h1,j,h2,h3,h4,h5⟩
  replace h1:z1=_:=h1; subst h1; cases h2
  exact ao 1 (aj s2 (ab Z)) (ao _ (au Z Z) (ab ⟨Z,j,Z,h3⟩))
 rw [if_neg s2] at hq
 by_cases s3:(hd b l).fText=[102,97,108,115,101]
 ·
  rw [if_pos s3] at hq; cases hq
  refine ao true (ai s2 (ab (decide_eq_true s3))) (aj Z ?_)
  refine af _ (dY hL hlen h3 O) ?_
  rintro ⟨z1,z2⟩ ⟨h1,j,h2,h3,h4,h5⟩
  replace h1:z1=_:=h1; subst h1; cases h2
  exact ao 0 (ai s2 (ab Z)) (ao _ (au Z Z) (ab ⟨Z,j,Z,h3⟩))
 rw [if_neg s3] at hq
 refine ao false (ai s2 (ab (decide_eq_false s3))) (ai Bool.false_ne_true (ao _ (au (ss _) Z) ?_))
 by_cases s4:pw (hd b l).fText=true
 ·
  rw [if_pos s4] at hq; cases hq
  exact aj s4 (ao _ (au (gH _ _ _ _) Z) (ab ⟨(by decide:(2:Int)≠0),j,l,Z,h3⟩))
 rw [if_neg s4] at hq
 refine ai s4 ?_
 refine af _ (dY hL hlen h3 O) ?_
 rintro ⟨z1,z2⟩ ⟨h1,j,h2,h3,h4,h5⟩
 replace h1:z1=_:=h1; subst h1; cases h2
 refine af _ (fo hL hlen _ h3) ?_
 rintro ⟨z1,z2⟩ ⟨h1,j,h2,h3⟩
 replace h1:z1=_:=h1; subst h1; cases h2
 by_cases s5:sgB b (tl b l) [40]=true
 ·
  rw [if_pos s5] at hq
  refine ai (by simp [s5]) ?_
  have gl:=h3.gl hL hlen (sg6 s5)
  refine af _ (nC hL hlen h3 (sg6 s5)) ?_
  rintro _ ⟨j,rfl,h3⟩
  rcases bN hq with ⟨e,hx,rfl⟩ | ⟨ks,l1,hx,hq⟩
  ·
   refine af _ (oL ih _ _ gl L base hL hlen j (nest+1) _ h3 hx) ?_
   rintro ⟨ys,z⟩ ⟨he,j,l',⟨hz,h3⟩ | ⟨hz,h3,hxx⟩⟩
   ·cases hz
    refine af _ (fC hL hlen _ he hn hb h3) ?_
    rintro _ ⟨j,l',rfl,h3⟩
    exact ab ⟨he,j,l',Z,h3⟩
   ·cases hz
    refine af _ (ew hL hlen _ hn hb h3 hxx) ?_
    rintro _ ⟨he,j,l',rfl,h3⟩
    exact ab ⟨he,j,l',Z,h3⟩
  ·
   refine af _ (oL ih _ _ gl L base hL hlen j (nest+1) _ h3 hx) ?_
   rintro ⟨ys,z⟩ ⟨j,l'',hy,hz,h3,hxx⟩
   cases hy; cases hz
   refine af _ (ew hL hlen _ hn hb h3 hxx) ?_
   rintro _ ⟨j,rfl,h3,h4⟩
   cases hq
   exact ab ⟨Z,j,Z,h3⟩
 ·
  rw [if_neg s5] at hq; cases hq
  exact aj (by simpa using s5) (ab ⟨Z,j,Z,h3⟩)
theorem E5 {f:Nat}(ih:Fol f):∀ (en:Bytes) (l:List ae) (out:List ac),Gd l→out.length+l.length≤1000000000→∀ (L:List ae) (base:Int),Gd (L.map (mvT base))→L.length≤1000000000→∀ (i:Nat) (nest:Int) (q:PE⊕(List ac×List ae)),Pos L base i nest true l→ga (f+1) en l=some q →
  Ev2 (λ n m=>bV n (aA n) en m out L (i:Int) nest base 0 0 []) (BE L base nest en out q):=by
 intro en l out hg hsz L base hL hlen i nest q h hq
 have gl:Gl l:=⟨hg,by omega⟩
 have gt:=gll (b:=true) gl
 rw [ga] at hq
 refine aV ?_
 simp only [bV,aY,Option.bind_some]
 refine af (λ t=>∃ j:Nat,t=(!sgB true l en,L,(j:Int),nest,base,0,0,[])∧Pos L base j nest true l) ?_ ?_
 ·
  refine aj Z ?_
  refine af _ (fo hL hlen _ h) ?_
  rintro ⟨z1,z2⟩ ⟨h1,j,h2,h3⟩
  replace h1:z1=_:=h1; subst h1; cases h2
  exact ab ⟨j,Z,h3⟩
 rintro _ ⟨j,rfl,h3⟩
 by_cases hs:sgB true l en=true
 ·
  rw [if_pos hs] at hq; cases hq
  refine ai (by simp [hs]) (ab ⟨j,l,by rw [List.append_nil],h3,?_⟩)
  unfold fJ; rw [if_pos hs]; rfl
 rw [if_neg hs] at hq
 refine aj (by simpa using hs) ?_
 rcases bN hq with ⟨e,hx,rfl⟩ | ⟨x,l1,hx,hq⟩
 ·
  refine af _ (ih.e true l L base hL hlen j nest _ h3 hx) ?_
  rintro ⟨z1,z2⟩ ⟨he,j,l',h2,h3⟩
  cases h2
  refine ar (by simp only [List.length_cons,List.length_nil,List.length_append]; omega) ?_
  refine af _ (jd hL hlen _ he h3) ?_
  rintro _ ⟨j,rfl,h3⟩
  exact aj Z (ab ⟨he,j,l',.inl ⟨Z,h3⟩⟩)
 ·
  refine af _ (ih.e true l L base hL hlen j nest _ h3 hx) ?_
  rintro ⟨z1,z2⟩ ⟨h1,j,h2,h3⟩
  replace h1:z1=_:=h1; subst h1; cases h2
  have f1:=(fct f).e true l gl _ hx
  refine ar (by simp only [List.length_cons,List.length_nil,List.length_append]; omega) ?_
  refine af _ (fo hL hlen _ h3) ?_
  rintro ⟨z1,z2⟩ ⟨h1,j,h2,h3⟩
  replace h1:z1=_:=h1; subst h1; cases h2
  by_cases hc:sgB true l1 [44]=true
  ·
   rw [if_pos hc] at hq
   refine ai (by simp [hc]) ?_
   have b1:=f1.2.1.length_le
   have b2:=gll (b:=true) f1.2.2
   have g2:=glt f1.2.2 hc
   refine af _ (dY hL hlen h3 (sg6 hc)) ?_
   rintro ⟨z1,z2⟩ ⟨h1,j,h2,h3,h4,h5⟩
   replace h1:z1=_:=h1; subst h1; cases h2
   rcases bN hq with ⟨e,hy,rfl⟩ | ⟨ks,l2,hy,hq⟩
   ·
    exact cA (ih.i en _ (out++[_]) g2.1 (by simp only [List.length_append,List.length_cons,List.length_nil]; omega) L base hL hlen j nest _ h3 hy) (λ r hr=>hr)
   ·
    cases hq
    refine cA (ih.i en _ (out++[_]) g2.1 (by simp only [List.length_append,List.length_cons,List.length_nil]; omega) L base hL hlen j nest _ h3 hy) ?_
    rintro r ⟨j,l'',rfl,h3,hn⟩
    exact ⟨j,l'',by rw [List.append_assoc]; rfl,h3,hn⟩
  ·
   rw [if_neg hc] at hq
   refine aj (by simpa using hc) ?_
   rcases bN hq with ⟨e,hy,rfl⟩ | ⟨u,l2,hy,hq⟩
   ·exact ab ⟨yj hy,j,l1,.inr ⟨Z,h3,hy⟩⟩
   ·cases hq
    exact ab ⟨j,l1,Z,h3,hy⟩
theorem ES {f:Nat}(ih:Fol f):∀ (l:List ae) (out:List ac),Gl l→out.length+2*l.length≤3000000000→∀ (L:List ae) (base:Int),Gd (L.map (mvT base))→L.length≤1000000000→∀ (i:Nat) (nest:Int) (q:PE⊕(List ac×List ae)),Pos L base i nest true l→lR (f+1) l=some q →
  Ev2 (λ n m=>bC n (aA n) (cu n) m out L (i:Int) nest base 0 0 []) (BE L base nest [125] out q):=by
 intro l out gl hsz L base hL hlen i nest q h hq
 have hgn:=o0 (h.gd hL)
 rw [lR] at hq
 refine aV ?_
 simp only [bC,aY,Option.bind_some]
 refine af (λ t=>∃ j:Nat,t=(!sgB true l [125],L,(j:Int),nest,base,0,0,[])∧Pos L base j nest true l) ?_ ?_
 ·
  refine aj Z ?_
  refine af _ (fo hL hlen _ h) ?_
  rintro ⟨z1,z2⟩ ⟨h1,j,h2,h3⟩
  replace h1:z1=_:=h1; subst h1; cases h2
  exact ab ⟨j,Z,h3⟩
 rintro _ ⟨j,rfl,h3⟩
 by_cases hs:sgB true l [125]=true
 ·
  rw [if_pos hs] at hq; cases hq
  refine ai (by simp [hs]) (ab ⟨j,l,by rw [List.append_nil],h3,?_⟩)
  unfold fJ; rw [if_pos hs]; rfl
 rw [if_neg hs] at hq
 refine aj (by simpa using hs) ?_
 rcases bN hq with ⟨e,hx,rfl⟩ | ⟨x,l1,hx,hq⟩
 ·
  refine af _ (ih.k l L base hL hlen j nest _ h3 hx) ?_
  rintro ⟨z1,z2⟩ ⟨he,j,l',h2,h3⟩
  cases h2
  refine ar (by simp only [List.length_cons,List.length_nil,List.length_append]; omega) ?_
  refine af _ (i6 hL hlen _ he h3) ?_
  rintro _ ⟨j,l',rfl,h3⟩
  refine af _ (gp hL hlen he h3) ?_
  rintro ⟨z1,z2⟩ ⟨j,l',h2,h3⟩
  cases h2
  refine ar (by simp only [List.length_cons,List.length_nil,List.length_append]; omega) ?_
  refine af _ (jd hL hlen _ he h3) ?_
  rintro _ ⟨j,rfl,h3⟩
  exact aj Z (ab ⟨he,j,l',.inl ⟨Z,h3⟩⟩)
 ·
  refine af _ (ih.k l L base hL hlen j nest _ h3 hx) ?_
  rintro ⟨z1,z2⟩ ⟨h1,j,h2,h3⟩
  replace h1:z1=_:=h1; subst h1; cases h2
  refine ar (by simp only [List.length_cons,List.length_nil,List.length_append]; omega) ?_
  rcases bN hq with ⟨e,hy,rfl⟩ | ⟨u,l2,hy,hq⟩
  ·
   refine af _ (jk hL hlen _ h3 hy) ?_
   rintro _ ⟨he,j,l',rfl,h3⟩
   refine af _ (gp hL hlen he h3) ?_
   rintro ⟨z1,z2⟩ ⟨j,l',h2,h3⟩
   cases h2
   refine ar (by simp only [List.length_cons,List.length_nil,List.length_append]; omega) ?_
   refine af _ (jd hL hlen _ he h3) ?_
   rintro _ ⟨j,rfl,h3⟩
   exact aj Z (ab ⟨he,j,l',.inl ⟨Z,h3⟩⟩)
  ·
   refine af _ (jk hL hlen _ h3 hy) ?_
   rintro _ ⟨j,rfl,h3,h4⟩
   rcases bN hq with ⟨e,hv,rfl⟩ | ⟨y,l3,hv,hq⟩
   ·
    refine af _ (ih.e true l2 L base hL hlen j nest _ h3 hv) ?_
    rintro ⟨z1,z2⟩ ⟨he,j,l',h2,h3⟩
    cases h2
    refine ar (by simp only [List.length_cons,List.length_nil,List.length_append]; omega) ?_
    refine af _ (jd hL hlen _ he h3) ?_
    rintro _ ⟨j,rfl,h3⟩
    exact aj Z (ab ⟨he,j,l',.inl ⟨Z,h3⟩⟩)
   ·
    refine af _ (ih.e true l2 L base hL hlen j nest _ h3 hv) ?_
    rintro ⟨z1,z2⟩ ⟨h1,j,h2,h3⟩
    replace h1:z1=_:=h1; subst h1; cases h2
    refine ar (by simp only [List.length_cons,List.length_nil,List.length_append]; omega) ?_
    refine af _ (fo hL hlen _ h3) ?_
    rintro ⟨z1,z2⟩ ⟨h1,j,h2,h3⟩
    replace h1:z1=_:=h1; subst h1; cases h2
    by_cases hc:sgB true l3 [44]=true
    ·
     rw [if_pos hc] at hq
     refine ai (by simp [hc]) ?_
     have gt:=gll (b:=true) gl
     have f1:=(fct f).k l gl _ hx
     have f2:=cD (b:=true) (s:=[61]) f1.2.2 _ hy
     have f3:=(fct f).e true l2 f2.2.2 _ hv
     have b1:=f1.2.1.length_le
     have b2:=(f2.2.1.trans (tlS true l1)).length_le
     have b3:=(f3.2.1.trans (tlS true l2)).length_le
     have b4:=gll (b:=true) f3.2.2
     have g2:=glt f3.2.2 hc
     refine af _ (dY hL hlen h3 (sg6 hc)) ?_
     rintro ⟨z1,z2⟩ ⟨h1,j,h2,h3,h4,h5⟩
     replace h1:z1=_:=h1; subst h1; cases h2
     rcases bN hq with ⟨e,hr,rfl⟩ | ⟨ks,l4,hr,hq⟩
     ·
      exact cA (ih.t _ ((out++[_])++[_]) g2 (by simp only [List.length_append,List.length_cons,List.length_nil]; omega) L base hL hlen j nest _ h3 hr) (λ r hr=>hr)
     ·
      cases hq
      refine cA (ih.t _ ((out++[_])++[_]) g2 (by simp only [List.length_append,List.length_cons,List.length_nil]; omega) L base hL hlen j nest _ h3 hr) ?_
      rintro r ⟨j,l'',rfl,h3,hn⟩
      exact ⟨j,l'',by rw [List.append_assoc,List.append_assoc]; rfl,h3,hn⟩
    ·
     rw [if_neg hc] at hq
     refine aj (by simpa using hc) ?_
     rcases bN hq with ⟨e,hr,rfl⟩ | ⟨u,l4,hr,hq⟩
     ·exact ab ⟨yj hr,j,l3,.inr ⟨Z,h3,hr⟩⟩
     ·cases hq
      exact ab ⟨j,l3,by rw [List.append_assoc]; rfl,h3,hr⟩
theorem EG {f:Nat}(ih:Fol f):∀ l,Fl cu true l (jO (f+1) l):=by
 intro l L base hL hlen i nest q h hq
 have hn:=h.2.1
 have hb:=h.2.2.2.1
 rw [jO] at hq
 refine cj ?_
 simp only [cu]
 refine af _ (eQ hL hlen h) ?_
 rintro ⟨z1,z2⟩ ⟨h1,j,h2,h3,h4,h5⟩
 replace h1:z1=_:=h1; subst h1; cases h2
 by_cases k1:(hd true l).fKind=1
 ·
  rw [if_pos k1] at hq; cases hq
  refine aj k1 ?_
  refine af _ (dY hL hlen h3 O) ?_
  rintro ⟨z1,z2⟩ ⟨h1,j,h2,h3,h4,h5⟩
  replace h1:z1=_:=h1; subst h1; cases h2
  exact ao _ (au Z Z) (ab ⟨Z,j,Z,h3⟩)
 rw [if_neg k1] at hq
 refine ai k1 ?_
 by_cases k3:(hd true l).fKind=3
 ·
  rw [if_pos k3] at hq
  refine aj k3 (af _ (ih.s true l k3 L base hL hlen j nest q h3 hq) ?_)
  rintro ⟨z1,z2⟩ hz
  exact ab hz
 rw [if_neg k3] at hq
 refine ai k3 ?_
 refine af _ (fo hL hlen _ h3) ?_
 rintro ⟨z1,z2⟩ ⟨h1,j,h2,h3⟩
 replace h1:z1=_:=h1; subst h1; cases h2
 by_cases s1:sgB true l [40]=true
 ·
  rw [if_pos s1] at hq
  refine aj s1 ?_
  refine af _ (nC hL hlen h3 (sg6 s1)) ?_
  rintro _ ⟨j,rfl,h3⟩
  rcases bN hq with ⟨e,hx,rfl⟩ | ⟨c,l1,hx,hq⟩
  ·
   refine af _ (ih.e true _ L base hL hlen j (nest+1) _ h3 hx) ?_
   rintro ⟨z1,z2⟩ ⟨he,j,l',h2,h3⟩
   cases h2
   refine af _ (fC hL hlen _ he hn hb h3) ?_
   rintro _ ⟨j,l',rfl,h3⟩
   exact ab ⟨he,j,l',Z,h3⟩
  ·
   refine af _ (ih.e true _ L base hL hlen j (nest+1) _ h3 hx) ?_
   rintro ⟨z1,z2⟩ ⟨h1,j,h2,h3⟩
   replace h1:z1=_:=h1; subst h1; cases h2
   rcases bN hq with ⟨e,hx,rfl⟩ | ⟨u,l2,hx,hq⟩
   ·
    refine af _ (ew hL hlen _ hn hb h3 hx) ?_
    rintro _ ⟨he,j,l',rfl,h3⟩
    exact ab ⟨he,j,l',Z,h3⟩
   ·
    refine af _ (ew hL hlen _ hn hb h3 hx) ?_
    rintro _ ⟨j,rfl,h3,h4⟩
    cases hq
    exact ab ⟨Z,j,Z,h3⟩
 ·
  rw [if_neg s1] at hq; cases hq
  exact ai s1 (ao _ (au (gH _ _ _ _) Z) (ab ⟨(by decide:(2:Int)≠0),j,l,Z,h3⟩))
theorem D8 {f:Nat}(ih:Fol f):∀ (a k:Int) l,wdB true l [102,111,114]=true→k=12∨k=13→FlC (λ n p=>cT n p a k) l (iX (f+1) a k (tl true l)):=by
 intro a k l hw hk L base hL hlen i nest b q hn hb h hq
 rw [iX] at hq
 refine cj ?_
 simp only [cT]
 refine af _ (dY hL hlen h (wd6 hw)) ?_
 rintro ⟨z1,z2⟩ ⟨h1,j,h2,h3,h4,h5⟩
 replace h1:z1=_:=h1; subst h1; cases h2
 rcases bN hq with ⟨e,hx,rfl⟩ | ⟨v,l1,hx,hq⟩
 ·
  refine af _ (kF hL hlen h3 hx) ?_
  rintro ⟨z1,z2⟩ ⟨he,j,l',h2,h3⟩
  cases h2
  refine af (λ t=>∃ (w1 w2:Bytes) (j:Nat) (l':List ae),t=(w1,w2,L,(j:Int),nest+1,base,e.1,e.2,[])∧Pos L base j (nest+1) true l') ?_ ?_
  ·refine af _ (jd hL hlen _ he h3) ?_
   rintro _ ⟨j,rfl,h3⟩
   exact ai Bool.false_ne_true (ab ⟨_,_,j,_,Z,h3⟩)
  rintro _ ⟨w1,w2,j,l',rfl,h3⟩
  refine af _ (tK hL hlen _ he h3) ?_
  rintro _ ⟨j,l',rfl,h3⟩
  refine af _ (gp hL hlen he h3) ?_
  rintro ⟨z1,z2⟩ ⟨j,l',h2,h3⟩
  cases h2
  refine ar (by simp only [List.length_cons,List.length_nil,List.length_append]; omega) ?_
  refine af _ (i6 hL hlen _ he h3) ?_
  rintro _ ⟨j,l',rfl,h3⟩
  refine af _ (gp hL hlen he h3) ?_
  rintro ⟨z1,z2⟩ ⟨j,l',h2,h3⟩
  cases h2
  refine ar (by simp only [List.length_cons,List.length_nil,List.length_append]; omega) ?_
  refine af (λ t=>∃ (en:Bytes) (ks:List ac) (j:Nat) (l':List ae),t=(en,ks,L,(j:Int),nest+1,base,e.1,e.2,[])∧ks.length≤3∧Pos L base j (nest+1) true l') ?_ ?_
  ·refine aP (λ hk=>?_) (λ hk=>ab ⟨_,_,j,l',Z,by simp,h3⟩)
   refine af _ (i6 hL hlen _ he h3) ?_
   rintro _ ⟨j,l',rfl,h3⟩
   refine af _ (gp hL hlen he h3) ?_
   rintro ⟨z1,z2⟩ ⟨j,l',h2,h3⟩
   cases h2
   refine ar (by simp only [List.length_cons,List.length_nil,List.length_append]; omega) ?_
   exact ab ⟨_,_,j,l',Z,by simp,h3⟩
  rintro _ ⟨en,ks,j,l',rfl,hks,h3⟩
  refine af (λ t=>∃ (ks:List ac) (j:Nat) (l':List ae),t=(ks,L,(j:Int),nest+1,base,e.1,e.2,[])∧Pos L base j (nest+1) true l') ?_ ?_
  ·refine af _ (mA hL hlen _ he h3) ?_
   rintro _ ⟨j,rfl,h3⟩
   exact ai Bool.false_ne_true (ab ⟨_,j,_,Z,h3⟩)
  rintro _ ⟨ks,j,l',rfl,h3⟩
  refine af _ (fC hL hlen _ he hn hb h3) ?_
  rintro _ ⟨j,l',rfl,h3⟩
  exact ab ⟨he,j,l',Z,h3⟩
 ·
  refine af _ (kF hL hlen h3 hx) ?_
  rintro ⟨z1,z2⟩ ⟨h1,j,h2,h3⟩
  replace h1:z1=_:=h1; subst h1; cases h2
  rcases bN hq with ⟨e,hy,rfl⟩ | ⟨nk,l2,hy,hq⟩
  ·
   refine af (λ t=>e.1≠0∧∃ (w1 w2:Bytes) (j:Nat) (l':List ae),t=(w1,w2,L,(j:Int),nest+1,base,e.1,e.2,[])∧Pos L base j (nest+1) true l') ?_ ?_
   ·
    refine af _ (fo hL hlen _ h3) ?_
    rintro ⟨z1,z2⟩ ⟨h1,j,h2,h3⟩
    replace h1:z1=_:=h1; subst h1; cases h2
    by_cases hc:sgB true l1 [44]=true
    ·
     rw [if_pos hc] at hy
     refine aj hc ?_
     refine af _ (dY hL hlen h3 (sg6 hc)) ?_
     rintro ⟨z1,z2⟩ ⟨h1,j,h2,h3,h4,h5⟩
     replace h1:z1=_:=h1; subst h1; cases h2
     rcases bN hy with ⟨e,hz,hee⟩ | ⟨v2,l3,hz,hee⟩
     ·cases hee
      refine af _ (kF hL hlen h3 hz) ?_
      rintro ⟨z1,z2⟩ ⟨he,j,l',h2,h3⟩
      cases h2
      exact ab ⟨he,_,_,j,l',Z,h3⟩
     ·cases hee
    ·
     rw [if_neg hc] at hy; cases hy
   rintro _ ⟨he,w1,w2,j,l',rfl,h3⟩
   refine af _ (tK hL hlen _ he h3) ?_
   rintro _ ⟨j,l',rfl,h3⟩
   refine af _ (gp hL hlen he h3) ?_
   rintro ⟨z1,z2⟩ ⟨j,l',h2,h3⟩
   cases h2
   refine ar (by simp only [List.length_cons,List.length_nil,List.length_append]; omega) ?_
   refine af _ (i6 hL hlen _ he h3) ?_
   rintro _ ⟨j,l',rfl,h3⟩
   refine af _ (gp hL hlen he h3) ?_
   rintro ⟨z1,z2⟩ ⟨j,l',h2,h3⟩
   cases h2
   refine ar (by simp only [List.length_cons,List.length_nil,List.length_append]; omega) ?_
   refine af (λ t=>∃ (en:Bytes) (ks:List ac) (j:Nat) (l':List ae),t=(en,ks,L,(j:Int),nest+1,base,e.1,e.2,[])∧ks.length≤3∧Pos L base j (nest+1) true l') ?_ ?_
   ·refine aP (λ hk=>?_) (λ hk=>ab ⟨_,_,j,l',Z,by simp,h3⟩)
    refine af _ (i6 hL hlen _ he h3) ?_
    rintro _ ⟨j,l',rfl,h3⟩
    refine af _ (gp hL hlen he h3) ?_
    rintro ⟨z1,z2⟩ ⟨j,l',h2,h3⟩
    cases h2
    refine ar (by simp only [List.length_cons,List.length_nil,List.length_append]; omega) ?_
    exact ab ⟨_,_,j,l',Z,by simp,h3⟩
   rintro _ ⟨en,ks,j,l',rfl,hks,h3⟩
   refine af (λ t=>∃ (ks:List ac) (j:Nat) (l':List ae),t=(ks,L,(j:Int),nest+1,base,e.1,e.2,[])∧Pos L base j (nest+1) true l') ?_ ?_
   ·refine af _ (mA hL hlen _ he h3) ?_
    rintro _ ⟨j,rfl,h3⟩
    exact ai Bool.false_ne_true (ab ⟨_,j,_,Z,h3⟩)
   rintro _ ⟨ks,j,l',rfl,h3⟩
   refine af _ (fC hL hlen _ he hn hb h3) ?_
   rintro _ ⟨j,l',rfl,h3⟩
   exact ab ⟨he,j,l',Z,h3⟩
  ·
   refine af (λ t=>∃ (j:Nat),t=(nk.1,nk.2,L,(j:Int),nest+1,base,0,0,[])∧Pos L base j (nest+1) true l2) ?_ ?_
   ·
    refine af _ (fo hL hlen _ h3) ?_
    rintro ⟨z1,z2⟩ ⟨h1,j,h2,h3⟩
    replace h1:z1=_:=h1; subst h1; cases h2
    by_cases hc:sgB true l1 [44]=true
    ·
     rw [if_pos hc] at hy
     refine aj hc ?_
     refine af _ (dY hL hlen h3 (sg6 hc)) ?_
     rintro ⟨z1,z2⟩ ⟨h1,j,h2,h3,h4,h5⟩
     replace h1:z1=_:=h1; subst h1; cases h2
     rcases bN hy with ⟨e,hz,hee⟩ | ⟨v2,l3,hz,hee⟩
     ·cases hee
     ·
      refine af _ (kF hL hlen h3 hz) ?_
      rintro ⟨z1,z2⟩ ⟨h1,j,h2,h3⟩
      replace h1:z1=_:=h1; subst h1; cases h2
      cases hee
      exact ab ⟨j,Z,h3⟩
    ·
     rw [if_neg hc] at hy; cases hy
     exact ai hc (ab ⟨j,Z,h3⟩)
   rintro _ ⟨j,rfl,h3⟩
   rcases bN hq with ⟨e,hx,rfl⟩ | ⟨u,l3,hx,hq⟩
   ·
    refine af _ (rR hL hlen _ h3 hx) ?_
    rintro _ ⟨he,j,l',rfl,h3⟩
    refine af _ (gp hL hlen he h3) ?_
    rintro ⟨z1,z2⟩ ⟨j,l',h2,h3⟩
    cases h2
    refine ar (by simp only [List.length_cons,List.length_nil,List.length_append]; omega) ?_
    refine af _ (i6 hL hlen _ he h3) ?_
    rintro _ ⟨j,l',rfl,h3⟩
    refine af _ (gp hL hlen he h3) ?_
    rintro ⟨z1,z2⟩ ⟨j,l',h2,h3⟩
    cases h2
    refine ar (by simp only [List.length_cons,List.length_nil,List.length_append]; omega) ?_
    refine af (λ t=>∃ (en:Bytes) (ks:List ac) (j:Nat) (l':List ae),t=(en,ks,L,(j:Int),nest+1,base,e.1,e.2,[])∧ks.length≤3∧Pos L base j (nest+1) true l') ?_ ?_
    ·refine aP (λ hk=>?_) (λ hk=>ab ⟨_,_,j,l',Z,by simp,h3⟩)
     refine af _ (i6 hL hlen _ he h3) ?_
     rintro _ ⟨j,l',rfl,h3⟩
     refine af _ (gp hL hlen he h3) ?_
     rintro ⟨z1,z2⟩ ⟨j,l',h2,h3⟩
     cases h2
     refine ar (by simp only [List.length_cons,List.length_nil,List.length_append]; omega) ?_
     exact ab ⟨_,_,j,l',Z,by simp,h3⟩
    rintro _ ⟨en,ks,j,l',rfl,hks,h3⟩
    refine af (λ t=>∃ (ks:List ac) (j:Nat) (l':List ae),t=(ks,L,(j:Int),nest+1,base,e.1,e.2,[])∧Pos L base j (nest+1) true l') ?_ ?_
    ·refine af _ (mA hL hlen _ he h3) ?_
     rintro _ ⟨j,rfl,h3⟩
     exact ai Bool.false_ne_true (ab ⟨_,j,_,Z,h3⟩)
    rintro _ ⟨ks,j,l',rfl,h3⟩
    refine af _ (fC hL hlen _ he hn hb h3) ?_
    rintro _ ⟨j,l',rfl,h3⟩
    exact ab ⟨he,j,l',Z,h3⟩
   ·
    refine af _ (rR hL hlen _ h3 hx) ?_
    rintro _ ⟨j,rfl,h3,h4⟩
    rcases bN hq with ⟨e,hx,rfl⟩ | ⟨x,l4,hx,hq⟩
    ·
     refine af _ (ih.e true l3 L base hL hlen j (nest+1) _ h3 hx) ?_
     rintro ⟨z1,z2⟩ ⟨he,j,l',h2,h3⟩
     cases h2
     refine ar (by simp only [List.length_cons,List.length_nil,List.length_append]; omega) ?_
     refine af _ (i6 hL hlen _ he h3) ?_
     rintro _ ⟨j,l',rfl,h3⟩
     refine af _ (gp hL hlen he h3) ?_
     rintro ⟨z1,z2⟩ ⟨j,l',h2,h3⟩
     cases h2
     refine ar (by simp only [List.length_cons,List.length_nil,List.length_append]; omega) ?_
     refine af (λ t=>∃ (en:Bytes) (ks:List ac) (j:Nat) (l':List ae),t=(en,ks,L,(j:Int),nest+1,base,e.1,e.2,[])∧ks.length≤3∧Pos L base j (nest+1) true l') ?_ ?_
     ·refine aP (λ hk=>?_) (λ hk=>ab ⟨_,_,j,l',Z,by simp,h3⟩)
      refine af _ (i6 hL hlen _ he h3) ?_
      rintro _ ⟨j,l',rfl,h3⟩
      refine af _ (gp hL hlen he h3) ?_
      rintro ⟨z1,z2⟩ ⟨j,l',h2,h3⟩
      cases h2
      refine ar (by simp only [List.length_cons,List.length_nil,List.length_append]; omega) ?_
      exact ab ⟨_,_,j,l',Z,by simp,h3⟩
     rintro _ ⟨en,ks,j,l',rfl,hks,h3⟩
     refine af (λ t=>∃ (ks:List ac) (j:Nat) (l':List ae),t=(ks,L,(j:Int),nest+1,base,e.1,e.2,[])∧Pos L base j (nest+1) true l') ?_ ?_
     ·refine af _ (mA hL hlen _ he h3) ?_
      rintro _ ⟨j,rfl,h3⟩
      exact ai Bool.false_ne_true (ab ⟨_,j,_,Z,h3⟩)
     rintro _ ⟨ks,j,l',rfl,h3⟩
     refine af _ (fC hL hlen _ he hn hb h3) ?_
     rintro _ ⟨j,l',rfl,h3⟩
     exact ab ⟨he,j,l',Z,h3⟩
    ·
     refine af _ (ih.e true l3 L base hL hlen j (nest+1) _ h3 hx) ?_
     rintro ⟨z1,z2⟩ ⟨h1,j,h2,h3⟩
     replace h1:z1=_:=h1; subst h1; cases h2
     refine ar (by simp only [List.length_cons,List.length_nil,List.length_append]; omega) ?_
     rcases bN hq with ⟨e,hx,rfl⟩ | ⟨u,l5,hx,hq⟩
     ·
      refine af _ (jk hL hlen _ h3 hx) ?_
      rintro _ ⟨he,j,l',rfl,h3⟩
      refine af _ (gp hL hlen he h3) ?_
      rintro ⟨z1,z2⟩ ⟨j,l',h2,h3⟩
      cases h2
      refine ar (by simp only [List.length_cons,List.length_nil,List.length_append]; omega) ?_
      refine af (λ t=>∃ (en:Bytes) (ks:List ac) (j:Nat) (l':List ae),t=(en,ks,L,(j:Int),nest+1,base,e.1,e.2,[])∧ks.length≤3∧Pos L base j (nest+1) true l') ?_ ?_
      ·refine aP (λ hk=>?_) (λ hk=>ab ⟨_,_,j,l',Z,by simp,h3⟩)
       refine af _ (i6 hL hlen _ he h3) ?_
       rintro _ ⟨j,l',rfl,h3⟩
       refine af _ (gp hL hlen he h3) ?_
       rintro ⟨z1,z2⟩ ⟨j,l',h2,h3⟩
       cases h2
       refine ar (by simp only [List.length_cons,List.length_nil,List.length_append]; omega) ?_
       exact ab ⟨_,_,j,l',Z,by simp,h3⟩
      rintro _ ⟨en,ks,j,l',rfl,hks,h3⟩
      refine af (λ t=>∃ (ks:List ac) (j:Nat) (l':List ae),t=(ks,L,(j:Int),nest+1,base,e.1,e.2,[])∧Pos L base j (nest+1) true l') ?_ ?_
      ·refine af _ (mA hL hlen _ he h3) ?_
       rintro _ ⟨j,rfl,h3⟩
       exact ai Bool.false_ne_true (ab ⟨_,j,_,Z,h3⟩)
      rintro _ ⟨ks,j,l',rfl,h3⟩
      refine af _ (fC hL hlen _ he hn hb h3) ?_
      rintro _ ⟨j,l',rfl,h3⟩
      exact ab ⟨he,j,l',Z,h3⟩
     ·
      refine af _ (jk hL hlen _ h3 hx) ?_
      rintro _ ⟨j,rfl,h3,h4⟩
      rcases bN hq with ⟨e,hx,rfl⟩ | ⟨c,l6,hx,hq⟩
      ·
       refine af _ (ih.e true l5 L base hL hlen j (nest+1) _ h3 hx) ?_
       rintro ⟨z1,z2⟩ ⟨he,j,l',h2,h3⟩
       cases h2
       refine ar (by simp only [List.length_cons,List.length_nil,List.length_append]; omega) ?_
       refine af (λ t=>∃ (en:Bytes) (ks:List ac) (j:Nat) (l':List ae),t=(en,ks,L,(j:Int),nest+1,base,e.1,e.2,[])∧ks.length≤3∧Pos L base j (nest+1) true l') ?_ ?_
       ·refine aP (λ hk=>?_) (λ hk=>ab ⟨_,_,j,l',Z,by simp,h3⟩)
        refine af _ (i6 hL hlen _ he h3) ?_
        rintro _ ⟨j,l',rfl,h3⟩
        refine af _ (gp hL hlen he h3) ?_
        rintro ⟨z1,z2⟩ ⟨j,l',h2,h3⟩
        cases h2
        refine ar (by simp only [List.length_cons,List.length_nil,List.length_append]; omega) ?_
        exact ab ⟨_,_,j,l',Z,by simp,h3⟩
       rintro _ ⟨en,ks,j,l',rfl,hks,h3⟩
       refine af (λ t=>∃ (ks:List ac) (j:Nat) (l':List ae),t=(ks,L,(j:Int),nest+1,base,e.1,e.2,[])∧Pos L base j (nest+1) true l') ?_ ?_
       ·refine af _ (mA hL hlen _ he h3) ?_
        rintro _ ⟨j,rfl,h3⟩
        exact ai Bool.false_ne_true (ab ⟨_,j,_,Z,h3⟩)
       rintro _ ⟨ks,j,l',rfl,h3⟩
       refine af _ (fC hL hlen _ he hn hb h3) ?_
       rintro _ ⟨j,l',rfl,h3⟩
       exact ab ⟨he,j,l',Z,h3⟩
      ·
       refine af _ (ih.e true l5 L base hL hlen j (nest+1) _ h3 hx) ?_
       rintro ⟨z1,z2⟩ ⟨h1,j,h2,h3⟩
       replace h1:z1=_:=h1; subst h1; cases h2
       refine ar (by simp only [List.length_cons,List.length_nil,List.length_append]; omega) ?_
       rcases bN hq with ⟨e,hy,rfl⟩ | ⟨ks,l7,hy,hq⟩
       ·
        refine af (λ t=>e.1≠0∧∃ (en:Bytes) (ks:List ac) (j:Nat) (l':List ae),t=(en,ks,L,(j:Int),nest+1,base,e.1,e.2,[])∧ks.length≤3∧Pos L base j (nest+1) true l') ?_ ?_
        ·refine aP (λ hk=>?_) (λ hk=>?_)
         ·
          rw [if_pos hk] at hy
          rcases bN hy with ⟨e,hz,hee⟩ | ⟨u,l8,hz,hy⟩
          ·cases hee
           refine af _ (jk hL hlen _ h3 hz) ?_
           rintro _ ⟨he,j,l',rfl,h3⟩
           refine af _ (gp hL hlen he h3) ?_
           rintro ⟨z1,z2⟩ ⟨j,l',h2,h3⟩
           cases h2
           refine ar (by simp only [List.length_cons,List.length_nil,List.length_append]; omega) ?_
           exact ab ⟨he,_,_,j,l',Z,by simp,h3⟩
          ·
           refine af _ (jk hL hlen _ h3 hz) ?_
           rintro _ ⟨j,rfl,h3,h4⟩
           rcases bN hy with ⟨e,hz,hee⟩ | ⟨d,l9,hz,hee⟩
           ·cases hee
            refine af _ (ih.e true l8 L base hL hlen j (nest+1) _ h3 hz) ?_
            rintro ⟨z1,z2⟩ ⟨he,j,l',h2,h3⟩
            cases h2
            refine ar (by simp only [List.length_cons,List.length_nil,List.length_append]; omega) ?_
            exact ab ⟨he,_,_,j,l',Z,by simp,h3⟩
           ·cases hee
         ·rw [if_neg hk] at hy; cases hy
        rintro _ ⟨he,en,ks,j,l',rfl,hks,h3⟩
        refine af (λ t=>∃ (ks:List ac) (j:Nat) (l':List ae),t=(ks,L,(j:Int),nest+1,base,e.1,e.2,[])∧Pos L base j (nest+1) true l') ?_ ?_
        ·refine af _ (mA hL hlen _ he h3) ?_
         rintro _ ⟨j,rfl,h3⟩
         exact ai Bool.false_ne_true (ab ⟨_,j,_,Z,h3⟩)
        rintro _ ⟨ks,j,l',rfl,h3⟩
        refine af _ (fC hL hlen _ he hn hb h3) ?_
        rintro _ ⟨j,l',rfl,h3⟩
        exact ab ⟨he,j,l',Z,h3⟩
       ·
        refine af (λ t=>∃ (j:Nat),t=((if k=13 then [125] else [93]:Bytes),ks,L,(j:Int),nest+1,base,0,0,[])∧ks.length≤3∧Pos L base j (nest+1) true l7) ?_ ?_
        ·refine aP (λ hk=>?_) (λ hk=>?_)
         ·
          rw [if_pos hk] at hy
          rcases bN hy with ⟨e,hz,hee⟩ | ⟨u,l8,hz,hy⟩
          ·cases hee
          ·
           refine af _ (jk hL hlen _ h3 hz) ?_
           rintro _ ⟨j,rfl,h3,h4⟩
           rcases bN hy with ⟨e,hz,hee⟩ | ⟨d,l9,hz,hee⟩
           ·cases hee
           ·
            refine af _ (ih.e true l8 L base hL hlen j (nest+1) _ h3 hz) ?_
            rintro ⟨z1,z2⟩ ⟨h1,j,h2,h3⟩
            replace h1:z1=_:=h1; subst h1; cases h2
            refine ar (by simp only [List.length_cons,List.length_nil,List.length_append]; omega) ?_
            cases hee
            exact ab ⟨j,by rw [if_pos hk]; rfl,by simp,h3⟩
         ·rw [if_neg hk] at hy; cases hy
          exact ab ⟨j,by rw [if_neg hk]; rfl,by simp,h3⟩
        rintro _ ⟨j,rfl,hks,h3⟩
        rcases bN hq with ⟨e,hy,rfl⟩ | ⟨ks2,l8,hy,hq⟩
        ·
         refine af (λ t=>e.1≠0∧∃ (ks:List ac) (j:Nat) (l':List ae),t=(ks,L,(j:Int),nest+1,base,e.1,e.2,[])∧Pos L base j (nest+1) true l') ?_ ?_
         ·
          refine af _ (oN hL hlen _ h3) ?_
          rintro ⟨z1,z2⟩ ⟨h1,j,h2,h3⟩
          replace h1:z1=_:=h1; subst h1; cases h2
          by_cases hc:wdB true l7 [105,102]=true
          ·
           rw [if_pos hc] at hy
           refine aj hc ?_
           refine af _ (dY hL hlen h3 (wd6 hc)) ?_
           rintro ⟨z1,z2⟩ ⟨h1,j,h2,h3,h4,h5⟩
           replace h1:z1=_:=h1; subst h1; cases h2
           rcases bN hy with ⟨e,hz,hee⟩ | ⟨d,l9,hz,hee⟩
           ·cases hee
            refine af _ (ih.e true _ L base hL hlen j (nest+1) _ h3 hz) ?_
            rintro ⟨z1,z2⟩ ⟨he,j,l',h2,h3⟩
            cases h2
            refine ar (by simp only [List.length_cons,List.length_nil,List.length_append]; omega) ?_
            exact ab ⟨he,_,j,l',Z,h3⟩
           ·cases hee
          ·
           rw [if_neg hc] at hy; cases hy
         rintro _ ⟨he,ks,j,l',rfl,h3⟩
         refine af _ (fC hL hlen _ he hn hb h3) ?_
         rintro _ ⟨j,l',rfl,h3⟩
         exact ab ⟨he,j,l',Z,h3⟩
        ·
         refine af (λ t=>∃ (j:Nat),t=(ks2,L,(j:Int),nest+1,base,0,0,[])∧Pos L base j (nest+1) true l8) ?_ ?_
         ·
          refine af _ (oN hL hlen _ h3) ?_
          rintro ⟨z1,z2⟩ ⟨h1,j,h2,h3⟩
          replace h1:z1=_:=h1; subst h1; cases h2
          by_cases hc:wdB true l7 [105,102]=true
          ·
           rw [if_pos hc] at hy
           refine aj hc ?_
           refine af _ (dY hL hlen h3 (wd6 hc)) ?_
           rintro ⟨z1,z2⟩ ⟨h1,j,h2,h3,h4,h5⟩
           replace h1:z1=_:=h1; subst h1; cases h2
           rcases bN hy with ⟨e,hz,hee⟩ | ⟨d,l9,hz,hee⟩
           ·cases hee
           ·
            refine af _ (ih.e true _ L base hL hlen j (nest+1) _ h3 hz) ?_
            rintro ⟨z1,z2⟩ ⟨h1,j,h2,h3⟩
            replace h1:z1=_:=h1; subst h1; cases h2
            refine ar (by simp only [List.length_cons,List.length_nil,List.length_append]; omega) ?_
            cases hee
            exact ab ⟨j,Z,h3⟩
          ·
           rw [if_neg hc] at hy; cases hy
           exact ai hc (ab ⟨j,Z,h3⟩)
         rintro _ ⟨j,rfl,h3⟩
         rcases bN hq with ⟨e,hx,rfl⟩ | ⟨u,l9,hx,hq⟩
         ·
          refine af _ (ew hL hlen _ hn hb h3 hx) ?_
          rintro _ ⟨he,j,l',rfl,h3⟩
          exact ab ⟨he,j,l',Z,h3⟩
         ·
          refine af _ (ew hL hlen _ hn hb h3 hx) ?_
          rintro _ ⟨j,rfl,h3,h4⟩
          cases hq
          exact ab ⟨Z,j,Z,h3⟩
theorem EN {f:Nat}(ih:Fol f):∀ b l,(hd b l).fKind=3→Fl cU b l (mY (f+1) b l):=by
 intro b l k3 L base hL hlen i nest q h hq
 rw [mY] at hq
 refine cj ?_
 simp only [cU]
 refine af _ (eQ hL hlen h) ?_
 rintro ⟨z1,z2⟩ ⟨h1,j,h2,h3,h4,h5⟩
 replace h1:z1=_:=h1; subst h1; cases h2
 have tk:=sG (h3.gd hL)
 have t1':=tk.1
 have t2':=tk.2.2.1 k3
 refine ar (aG (by show _≤(hd b l).fAt+1; omega) (by show (hd b l).fAt+1≤_; omega)) ?_
 cases ht:gX f (hd b l).fText ((hd b l).fAt+1) with
 | none=>rw [ht] at hq; cases hq
 | some y =>
  rw [ht] at hq
  have hf:=(fct f).tm _ _ O O  y ht
  refine ao _ (ih.tm (hd b l).fText ((hd b l).fAt+1) y O O  ht) ?_
  rcases y with e | e
  ·cases hq
   exact ai hf (ao _ (au (gH _ _ _ _) Z) (ab ⟨hf,j,l,Z,h3⟩))
  ·cases hq
   refine aj Z ?_
   refine af _ (dY hL hlen h3 O) ?_
   rintro ⟨z1,z2⟩ ⟨h1,j,h2,h3,h4,h5⟩
   replace h1:z1=_:=h1; subst h1; cases h2
   exact ab ⟨Z,j,Z,h3⟩
theorem vw {s:Bytes}{i:Nat}{b:UInt8}{r:Bytes}(h:s.drop i=b::r):s.getD i 0=b∧i < s.length∧s.drop (i+1)=r:=by
 have hi:i < s.length:=by
  rcases Nat.lt_or_ge i s.length with q | q
  ·exact q
  ·rw [List.drop_eq_nil_of_le q] at h; cases h
 rw [List.drop_eq_getElem_cons hi] at h
 injection h with h1 h2
 refine ⟨?_,hi,h2⟩
 rw [← h1]; simp [hi]
theorem CP {s:Bytes}{i:Nat}(h:s.drop i=[]):s.length≤i:=List.drop_eq_nil_iff.1 h
theorem tR (s:Bytes)(i k:Nat):s.drop (i+k)=(s.drop i).drop k:=by rw [List.drop_drop]
theorem D3 {s r:Bytes}(h:r <:+ s):s.drop (s.length - r.length)=r:=(List.suffix_iff_eq_drop.1 h).symm
theorem fv (l p:Bytes):strings_HasPrefix l p=some (hasPrefix l p):=rfl
def CO (s:Bytes)(y:Option Bytes)(r:Unit⊕Int):Prop:=match y with
 | none=>r=.inl ()∨r=.inr (-1)
 | some r'=>r=.inr ((s.length:Int) - (r'.length:Int) - 1)
def DJ (s:Bytes):Option Bytes→Int
 | none=>-1
 | some r'=>(s.length:Int) - (r'.length:Int) - 1
theorem xP {s:Bytes}{i:Int}{y:Option Bytes}(h:Ev2 (λ n m=>cF (dW n) s m i 1) (CO s y)):Ev2 (λ n _=>cy n s i) (·=DJ s y):=by
 refine cj ?_
 simp only [cy]
 refine eg (cA (bS (f:=λ n m=>cF (dW n) s m i 1) h) ?_)
 cases y with
 | none =>
  rintro r (rfl | rfl)
  ·exact ab Z
  ·rfl
 | some r'=>rintro r rfl; rfl
theorem B4 {s:Bytes}{i:Int}{y:Option Bytes}(h:Ev2 (λ n m=>cQ (cy n) s m i) (CO s y)):Ev2 (λ n _=>dW n s i) (·=DJ s y):=by
 refine cj ?_
 simp only [dW]
 refine eg (cA (bS (f:=λ n m=>cQ (cy n) s m i) h) ?_)
 cases y with
 | none =>
  rintro r (rfl | rfl)
  ·exact ab Z
  ·rfl
 | some r'=>rintro r rfl; rfl
theorem Aa {s:Bytes}(hs:s.length≤1000000000):∀ (f:Nat),
  (∀ (d i:Nat) (ci di:Int) (y:Option Bytes),ci=i→di=d→1≤d→d+(s.drop i).length≤2000000000→i≤1000000010→gb f d (s.drop i)=some y→Ev2 (λ n m=>cF (dW n) s m ci di) (CO s y)) ∧
  (∀ (i:Nat) (ci:Int) (y:Option Bytes),ci=i→i≤1000000010→iz f (s.drop i)=some y→Ev2 (λ n m=>cQ (cy n) s m ci) (CO s y))
 | 0=>⟨λ d i ci di y _ _ _ _ _ h=>(by rw [gb] at h; cases h),λ i ci y _ _ h=>(by rw [iz] at h; cases h)⟩
 | f+1=>by
  obtain ⟨i1,i2⟩:=Aa hs f
  constructor
  ·intro d i ci di y hci hdi h1 hd hi h
   refine aV ?_
   simp only [cF]
   cases hl:s.drop i with
   | nil =>
    rw [hl,gb] at h; cases h
    have:=CP hl
    exact ai O (ab (.inl Z))
   | cons b r =>
    obtain ⟨g1,g2,g3⟩:=vw hl
    have hb:byt s ci=(b.toNat:Int):=by rw [hci,gj,g1]
    rw [hl,gb] at h
    rw [hl,List.length_cons] at hd
    refine aj O (ar O ?_)
    rw [hb]
    refine eg ?_
    by_cases h123:b.toNat=123
    ·rw [if_pos h123] at h
     refine aj O (ar (aG O O) (ab (ar (aG (by show _≤ci+1; omega) (by show ci+1≤_; omega)) ?_)))
     exact i1 (d+1) (i+1) (ci+1) (di+1) y O O O (by rw [g3]; omega) O (by rw [g3]; exact h)
    rw [if_neg h123] at h
    refine ai O ?_
    by_cases h125:b.toNat=125
    ·rw [if_pos h125] at h
     refine aj O (ar (aG O O) ?_)
     by_cases hd1:d=1
     ·rw [if_pos hd1] at h; cases h
      have hlr:r.length=s.length - (i+1):=by rw [← g3,List.length_drop]
      refine aj O (ab ?_)
      show Sum.inr ci=Sum.inr _
      congr 1; omega
     ·rw [if_neg hd1] at h
      refine ai O (ab (ar (aG (by show _≤ci+1; omega) (by show ci+1≤_; omega)) ?_))
      exact i1 (d - 1) (i+1) (ci+1) (di - 1) y O O O (by rw [g3]; omega) O (by rw [g3]; exact h)
    rw [if_neg h125] at h
    refine ai O ?_
    by_cases h34:b.toNat=34
    ·rw [if_pos h34] at h
     refine aj O (ar (aG O O) ?_)
     cases hq:iz f r with
     | none=>rw [hq] at h; cases h
     | some z =>
      rw [hq] at h
      refine ao _ (B4 (i2 (i+1) (ci+1) z O O  (by rw [g3]; exact hq))) ?_
      cases z with
      | none=>cases h; exact aj (show (-1:Int) < 0 by decide) (ab (.inr rfl))
      | some r' =>
       have hsf:=(iR f).2 _ _ hq
       have hsl:=hsf.1.length_le
       have hrl:r.length=s.length - (i+1):=by rw [← g3,List.length_drop]
       have hrs:r' <:+ s:=by rw [← g3] at hsf; exact hsf.1.trans (List.drop_suffix _ _)
       have hsd:=D3 hrs
       refine ai (by show ¬ (s.length:Int) - (r'.length:Int) - 1 < 0; omega) (ab (ar (aG (by show _≤(s.length:Int) - (r'.length:Int) - 1+1; omega) (by show (s.length:Int) - (r'.length:Int) - 1+1≤_; omega)) ?_))
       exact i1 d (s.length - r'.length) _ di y (by show (s.length:Int) - (r'.length:Int) - 1+1=_; omega) hdi h1 (by rw [hsd]; omega) O (by rw [hsd]; exact h)
    ·rw [if_neg h34] at h
     refine ai O (ab (ar (aG (by show _≤ci+1; omega) (by show ci+1≤_; omega)) ?_))
     exact i1 d (i+1) (ci+1) di y O O O (by rw [g3]; omega) O (by rw [g3]; exact h)
  ·intro i ci y hci hi h
   refine aV ?_
   simp only [cQ]
   cases hl:s.drop i with
   | nil =>
    rw [hl,iz] at h; cases h
    have:=CP hl
    exact ai O (ab (.inl Z))
   | cons b r =>
    obtain ⟨g1,g2,g3⟩:=vw hl
    have hb:byt s ci=(b.toNat:Int):=by rw [hci,gj,g1]
    have hsub:sub s ci (s.length:Int)=b::r:=by rw [iU,hci,Int.toNat_natCast,hl]
    rw [hl,iz] at h
    refine aj O ?_
    rw [hb,hsub]
    refine eg (ar O ?_)
    by_cases h34:b.toNat=34
    ·rw [if_pos h34] at h; cases h
     have hlr:r.length=s.length - (i+1):=by rw [← g3,List.length_drop]
     refine aj O (ab ?_)
     show Sum.inr ci=Sum.inr _
     congr 1; omega
    rw [if_neg h34] at h
    refine ai O (ar O ?_)
    by_cases h92:b.toNat=92
    ·rw [if_pos h92] at h
     refine aj O (ar (aG O O) (ab (ar (aG O O) ?_)))
     exact i2 (i+1+1) (ci+1+1) y O O  (by rw [tR s (i+1) 1,g3]; exact h)
    rw [if_neg h92] at h
    refine ai O (ar O (ao _ (au (fv _ _) Z) ?_))
    by_cases hp3:hasPrefix (b::r) [36,36,123]=true
    ·rw [if_pos hp3] at h
     refine aj hp3 (ar (aG O O) (ab (ar (aG O O) ?_)))
     exact i2 (i+3) (ci+2+1) y O O  (by rw [tR s i 3,hl]; exact h)
    rw [if_neg hp3] at h
    refine ai hp3 (ar O (ao _ (au (fv _ _) Z) ?_))
    by_cases hp2:hasPrefix (b::r) [36,123]=true
    ·rw [if_pos hp2] at h
     refine aj hp2 (ar (aG O O) ?_)
     cases hq:gb f 1 ((b::r).drop 2) with
     | none=>rw [hq] at h; cases h
     | some z =>
      rw [hq] at h
      have e2:s.drop (i+2)=(b::r).drop 2:=by rw [tR s i 2,hl]
      refine ao _ (xP (i1 1 (i+2) (ci+2) 1 z O rfl (by decide) (by rw [List.length_drop]; omega) O (by rw [e2]; exact hq))) ?_
      cases z with
      | none=>cases h; exact aj (show (-1:Int) < 0 by decide) (ab (.inr rfl))
      | some r' =>
       have hsf:=(iR f).1 _ _ _ hq
       have hsl:=hsf.1.length_le
       have hrl:((b::r).drop 2).length=s.length - (i+2):=by rw [← e2,List.length_drop]
       have hrs:r' <:+ s:=by rw [← e2] at hsf; exact hsf.1.trans (List.drop_suffix _ _)
       have hsd:=D3 hrs
       refine ai (by show ¬ (s.length:Int) - (r'.length:Int) - 1 < 0; omega) (ab (ar (aG (by show _≤(s.length:Int) - (r'.length:Int) - 1+1; omega) (by show (s.length:Int) - (r'.length:Int) - 1+1≤_; omega)) ?_))
       exact i2 (s.length - r'.length) _ y (by show (s.length:Int) - (r'.length:Int) - 1+1=_; omega) O (by rw [hsd]; exact h)
    ·rw [if_neg hp2] at h
     refine ai hp2 (ab (ar (aG O O) ?_))
     exact i2 (i+1) (ci+1) y O O  (by rw [g3]; exact h)
theorem qM:∀ (k:Nat) (l:Bytes) (a:Nat) (x:Bytes),(co k l a).2 < l.length→co k (l.take ((co k l a).2+1)++x) a=co k l a
 | 0,l,a,x,_=>by rw [co,co]
 | k+1,[],a,x,h=>by simp at h
 | k+1,b::r,a,x,h=>by
  have e:co (k+1) (b::r) a=match pf b with
   | some d=>((co k r (16*a+d)).1,(co k r (16*a+d)).2+1)
   | none=>(a,0):=by rw [co]; cases pf b <;> rfl
  cases hd:pf b with
  | none =>
   rw [hd] at e
   rw [e]
   show co (k+1) (b::x) a=_
   rw [co,hd]
  | some d =>
   rw [hd] at e
   simp only at e
   rw [e] at h ⊢
   have ih:=qM k r (16*a+d) x (by simp only [List.length_cons] at h; omega)
   show co (k+1) (b::(r.take ((co k r (16*a+d)).2+1)++x)) a=_
   rw [co,hd]
   simp only [ih]
theorem xL (b:UInt8):strings_IndexByte ([48,49,50,51,52,53,54,55,56,57,97,98,99,100,101,102]:Bytes) (b.toNat:Int)=some (indexByte Ac b)∧decide (0≤indexByte Ac b)=(pf b).isSome:=by
 constructor
 ·unfold strings_IndexByte
  have:((b.toNat:Int).toNat.toUInt8)=b:=by simp
  rw [this]; rfl
 ·rw [ue]
  cases pf b with
  | none=>rfl
  | some d=>simp
theorem Cc (s:Bytes)(hs:s.length≤1000000000):∀ (k i a:Nat),i+k=6→i≤s.length→Ev2 (λ _ m=>bF s m (i:Int)) (·=((i+(co k (s.drop i) a).2:Nat):Int)):=by
 intro k
 induction k with
 | zero =>
  intro i a hi hl
  refine aV ?_
  simp only [bF]
  refine ao false (aP (λ _=>ai O (ab Z)) (λ _=>ab Z)) (ai Bool.false_ne_true (ab ?_))
  rw [co]; rfl
 | succ k ih =>
  intro i a hi hl
  refine aV ?_
  simp only [bF]
  cases hd:s.drop i with
  | nil =>
   have:=CP hd
   refine ao false (ai O (ab Z)) (ai Bool.false_ne_true (ab ?_))
   rw [co]; rfl
  | cons b r =>
   obtain ⟨g1,g2,g3⟩:=vw hd
   have hb:byt s (i:Int)=(b.toNat:Int):=by rw [gj,g1]
   refine ao (pf b).isSome ?_ ?_
   ·refine aj O (aj O (ar O ?_))
    rw [hb]
    exact ao _ (au (xL b).1 Z) (ab (xL b).2)
   ·rw [co]
    cases hx:pf b with
    | none=>exact ai Bool.false_ne_true (ab Z)
    | some d =>
     refine aj Z (ar (aG O O) ?_)
     have:=vm (P:=λ j=>Ev2 (λ _ m=>bF s m j) _) (ih (i+1) (16*a+d) O O)
     refine cA this ?_
     rintro _ rfl
     rw [g3]; congr 1; simp only []; omega
theorem B6 (s:Bytes)(hs:s.length≤1000000000):Ev2 (λ n _=>dU n s) (·=((co 6 s 0).2:Int)):=by
 simp only [dU]
 refine ao _ (bS (f:=λ _ m=>bF s m 0) (Cc s hs 6 0 0 Z (Nat.zero_le _))) (ab ?_)
 rw [List.drop_zero,Nat.zero_add]
theorem Bv (b:UInt8)(r:Bytes)(h:b.toNat < 128):decodeL (b::r)=(b.toNat,1):=by
 have e:=yY b h
 have h2:=xD (b.toNat:Int) (by unfold gi; omega) r
 rw [e] at h2
 simpa using h2
theorem Fe (r:Bytes):(decodeL (92::r)).1=92:=by
 have:=Bv (92:UInt8) r (by decide)
 rw [this]; rfl
theorem Cq (x:Bytes):((dQ (x++[34])).2.2=0→(dQ (x++[34])).2.1=(x.length:Int)→(zQ (34::92::(x++[34]))).1=encodeRune (dQ (x++[34])).1∧(zQ (34::92::(x++[34]))).2.2=0)∧((dQ (x++[34])).2.2≠0→(zQ (34::92::(x++[34]))).2.2≠0):=by
 have h34:(34:UInt8).toNat=34:=rfl
 rw [uc,if_pos h34,nz,if_neg (show ¬ (92:UInt8).toNat=34 by decide),if_pos (Fe _)]
 constructor
 ·intro h0 h1
  rw [if_pos h0,h1,Int.toNat_natCast,List.drop_left]
  have hn:(92::(x++[34])).length=(x.length+1)+1:=by simp
  rw [hn,nz,if_pos h34]
  have hr:=(pn (x++[34])).2.2.1 h0
  have hle:=kC _ hr.1
  simp only [List.nil_append]
  rw [if_neg O,if_neg O]
  exact ⟨Z,Z⟩
 ·intro h0
  rw [if_neg h0]
  exact h0
theorem BH {c:UInt8}(h:c.toNat≠117)(t t':Bytes):dQ (c::t)=dQ (c::t')∧((dQ (c::t)).2.2=0→(dQ (c::t)).2.1=1)∧((dQ (c::t)).2.2≠0→(dQ (c::t)).2.2=2):=by
 have e:∀ t:Bytes,dQ (c::t)=if c.toNat=110 then (10,1,0) else if c.toNat=114 then (13,1,0) else if c.toNat=116 then (9,1,0) else if c.toNat=34∨c.toNat=92 then ((c.toNat:Int),1,0) else (0,0,2):=λ t=>by
  rw [p7]
  simp only [if_neg h]
 rw [e t,e t']
 refine ⟨Z,?_⟩
 by_cases h1:c.toNat=110
 ·rw [if_pos h1]; simp
 rw [if_neg h1]
 by_cases h2:c.toNat=114
 ·rw [if_pos h2]; simp
 rw [if_neg h2]
 by_cases h3:c.toNat=116
 ·rw [if_pos h3]; simp
 rw [if_neg h3]
 by_cases h4:c.toNat=34∨c.toNat=92
 ·rw [if_pos h4]; simp
 rw [if_neg h4]; simp
theorem ym (d:UInt8)(u:Bytes):dQ (117::d::u)=if d.toNat=123 then ((fp u).1,(fp u).2.1+2,(fp u).2.2) else (0,0,2):=by
 rw [p7]; rfl
theorem yT (u:Bytes)(h:(co 6 u 0).2 < u.length):fp (u.take ((co 6 u 0).2+1)++[34])=fp u∧((fp u).2.2=0→(fp u).2.1=(((co 6 u 0).2+1:Nat):Int))∧((fp u).2.2≠0→(fp u).2.2=2):=by
 have e:=qM 6 u 0 [34] h
 unfold fp
 rw [e]
 generalize co 6 u 0=H at h ⊢
 obtain ⟨v,c⟩:=H
 simp only at h ⊢
 have l1:¬ c=(u.take (c+1)++[34]).length:=by
  rw [List.length_append,List.length_take,List.length_singleton]; omega
 have g1:∀ k,k≤c→(u.take (c+1)++[34]).getD k 0=u.getD k 0:=by
  intro k hk
  rw [List.getD_eq_getElem?_getD,List.getD_eq_getElem?_getD,List.getElem?_append_left (by rw [List.length_take]; omega),List.getElem?_take_of_lt O]
 rw [if_neg l1,if_neg (show ¬ c=u.length by omega),g1 c (Nat.le_refl _),g1 0 (Nat.zero_le _)]
 refine ⟨Z,?_⟩
 split
 ·simp
 ·simp
def qS (r:Bytes):Bytes×Int×Int:=if (dQ r).2.2=0 then (encodeRune (dQ r).1,(dQ r).2.1+1,0) else ([],0,(dQ r).2.2)
theorem xC {s x:Bytes}{k:Int}(hs:s.length≤1000000000)(hxs:x.length≤100)(hk:k=((x.length+1:Nat):Int))(hx:s.take (x.length+1)=92::x){q:Bytes×Int×Int}(h0:(dQ (x++[34])).2.2=0→(dQ (x++[34])).2.1=(x.length:Int)∧q=(encodeRune (dQ (x++[34])).1,k,0))(h1:(dQ (x++[34])).2.2≠0→q=([],0,2)) :
  Ev2 (λ n _=>if (s.length:Int) < k then some (([]:Bytes),(0:Int),(40:Int)) else
   ck ((0:Int)≤0∧0≤k∧k≤(s.length:Int)) <|
   ck (([34]:Bytes).length+(sub s 0 k).length≤9223372036854775807) <|
   ck ((([34]:Bytes)++(sub s 0 k)).length+([34]:Bytes).length≤9223372036854775807) <|
   (d7 n ((([34]:Bytes)++(sub s 0 k))++([34]:Bytes))).bind λ r18 =>
   if r18.2.2=0 then some (r18.1,k,0) else some (([]:Bytes),0,2)) (·=q):=by
 have hl:(92::x).length=x.length+1:=rfl
 have hxl:x.length+1≤s.length:=by
  have:=congrArg List.length hx
  rw [List.length_take,hl] at this; omega
 have hsub:sub s 0 k=92::x:=by
  subst hk
  show (s.take _).drop 0=_
  rw [List.drop_zero,Int.toNat_natCast,hx]
 rw [hsub]
 refine ai O (ar O (ar (by simp only [List.length_cons,List.length_nil]; omega) (ar (by simp only [List.length_append,List.length_cons,List.length_nil]; omega) ?_)))
 have hsz:((([34]:Bytes)++(92::x))++([34]:Bytes)).length≤1000000000:=by simp only [List.length_append,List.length_cons,List.length_nil]; omega
 refine ao _ (Dm _ hsz) ?_
 have e:(([34]:Bytes)++(92::x))++([34]:Bytes)=34::92::(x++[34]):=rfl
 rw [e]
 obtain ⟨u1,u2⟩:=Cq x
 by_cases hz:(dQ (x++[34])).2.2=0
 ·obtain ⟨z1,z2⟩:=h0 hz
  obtain ⟨w1,w2⟩:=u1 hz z1
  exact aj w2 (ab (by rw [w1,z2]))
 ·exact ai (u2 hz) (ab (h1 hz).symm)
theorem De {r:Bytes}(hs:(92::r:Bytes).length≤1000000000):Ev2 (λ n _=>gg n (92::r)) (·=qS r):=by
 simp only [gg]
 have hl0:(92::r:Bytes).length=r.length+1:=rfl
 cases r with
 | nil =>
  refine fE 2 (ao false (au (fv _ _) (by decide)) (ai Bool.false_ne_true (ab Z))) ?_
  exact aj (by decide) (ab (by unfold qS; rw [if_neg (by decide)]; rfl))
 | cons c t =>
  by_cases hc:c.toNat=117
  ·have hc':c=117:=(vS (by decide)).1 hc
   subst hc'
   have hp:hasPrefix (92::117::t) [92,117]=true:=by simp [hasPrefix]
   cases t with
   | nil =>
    refine fE 4 (ao true (au (fv _ _) hp) (aj Z (ao false (ai (by decide) (ab Z)) (ai Bool.false_ne_true (ai (by decide) (ab Z)))))) ?_
    exact aj (by decide) (ab (by unfold qS; rw [if_neg (by decide)]; rfl))
   | cons d u =>
    have hl:(92::117::d::u:Bytes).length=u.length+3:=rfl
    have hb:byt (92::117::d::u) 2=(d.toNat:Int):=rfl
    have e:=ym d u
    by_cases hd:d.toNat=123
    ·rw [if_pos hd] at e
     have hd':d=123:=(vS (by decide)).1 hd
     have h6:Ev2 (λ _ _=>(if (2:Int) < ((92::117::d::u:Bytes).length:Int) then ck ((0:Int)≤2∧(2:Int) < ((92::117::d::u:Bytes).length:Int)) <| some (!decide (byt (92::117::d::u) 2=123)) else some false:Option Bool)) (·=false):=by
      refine aj O (ar O (ab ?_))
      rw [hb,hd]; rfl
     cases u with
     | nil =>
      refine fE 4 (ao true (au (fv _ _) hp) (aj Z (ao false h6 (ai Bool.false_ne_true (ai G (ab Z)))))) ?_
      refine aj G (ab ?_)
      have hx:(fp []).2.2=40:=by decide
      unfold qS
      rw [e]
      show _=if (fp []).2.2=0 then _ else ([],0,(fp []).2.2)
      rw [hx]; rfl
     | cons v w =>
      have hlv:(v::w).length=w.length+1:=rfl
      have hsub:sub (92::117::d::v::w) 3 ((92::117::d::v::w:Bytes).length:Int)=v::w:=by rw [iU]; rfl
      have hrun:=ny 6 (v::w) 0
      refine fE (4+((co 6 (v::w) 0).2:Int)) (ao true (au (fv _ _) hp) (aj Z (ao false h6 (ai Bool.false_ne_true (aj O (ar O ?_)))))) ?_
      ·rw [hsub]
       exact ao _ (B6 _ O) (ar (aG O O) (ab Z))
      by_cases hc:(co 6 (v::w) 0).2=(v::w).length
      ·refine aj O (ab ?_)
       have hx:(fp (v::w)).2.2=40:=by unfold fp; simp only [hc,if_true]
       unfold qS
       rw [e]
       show _=if (fp (v::w)).2.2=0 then _ else ([],0,(fp (v::w)).2.2)
       rw [hx]; rfl
      ·obtain ⟨x1,x2,x3⟩:=yT (v::w) O
       have hlt:((v::w).take ((co 6 (v::w) 0).2+1)).length=(co 6 (v::w) 0).2+1:=by rw [List.length_take]; omega
       have ex:dQ ((117::d::(v::w).take ((co 6 (v::w) 0).2+1))++[34])=dQ (117::d::v::w):=by
        show dQ (117::d::((v::w).take ((co 6 (v::w) 0).2+1)++[34]))=_
        rw [ym,if_pos hd,x1,e]
       refine xC (x:=117::d::(v::w).take ((co 6 (v::w) 0).2+1)) hs (by simp only [List.length_cons,hlt]; omega) (by simp only [List.length_cons,hlt]; omega) ?_ ?_ ?_
       ·simp only [List.length_cons,hlt]; rfl
       ·rw [ex]
        intro hz
        have hz':(fp (v::w)).2.2=0:=by rw [e] at hz; exact hz
        refine ⟨?_,?_⟩
        ·rw [e]; show (fp (v::w)).2.1+2=_; rw [x2 hz']; simp only [List.length_cons,hlt]; omega
        ·unfold qS; rw [if_pos hz]
         refine Prod.ext Z (Prod.ext ?_ Z)
         rw [e]; show (fp (v::w)).2.1+2+1=4+((co 6 (v::w) 0).2:Int); rw [x2 hz']; omega
       ·rw [ex]
        intro hz
        have hz':(fp (v::w)).2.2≠0:=by rw [e] at hz; exact hz
        unfold qS; rw [if_neg hz]
        rw [e]; show ([],0,(fp (v::w)).2.2)=_; rw [x3 hz']
    ·rw [if_neg hd] at e
     refine jJ ([],0,2) (ao true (au (fv _ _) hp) (aj Z (ao true (aj O (ar O (ab ?_))) (aj Z (ab Z))))) ?_
     ·rw [hb]; simp; omega
     ·unfold qS; rw [e]; rfl
  ·have hp:hasPrefix (92::c::t) [92,117]=false:=by
    have:¬ c=117:=λ h=>hc (by rw [h]; rfl)
    unfold hasPrefix
    simp only [List.isPrefixOf,beq_self_eq_true,Bool.true_and]
    rw [beq_eq_false_iff_ne.2 (λ h=>this h.symm)]; rfl
   obtain ⟨o1,o2,o3⟩:=BH hc t [34]
   refine fE 2 (ao false (au (fv _ _) hp) (ai Bool.false_ne_true (ab Z))) ?_
   refine xC (x:=[c]) hs G rfl Z ?_ ?_
   ·intro hz
    have hz:(dQ (c::[34])).2.2=0:=hz
    rw [← o1] at hz
    refine ⟨?_,?_⟩
    ·show (dQ (c::[34])).2.1=_; rw [← o1,o2 hz]; rfl
    ·unfold qS; rw [if_pos hz,o2 hz]
     show _=(encodeRune (dQ (c::[34])).1,_,_)
     rw [← o1]; rfl
   ·intro hz
    have hz:(dQ (c::[34])).2.2≠0:=hz
    rw [← o1] at hz
    unfold qS; rw [if_neg hz,o3 hz]
theorem Bi (s:Bytes)(a i fr:Int)(text:Bytes)(parts:List ac)(opn:Bool)(h:inR (a+fr)):dN (.mk s a i fr text parts opn)=some (if 4096 < text.length then ap.mk 3 (a+fr) [] else dOk,.mk s a i fr text parts opn):=by
 unfold dN
 by_cases hl:4096 < text.length
 ·rw [if_pos (by show (4096:Int) < (text.length:Int); omega),if_pos hl]
  exact b8 h
 ·rw [if_neg (by show ¬ (4096:Int) < (text.length:Int); omega),if_neg hl]; rfl
def ItO (s:Bytes)(a i fr:Int)(text:Bytes)(parts:List ac)(opn:Bool)(q:Int⊕(Bytes×Nat))(r:ap×ak):Prop:=match q with
 | .inl k=>r.1=ap.mk k (a+i) []
 | .inr (t,n)=>if 4096 < text.length+t.length then r.1=ap.mk 3 (a+fr) [] else r=(dOk,.mk s a (i+n) fr (text++t) parts opn)
theorem Em {s:Bytes}(hs:s.length≤1000000000){a fr:Int}{i:Nat}(ha:0≤a)(ha2:a≤1000000000)(hf:0≤fr)(hf2:fr≤1000000000)(text:Bytes)(ht:text.length≤4096)(parts:List ac)(opn:Bool){b:UInt8}{r:Bytes}(hl:s.drop i=b::r) :
  Ev2 (λ n _=>dl n (.mk s a (i:Int) fr text parts opn)) (ItO s a i fr text parts opn (jR (b::r))):=by
 obtain ⟨g1,g2,g3⟩:=vw hl
 have hsub:sub s (i:Int) (s.length:Int)=b::r:=by rw [iU,Int.toNat_natCast,hl]
 have hlen:(b::r).length=s.length - i:=by rw [← hl,List.length_drop]
 have hb0:byt (b::r) 0=(b.toNat:Int):=rfl
 have hlc:(b::r).length=r.length+1:=rfl
 have fin:∀ (t:Bytes) (n:Nat),jR (b::r)=.inr (t,n)→n≤1000000000→t.length≤1000000000→Ev2 (λ _ _=>(dN (ak.mk s a ((i:Int)+(n:Int)) fr (text++t) parts opn)).bind λ r26=>some (r26.1,(ak.mk r26.2.fs r26.2.fat r26.2.fi r26.2.ffrom r26.2.ftext r26.2.fparts r26.2.fopen))) (ItO s a i fr text parts opn (jR (b::r))):=by
  intro t n hi _ _
  refine ao _ (au (Bi s a _ fr _ parts opn (aG O O)) Z) (ab ?_)
  rw [hi]
  unfold ItO
  simp only [List.length_append]
  by_cases hl:4096 < text.length+t.length
  ·rw [if_pos hl,if_pos hl]
  ·rw [if_neg hl,if_neg hl]
 simp only [dl]
 rw [hsub]
 refine ar O ?_
 by_cases h92:b.toNat=92
 ·have hb':b=92:=(vS (by decide)).1 h92
  have hle:=pn r
  have hi:jR (b::r)=if (dQ r).2.2=0 then .inr (encodeRune (dQ r).1,(dQ r).2.1.toNat+1) else .inl (dQ r).2.2:=by rw [jR,if_pos h92]
  subst hb'
  by_cases hz:(dQ r).2.2=0
  ·rw [if_pos hz] at hi
   obtain ⟨e1,e2⟩:=hle.2.2.1 hz
   have hel:=kC _ e1
   refine fE ((i:Int)+(((dQ r).2.1.toNat+1:Nat):Int),text++encodeRune (dQ r).1) (ar O (aj (by rw [hb0]; rfl) (ao _ (De O) ?_))) (fin _ _ hi O O)
   unfold qS; rw [if_pos hz]
   refine aj Z (ar (by (try simp only []); omega) (ar (aG (by (try simp only []); omega) (by (try simp only []); omega)) (ab ?_)))
   simp only []
   congr 2; omega
  ·rw [if_neg hz] at hi
   refine jJ (ap.mk (dQ r).2.2 (a+(i:Int)) [],ak.mk s a (i:Int) fr text parts opn) (ar O (aj (by rw [hb0]; rfl) (ao _ (De O) ?_))) ?_
   ·unfold qS; rw [if_neg hz]
    exact ai hz (ar (aG (by (try simp only []); omega) (by (try simp only []); omega)) (ab Z))
   ·rw [hi]; rfl
 ·have hd:aZ (b::r)=some (((decodeL (b::r)).1:Int),((decodeL (b::r)).2:Int)):=by
   unfold aZ
   rw [oG _ G]
  have hdf:=jb (b::r) G
  have hq:(decodeL (b::r)).1=34↔b.toNat=34:=by
   by_cases h128:b.toNat < 128
   ·rw [Bv b r h128]
   ·have:=DT b r O; omega
  have hi:jR (b::r)=if ln (decodeL (b::r))∨b.toNat=34 then .inl 2 else .inr ((b::r).take (decodeL (b::r)).2,(decodeL (b::r)).2):=by rw [jR,if_neg h92]
  have hsb:∀ w:Nat,sub (b::r) 0 (w:Int)=(b::r).take w:=λ w=>by show ((b::r).take _).drop 0=_; rw [List.drop_zero,Int.toNat_natCast]
  generalize decodeL (b::r)=D at hd hdf hq hi
  obtain ⟨c,w⟩:=D
  simp only at hd hdf hq
  have hbad:Ev2 (λ _ _=>(if (c:Int)=65533 then if (w:Int)=1 then some true else if (c:Int) < 32 then some true else if (c:Int)=127 then some true else some (decide ((c:Int)=34)) else if (c:Int) < 32 then some true else if (c:Int)=127 then some true else some (decide ((c:Int)=34)):Option Bool)) (·=decide (ln (c,w)∨b.toNat=34)):=by
   have mk:∀ x:Bool,(x=true↔(((c=65533∧w=1)∨c < 32∨c=127)∨c=34))→x=decide (ln (c,w)∨b.toNat=34):=by
    intro x hx
    refine eqB ?_
    rw [hx,decide_eq_true_eq,← hq]
    rfl
   refine aP (λ h1=>aP (λ h2=>ab (mk _ ?_)) (λ h2=>aP (λ h3=>ab (mk _ ?_)) (λ h3=>aP (λ h4=>ab (mk _ ?_)) (λ h4=>ab (mk _ ?_))))) (λ h1=>aP (λ h3=>ab (mk _ ?_)) (λ h3=>aP (λ h4=>ab (mk _ ?_)) (λ h4=>ab (mk _ ?_))))
   all_goals (try rw [decide_eq_true_eq])
   all_goals (try simp only [true_iff])
   all_goals omega
  by_cases hx:ln (c,w)∨b.toNat=34
  ·rw [if_pos hx] at hi
   refine jJ (ap.mk 2 (a+(i:Int)) [],ak.mk s a (i:Int) fr text parts opn) (ar O (ai (by rw [hb0]; omega) (ao _ (au hd Z) (ao _ hbad (aj (decide_eq_true hx) (ar (aG (by (try simp only []); omega) (by (try simp only []); omega)) (ab Z))))))) ?_
   rw [hi]; rfl
  ·rw [if_neg hx] at hi
   have hw2:=hdf.2.1
   refine fE ((i:Int)+(w:Int),text++(b::r).take w) (ar O (ai (by rw [hb0]; omega) (ao _ (au hd Z) (ao _ hbad (ai (by simpa using hx) ?_))))) (fin _ _ hi O (by rw [List.length_take]; omega))
   simp only [hsb]
   exact ar O (ar (by rw [List.length_take]; omega) (ar (aG O O) (ab Z)))
end Go.Ab.R06
end
