/- Texts of the proof, one behind the other. No statement is proved here. -/
import Derived.Lib.MapLaws
import Derived.Lib.ValidLaws
import Derived.Lib.ParseIntB
import Derived.Lib.IndexLaws
import Derived.Lib.Bytes2
import Derived.Test.YtmdefcidhgbikaaDoorZ16Oa
import Derived.Test.YtmdefcidhgbikaaDoorZ16Ob
set_option maxHeartbeats 4000000
section
namespace Go.Ab.R06
open Go.Ab Go.Ab.RB
section
variable {α β:Type} {P:α→Prop}
theorem ao {g:Nat→Nat→Option β}{k:Nat→Nat→β→Option α}(x:β)(h:Ev2 g (·=x))(hk:Ev2 (λ n m=>k n m x) P):Ev2 (λ n m=>(g n m).bind (k n m)) P :=
 bj (·=x) h λ y hy=>by subst hy; exact hk
end
def eR (b:UInt8):Bool:=(decide (97≤b.toNat)&&decide (b.toNat≤122))||(decide (65≤b.toNat)&&decide (b.toNat≤90))||decide (b.toNat=95)
def dZ (b:UInt8):Bool:=decide (48≤b.toNat)&&decide (b.toNat≤57)
def idB (b:UInt8):Bool:=eR b||dZ b
def aV:Bytes→Bool
 | []=>false
 | b::r=>decide ((b::r).length≤64)&&eR b&&r.all idB
def mr (s:Bytes)(i:Nat):Bool:=eR (s.getD i 0)||(decide (i≠0)&&dZ (s.getD i 0))
def eG (p:Nat→Bool):Nat→Nat→Bool
 | _,0=>true
 | i,k+1=>p i&&eG p (i+1) k
theorem jy (p:Nat→Bool):∀ (k i:Nat),eG p i k=true↔∀ j,i≤j→j < i+k→p j=true
 | 0,i=>by simp [eG]; intro j h1 h2; omega
 | k+1,i=>by
  rw [eG,Bool.and_eq_true,jy p k (i+1)]
  constructor
  ·rintro ⟨h1,h2⟩ j h3 h4
   by_cases e:j=i
   ·rw [e]; exact h1
   ·exact h2 j (by omega) (by omega)
  ·intro h
   exact ⟨h i (by omega) (by omega),λ j h1 h2=>h j (by omega) (by omega)⟩
theorem or32:(List.range 256).all (λ n=>(decide ((97:Int)≤iOr .u8 (n:Int) 32)&&decide (iOr .u8 (n:Int) 32≤122)) == ((decide (97≤n)&&decide (n≤122))||(decide (65≤n)&&decide (n≤90))))=true:=by kernel_rfl
theorem vv (b:UInt8):(97≤iOr .u8 ((b.toNat:Nat):Int) 32∧iOr .u8 ((b.toNat:Nat):Int) 32≤122)↔((97≤b.toNat∧b.toNat≤122)∨(65≤b.toNat∧b.toNat≤90)):=by
 have h:=List.all_eq_true.1 or32 b.toNat (List.mem_range.2 b.toNat_lt)
 have h:=eq_of_beq h
 rw [Bool.eq_iff_iff] at h
 simpa using h
theorem oc (b:UInt8):eR b=true↔(97≤b.toNat∧b.toNat≤122)∨(65≤b.toNat∧b.toNat≤90)∨b.toNat=95:=by
 simp [eR,or_assoc]
theorem ig (b:UInt8):dZ b=true↔48≤b.toNat∧b.toNat≤57:=by simp [dZ]
theorem eqB {a b:Bool}(h:a=true↔b=true):a=b:=Bool.eq_iff_iff.2 h
theorem ew (s:Bytes)(i:Nat):mr s i=true↔eR (s.getD i 0)=true∨(i≠0∧dZ (s.getD i 0)=true):=by simp [mr]
theorem fH (s:Bytes):aV s=true↔s≠[]∧s.length≤64∧eG (mr s) 0 s.length=true:=by
 rw [jy]
 cases s with
 | nil=>simp [aV]
 | cons b r =>
  simp only [aV,Bool.and_eq_true,decide_eq_true_eq,List.all_eq_true]
  constructor
  ·rintro ⟨⟨h1,h2⟩,h3⟩
   refine ⟨by simp,h1,λ j _ hj=>?_⟩
   rw [ew]
   cases j with
   | zero=>exact .inl h2
   | succ j =>
    have hm:r.getD j 0∈r:=by
     rw [List.getD_eq_getElem?_getD,List.getElem?_eq_getElem (by simp at hj; omega)]
     exact List.getElem_mem _
    have:=h3 _ hm
    simp only [idB,Bool.or_eq_true] at this
    rcases this with h | h
    ·exact .inl h
    ·exact .inr ⟨by omega,h⟩
  ·rintro ⟨_,h1,h2⟩
   refine ⟨⟨h1,?_⟩,λ x hx=>?_⟩
   ·have:=(ew _ _).1 (h2 0 (by omega) (by simp))
    simpa using this
   ·obtain ⟨j,hj,rfl⟩:=List.getElem_of_mem hx
    have:=(ew _ _).1 (h2 (j+1) (by omega) (by simp; omega))
    rw [show (b::r).getD (j+1) 0=r[j] by simp [hj]] at this
    simp only [idB,Bool.or_eq_true]
    rcases this with h | h
    ·exact .inl h
    ·exact .inr h.2
theorem oN (s:Bytes):aV s=true↔s≠[]∧s.length≤64∧eR (s.getD 0 0)=true∧eG (λ j=>idB (s.getD j 0)) 0 s.length=true:=by
 rw [fH,jy,jy]
 constructor
 ·rintro ⟨h1,h2,h3⟩
  have hl:0 < s.length:=List.length_pos_iff.2 h1
  refine ⟨h1,h2,?_,λ j _ hj=>?_⟩
  ·have:=(ew s 0).1 (h3 0 (by omega) (by omega))
   simpa using this
  ·have:=(ew s j).1 (h3 j (by omega) hj)
   simp only [idB,Bool.or_eq_true]
   rcases this with h | h
   ·exact .inl h
   ·exact .inr h.2
 ·rintro ⟨h1,h2,h3,h4⟩
  refine ⟨h1,h2,λ j _ hj=>(ew s j).2 ?_⟩
  have:=h4 j (by omega) hj
  simp only [idB,Bool.or_eq_true] at this
  by_cases e:j=0
  ·subst e; exact .inl h3
  ·rcases this with h | h
   ·exact .inl h
   ·exact .inr ⟨e,h⟩
end Go.Ab.R06
namespace Go.Ab.R06
open Go.Ab Go.Ab.RB Go.Lib
def jH (acc:Nat)(l:Bytes):Nat:=l.foldl (λ a b=>a*10+(b.toNat - 48)) acc
theorem rQ (a:Nat):jH a []=a:=rfl
theorem rb (a:Nat)(b:UInt8)(l:Bytes):jH a (b::l)=jH (a*10+(b.toNat - 48)) l:=by simp only [jH,List.foldl_cons]
theorem oD (a:Nat)(l m:Bytes):jH a (l++m)=jH (jH a l) m:=by simp [jH]
theorem q7 (a:Nat)(l:Bytes)(b:UInt8):jH a (l++[b])=jH a l*10+(b.toNat - 48):=by rw [oD]; rfl
theorem tT {l:Bytes}(h:l.all dZ=true){b:UInt8}(hb:b∈l):48≤b.toNat∧b.toNat≤57:=(ig b).1 (List.all_eq_true.1 h b hb)
def vd (l:Bytes):Bool:=!l.isEmpty&&l.all dZ&&(decide (l.getD 0 0≠48)||decide (l.length=1))
theorem rP (l:Bytes):vd l=true↔l≠[]∧l.all dZ=true∧(l.getD 0 0≠48∨l.length=1):=by
 simp [vd,and_assoc]
def sU (s:Bytes):Bool:=decide (0 < s.length)&&decide (s.getD 0 0=45)
def digits (s:Bytes):Bytes:=if sU s=true then s.drop 1 else s
def vp (s:Bytes):Bool:=!(sU s&&decide (s.drop 1=[48]))&&vd (digits s)
def sf (s:Bytes):Int:=if sU s=true then -(jH 0 (digits s):Int) else (jH 0 (digits s):Int)
def eN:Int:=9007199254740992
def pq (s:Bytes):Int×Int:=if vp s=true then (if -eN≤sf s∧sf s≤eN then (sf s,0) else (0,5)) else (0,2)
theorem p6:∀ (n u:Nat),u < n→jH 0 (decDigits u)=u∧(decDigits u).all dZ=true∧decDigits u≠[]∧((decDigits u).getD 0 0≠48∨(decDigits u).length=1)∧(1≤u→(decDigits u).getD 0 0≠48):=by
 intro n
 induction n with
 | zero=>intro u h; omega
 | succ n ih =>
  intro u hu
  have hdig:∀ k,k < 10→(UInt8.ofNat (48+k)).toNat=48+k:=λ k hk=>by
   rw [UInt8.toNat_ofNat']; omega
  rw [decDigits]
  by_cases h:u < 10
  ·rw [dif_pos h]
   have:=hdig u h
   refine ⟨by rw [rb,rQ,this]; omega,by simp only [List.all_cons,List.all_nil,Bool.and_true,ig,this]; omega,by simp,.inr rfl,λ h1=>?_⟩
   intro q
   have q':(UInt8.ofNat (48+u))=48:=q
   rw [q'] at this
   have:(48:UInt8).toNat=48:=rfl
   omega
  ·rw [dif_neg h]
   obtain ⟨a1,a2,a3,a4,a5⟩:=ih (u / 10) (by omega)
   have hd:=hdig (u % 10) (by omega)
   have hh:(decDigits (u / 10)++[UInt8.ofNat (48+u % 10)]).getD 0 0=(decDigits (u / 10)).getD 0 0:=by
    cases hx:decDigits (u / 10) with
    | nil=>exact absurd hx a3
    | cons c r=>rfl
   refine ⟨?_,?_,by simp,?_,?_⟩
   ·rw [q7,a1,hd]; omega
   ·rw [List.all_append,a2]; simp only [List.all_cons,List.all_nil,Bool.and_true,Bool.true_and,ig,hd]; omega
   ·rw [hh]; exact .inl (a5 (by omega))
   ·rw [hh]; exact λ _=>a5 (by omega)
theorem rr (v:Int)(h0:0≤v)(h1:v≤eN):pq (itoa v)=(v,0):=by
 obtain ⟨u,rfl⟩:∃ u:Nat,v=u:=⟨v.toNat,by omega⟩
 have e:itoa (u:Int)=decDigits u:=by unfold itoa; rw [if_neg (by omega)]; simp
 obtain ⟨a1,a2,a3,a4,a5⟩:=p6 (u+1) u (by omega)
 have hn:sU (decDigits u)=false:=by
  rw [← Bool.not_eq_true]
  intro q
  simp only [sU,Bool.and_eq_true,decide_eq_true_eq] at q
  have hm:(decDigits u).getD 0 0∈decDigits u:=by
   rw [List.getD_eq_getElem?_getD,List.getElem?_eq_getElem q.1]; exact List.getElem_mem _
  have:=tT a2 hm
  rw [q.2] at this
  have:(45:UInt8).toNat=45:=rfl
  omega
 have hd:digits (decDigits u)=decDigits u:=by simp [digits,hn]
 have hc:vp (decDigits u)=true:=by
  simp only [vp,hn,hd,Bool.false_and,Bool.not_false,Bool.true_and]
  exact (rP _).2 ⟨a3,a2,a4⟩
 have hv:sf (decDigits u)=u:=by simp [sf,hn,hd,a1]
 rw [e,pq,if_pos hc,hv,if_pos ⟨by unfold eN at *; omega,h1⟩]
end Go.Ab.R06
namespace Go.Ab.R06
open Go.Ab Go.Ab.RB Go.Lib
theorem t63:(List.range 256).all (λ n=>de .u8 (n:Int) 63 == ((n % 64:Nat):Int))=true:=by kernel_rfl
theorem tab {f g:Nat→Int}{m:Nat}(h:(List.range m).all (λ n=>f n == g n)=true)(n:Nat)(hn:n < m):f n=g n:=eq_of_beq (List.all_eq_true.1 h n (List.mem_range.2 hn))
def ln (r:Int):Prop:=(0≤r∧r < 55296)∨(57343 < r∧r≤1114111)
theorem ge (l:Bytes)(h:l≠[]):decodeGo (str l)=decodeL l:=by
 unfold decodeGo
 rw [if_neg]
 ·rfl
 ·rw [dw]; intro q; exact h (List.length_eq_zero_iff.1 q)
theorem uj (r:Int)(h:ln r)(t:Bytes):decodeL (encodeRune r++t)=(r.toNat,(encodeRune r).length):=by
 have h0:0≤r∧r≤1114111:=by unfold ln at h; omega
 have hb:∀ x:Int,0≤x→x < 256→(x.toNat.toUInt8).toNat=x.toNat:=λ x a b=>by
  show (UInt8.ofNat x.toNat).toNat=_
  rw [UInt8.toNat_ofNat']; omega
 rw [decodeL_N]
 by_cases h1:r≤127
 ·have e:encodeRune r=[r.toNat.toUInt8]:=by simp only [encodeRune,encodeRuneZ,if_pos (show 0≤r∧r≤127 from ⟨h0.1,h1⟩),List.map_cons,List.map_nil]
  rw [e]
  have b0:=hb r (by omega) (by omega)
  simp only [List.cons_append,List.getD_cons_zero,b0]
  unfold decodeN
  rw [if_pos (by omega)]; rfl
 have n1:¬ (0≤r∧r≤127):=by omega
 by_cases h2:r≤2047
 ·have e:encodeRune r=[(192+r / 64).toNat.toUInt8,(128+r % 64).toNat.toUInt8]:=by
   simp only [encodeRune,encodeRuneZ,if_neg n1,if_pos (show 128≤r∧r≤2047 by omega),List.map_cons,List.map_nil]
  rw [e]
  have b0:=hb (192+r / 64) (by omega) (by omega)
  have b1:=hb (128+r % 64) (by omega) (by omega)
  simp only [List.cons_append,List.getD_cons_zero,List.getD_cons_succ,b0,b1,List.length_cons,List.nil_append]
  unfold decodeN
  rw [if_neg (by omega),if_pos (by omega),if_pos (by omega)]
  refine Prod.ext ?_ rfl
  show _=r.toNat
  simp only; omega
 have n2:¬ (128≤r∧r≤2047):=by omega
 by_cases h3:r < 55296∨(57343 < r∧r≤65535)
 ·have e:encodeRune r=[(224+r / 4096).toNat.toUInt8,(128+r / 64 % 64).toNat.toUInt8,(128+r % 64).toNat.toUInt8]:=by
   simp only [encodeRune,encodeRuneZ,if_neg n1,if_neg n2,if_pos (show (2048≤r∧r < 55296)∨(57343 < r∧r≤65535) by omega),List.map_cons,List.map_nil]
  rw [e]
  have b0:=hb (224+r / 4096) (by omega) (by omega)
  have b1:=hb (128+r / 64 % 64) (by omega) (by omega)
  have b2:=hb (128+r % 64) (by omega) (by omega)
  simp only [List.cons_append,List.getD_cons_zero,List.getD_cons_succ,b0,b1,b2,List.length_cons,List.nil_append]
  unfold decodeN
  rw [if_neg (by omega),if_neg (by omega),if_pos (by omega),if_pos (by omega)]
  refine Prod.ext ?_ rfl
  show _=r.toNat
  simp only; omega
 ·have h4:65535 < r:=by unfold ln at h; omega
  have e:encodeRune r=[(240+r / 262144).toNat.toUInt8,(128+r / 4096 % 64).toNat.toUInt8,(128+r / 64 % 64).toNat.toUInt8,(128+r % 64).toNat.toUInt8]:=by
   simp only [encodeRune,encodeRuneZ,if_neg n1,if_neg n2,if_neg (show ¬ ((2048≤r∧r < 55296)∨(57343 < r∧r≤65535)) by omega),if_pos (show 65536≤r∧r≤1114111 by omega),List.map_cons,List.map_nil]
  rw [e]
  have b0:=hb (240+r / 262144) (by omega) (by omega)
  have b1:=hb (128+r / 4096 % 64) (by omega) (by omega)
  have b2:=hb (128+r / 64 % 64) (by omega) (by omega)
  have b3:=hb (128+r % 64) (by omega) (by omega)
  simp only [List.cons_append,List.getD_cons_zero,List.getD_cons_succ,b0,b1,b2,b3,List.length_cons,List.nil_append]
  unfold decodeN
  rw [if_neg (by omega),if_neg (by omega),if_neg (by omega),if_pos (by omega),if_pos (by omega)]
  refine Prod.ext ?_ rfl
  show _=r.toNat
  simp only; omega
theorem iI (l:Bytes)(h:l≠[]):1≤(decodeL l).2∧(decodeL l).2≤l.length∧(¬ ((decodeL l).1=65533∧(decodeL l).2=1)→ln ((decodeL l).1:Int)∧encodeRune ((decodeL l).1:Int)=l.take (decodeL l).2):=by
 have hl:0 < l.length:=List.length_pos_iff.2 h
 have hd:=decN l.length (l.getD 0 0).toNat (l.getD 1 0).toNat (l.getD 2 0).toNat (l.getD 3 0).toNat (by omega) (UInt8.toNat_lt _)
 rw [← decodeL_N] at hd
 refine ⟨hd.1,hd.2.1,λ q=>⟨?_,encode_decode l h q⟩⟩
 have:=hd.2.2.2.2.2
 unfold ln; omega
theorem lC (l:Bytes)(h:l≠[]):validD l=true↔¬ ((decodeL l).1=65533∧(decodeL l).2=1)∧validD (l.drop (decodeL l).2)=true:=by
 rw [validD_step l h]
 by_cases q:(decodeL l).1=65533∧(decodeL l).2=1
 ·simp [q]
 ·simp [q]
end Go.Ab.R06
namespace Go.Ab.R06
open Go.Ab Go.Ab.RB Go.Lib
theorem pt (f x:Bytes)(h:f.length+x.length≤100000000000):az (al.mk f) x=some ((x.length:Int),false,al.mk (f++x)):=by
 unfold az bN
 rw [Option.bind_some,bL (by simp only; omega)]
theorem lL (f:Bytes)(b:UInt8)(h:f.length≤100000000000):aK (al.mk f) (b.toNat:Int)=some (false,al.mk (f++[b])):=by
 have:=b.toNat_lt
 unfold aK bN
 rw [Option.bind_some,bL (by omega),bL (by simp; omega),u0]
theorem bstr (f:Bytes)(h:f.length≤1000000000000):bK (al.mk f)=some (f,al.mk f):=by
 unfold bK
 rw [bL (by simp only; omega)]
def dY (b:UInt8):Bytes :=
 if b.toNat=10 then [92,110] else if b.toNat=13 then [92,114] else if b.toNat=9 then [92,116]
 else if b.toNat=34∨b.toNat=92 then [92,b] else if b.toNat < 32∨b.toNat=127 then [92,117,123]++bS b.toNat++[125] else [b]
def gR (s:Bytes):Bytes:=34::(s.flatMap dY++[34])
theorem qk {b:UInt8}(h:b.toNat=10):dY b=[92,110]:=by unfold dY; rw [if_pos h]
theorem qq {b:UInt8}(h:b.toNat=13):dY b=[92,114]:=by unfold dY; rw [if_neg (by omega),if_pos h]
theorem qF {b:UInt8}(h:b.toNat=9):dY b=[92,116]:=by unfold dY; rw [if_neg (by omega),if_neg (by omega),if_pos h]
theorem qG {b:UInt8}(h:b.toNat=34∨b.toNat=92):dY b=[92,b]:=by unfold dY; rw [if_neg (by omega),if_neg (by omega),if_neg (by omega),if_pos h]
theorem pZ {b:UInt8}(h1:b.toNat≠10)(h2:b.toNat≠13)(h3:b.toNat≠9)(h:b.toNat < 32∨b.toNat=127):dY b=[92,117,123]++bS b.toNat++[125]:=by
 unfold dY; rw [if_neg h1,if_neg h2,if_neg h3,if_neg (by omega),if_pos h]
theorem mK {b:UInt8}(h1:b.toNat≠34)(h2:b.toNat≠92)(h:¬ (b.toNat < 32∨b.toNat=127)):dY b=[b]:=by
 unfold dY; rw [if_neg (by omega),if_neg (by omega),if_neg (by omega),if_neg (by omega),if_neg h]
theorem jW (n:Nat):1≤(bS n).length∧(bS n).length≤2:=by
 unfold bS; split <;> simp
theorem oh (b:UInt8):1≤(dY b).length∧(dY b).length≤6:=by
 have:=jW b.toNat
 unfold dY
 repeat' split
 all_goals (simp; try omega)
theorem ix (s:Bytes):s.length≤(s.flatMap dY).length∧(s.flatMap dY).length≤6*s.length:=by
 induction s with
 | nil=>simp
 | cons b r ih=>have:=oh b; simp only [List.flatMap_cons,List.length_append,List.length_cons]; omega
theorem se (s:Bytes)(hs:s.length≤1000000000):∀ (k i:Nat) (f:Bytes),i+k=s.length→f.length≤6*i+1→Ev2 (λ _ m=>bB s m (i:Int) f) (·=f++(s.drop i).flatMap dY):=by
 intro k
 induction k with
 | zero =>
  intro i f hi hf
  refine aW ?_
  simp only [bB]
  refine ai (by omega) (ac ?_)
  rw [List.drop_of_length_le (by omega)]; simp
 | succ k ih =>
  intro i f hi hf
  refine aW ?_
  simp only [bB]
  refine aT (by omega) (ap (by omega) ?_)
  have hb:byt s i=((s.getD i 0).toNat:Int):=iH s i
  rw [hb]
  have hd:s.drop i=s.getD i 0::s.drop (i+1):=by
   rw [List.getD_eq_getElem?_getD,List.getElem?_eq_getElem (by omega),Option.getD_some]
   exact List.drop_eq_getElem_cons (by omega)
  rw [hd,List.flatMap_cons]
  generalize s.getD i 0=b
  have hbl:=b.toNat_lt
  have he:=oh b
  refine ao (f++dY b) ?_ ?_
  ·refine aB (λ h1=>?_) (λ h1=>aB (λ h2=>?_) (λ h2=>aB (λ h3=>?_) (λ h3=>?_)))
   ·rw [qk (by omega)]
    exact ao _ (aP (pt f [92,110] (by simp only [List.length_cons,List.length_nil]; omega)) rfl) (ac rfl)
   ·rw [qq (by omega)]
    exact ao _ (aP (pt f [92,114] (by simp only [List.length_cons,List.length_nil]; omega)) rfl) (ac rfl)
   ·rw [qF (by omega)]
    exact ao _ (aP (pt f [92,116] (by simp only [List.length_cons,List.length_nil]; omega)) rfl) (ac rfl)
   refine ao (decide (b.toNat=34∨b.toNat=92)) ?_ ?_
   ·by_cases h:b.toNat=34
    ·exact aT (by omega) (ac (by simp [h]))
    ·exact ai (by omega) (ac (eqB (by rw [decide_eq_true_eq,decide_eq_true_eq]; omega)))
   by_cases h4:b.toNat=34∨b.toNat=92
   ·rw [qG h4]
    refine aT (by simp [h4]) ?_
    refine ao _ (aP (lL f 92 (by omega)) rfl) (ao _ (aP (lL (f++[92]) b (by simp only [List.length_append,List.length_cons,List.length_nil]; omega)) rfl) (ac ?_))
    simp
   refine ai (by simp only [decide_eq_true_eq]; exact h4) ?_
   refine ao (decide (b.toNat < 32∨b.toNat=127)) ?_ ?_
   ·by_cases h:b.toNat < 32
    ·exact aT (by omega) (ac (by simp [h]))
    ·exact ai (by omega) (ac (eqB (by rw [decide_eq_true_eq,decide_eq_true_eq]; omega)))
   by_cases h5:b.toNat < 32∨b.toNat=127
   ·rw [pZ (by omega) (by omega) (by omega) h5]
    refine aT (by simp [h5]) (ap (bq (by omega) (by omega)) ?_)
    have hx:dJ (b.toNat:Int) 16=some (bS b.toNat):=by
     unfold dJ
     rw [bL ⟨rfl,by omega,by omega⟩]; rfl
    have hxl:=jW b.toNat
    refine ao _ (aP hx rfl) (ap (by simp only [List.length_cons,List.length_nil]; omega) (ap (by simp only [List.length_append,List.length_cons,List.length_nil]; omega) ?_))
    exact ao _ (aP (pt f _ (by simp only [List.length_append,List.length_cons,List.length_nil]; omega)) rfl) (ac (by simp))
   ·rw [mK (by omega) (by omega) h5]
    refine ai (by simp only [decide_eq_true_eq]; exact h5) ?_
    exact ao _ (aP (lL f b (by omega)) rfl) (ac rfl)
  ·refine ap (bq (by omega) (by omega)) ?_
   have:=ih (i+1) (f++dY b) (by omega) (by rw [List.length_append]; omega)
   rw [Int.natCast_add,Int.natCast_one] at this
   simpa using this
theorem rR (s:Bytes)(hs:s.length≤1000000000):Ev2 (λ n _=>cX n s) (·=gR s):=by
 simp only [cX]
 have hf:=ix s
 refine ao _ (aP (lL [] 34 (by simp)) rfl) ?_
 have l:=se s hs s.length 0 [34] (by omega) (by simp)
 rw [List.drop_zero] at l
 refine ao _ (cS l) ?_
 refine ao _ (aP (lL _ 34 (by simp only [List.length_append,List.length_cons,List.length_nil]; omega)) rfl) (ao _ (aP (bstr _ (by simp only [List.length_append,List.length_cons,List.length_nil]; omega)) rfl) (ac ?_))
 simp [gR]
end Go.Ab.R06
namespace Go.Ab.R06
open Go.Ab Go.Ab.RB Go.Lib
def tq (b:UInt8):Option Nat:=if 48≤b.toNat∧b.toNat≤57 then some (b.toNat - 48) else if 97≤b.toNat∧b.toNat≤102 then some (b.toNat - 87) else none
def hexs:Bytes:=[48,49,50,51,52,53,54,55,56,57,97,98,99,100,101,102]
theorem hexT:(List.range 256).all (λ n=>indexByte hexs (UInt8.ofNat n) == (match tq (UInt8.ofNat n) with | some d=>(d:Int) | none=>-1))=true:=by kernel_rfl
def dG:Nat→Bytes→Nat→Nat×Nat
 | 0,_,a=>(a,0)
 | _+1,[],a=>(a,0)
 | k+1,b::r,a=>match tq b with
  | some d=>((dG k r (16*a+d)).1,(dG k r (16*a+d)).2+1)
  | none=>(a,0)
def mA (s:Bytes):Int×Int×Int :=
 let h:=dG 6 s 0
 if h.2=s.length then (0,0,40)
 else if s.getD h.2 0≠125∨h.2=0∨(1 < h.2∧s.getD 0 0=48)∨validRune (h.1:Int)=false then (0,0,2)
 else ((h.1:Int),((h.2+1:Nat):Int),0)
theorem p7 {s:Bytes}{v c:Nat}(h:dG 6 s 0=(v,c)):mA s=if c=s.length then (0,0,40) else if s.getD c 0≠125∨c=0∨(1 < c∧s.getD 0 0=48)∨validRune (v:Int)=false then (0,0,2) else ((v:Int),((c+1:Nat):Int),0):=by
 unfold mA; rw [h]
def kg (s:Bytes):Int×Int×Int:=match s with
 | []=>(0,0,40)
 | b::r=>if b.toNat=110 then (10,1,0) else if b.toNat=114 then (13,1,0) else if b.toNat=116 then (9,1,0)
  else if b.toNat=34∨b.toNat=92 then ((b.toNat:Int),1,0)
  else if b.toNat=117 then (match r with
   | []=>(0,0,40)
   | c::t=>if c.toNat=123 then ((mA t).1,(mA t).2.1+2,(mA t).2.2) else (0,0,2))
  else (0,0,2)
theorem jQ (b:UInt8)(r:Bytes):kg (b::r)=if b.toNat=110 then (10,1,0) else if b.toNat=114 then (13,1,0) else if b.toNat=116 then (9,1,0)
  else if b.toNat=34∨b.toNat=92 then ((b.toNat:Int),1,0)
  else if b.toNat=117 then (match r with
   | []=>(0,0,40)
   | c::t=>if c.toNat=123 then ((mA t).1,(mA t).2.1+2,(mA t).2.2) else (0,0,2))
  else (0,0,2):=rfl
end Go.Ab.R06
namespace Go.Ab.R06
open Go.Ab Go.Ab.RB Go.Lib
def km (c:Nat×Nat):Prop:=(c.1=65533∧c.2=1)∨c.1 < 32∨c.1=127
instance (c:Nat×Nat):Decidable (km c):=inferInstanceAs (Decidable (_∨_))
theorem lB:∀ n:Fin 16,tq (hexDigit n.1)=some n.1∧((hexDigit n.1)=48→n.1=0):=by decide
theorem lq {n:Nat}(h:n < 16):tq (hexDigit n)=some n:=(lB ⟨n,h⟩).1
theorem oL (u:Nat)(h:u < 256)(t:Bytes):mA (bS u++125::t)=((u:Int),(((bS u).length+1:Nat):Int),0):=by
 have hv:validRune (u:Int)=true:=by simp only [validRune,decide_eq_true_eq]; omega
 have h125:tq 125=none:=by decide
 by_cases h1:u < 16
 ·have e:bS u=[hexDigit u]:=if_pos h1
  have hr:dG 6 (bS u++125::t) 0=(u,1):=by
   rw [e]
   show dG (5+1) (hexDigit u::125::t) 0=_
   rw [dG,lq h1]
   show ((dG (4+1) (125::t) (16*0+u)).1,(dG (4+1) (125::t) (16*0+u)).2+1)=_
   rw [dG,h125]; simp
  rw [p7 hr,e,if_neg (by simp),if_neg]
  ·simp
  ·rintro (q | q | q | q)
   ·exact q rfl
   ·cases q
   ·omega
   ·rw [hv] at q; cases q
 ·have e:bS u=[hexDigit (u / 16),hexDigit (u % 16)]:=if_neg h1
  have hr:dG 6 (bS u++125::t) 0=(u,2):=by
   rw [e]
   show dG (5+1) (hexDigit (u / 16)::hexDigit (u % 16)::125::t) 0=_
   rw [dG,lq (by omega)]
   show ((dG (4+1) (hexDigit (u % 16)::125::t) (16*0+u / 16)).1,(dG (4+1) (hexDigit (u % 16)::125::t) (16*0+u / 16)).2+1)=_
   rw [dG,lq (by omega)]
   show ((dG (3+1) (125::t) (16*(16*0+u / 16)+u % 16)).1,(dG (3+1) (125::t) (16*(16*0+u / 16)+u % 16)).2+1+1)=_
   rw [dG,h125]
   refine Prod.ext ?_ rfl
   show 16*(16*0+u / 16)+u % 16=u
   omega
  rw [p7 hr,e,if_neg (by simp),if_neg]
  ·simp
  ·rintro (q | q | q | q)
   ·exact q rfl
   ·cases q
   ·have:=(lB ⟨u / 16,by omega⟩).2 q.2
    simp only at this; omega
   ·rw [hv] at q; cases q
theorem qK (b:UInt8)(h:b.toNat < 128):encodeRune (b.toNat:Int)=[b]:=by
 simp only [encodeRune,encodeRuneZ,if_pos (show (0:Int)≤(b.toNat:Int)∧(b.toNat:Int)≤127 by omega),List.map_cons,List.map_nil]
 simp
theorem sX (b:UInt8)(h:b.toNat < 128)(c:UInt8)(rest:Bytes)(he:dY b=92::c::rest)(t:Bytes):kg (c::rest++t)=((b.toNat:Int),((rest.length+1:Nat):Int),0):=by
 have hl:∀ x y:UInt8,([x,y]:Bytes)=92::c::rest→c=y∧rest=[]:=λ x y q=>by
  have:=(List.cons.inj q).2
  exact ⟨((List.cons.inj this).1).symm,((List.cons.inj this).2).symm⟩
 by_cases h10:b.toNat=10
 ·rw [qk h10] at he
  obtain ⟨rfl,rfl⟩:=hl _ _ he
  rw [h10]; rfl
 by_cases h13:b.toNat=13
 ·rw [qq h13] at he
  obtain ⟨rfl,rfl⟩:=hl _ _ he
  rw [h13]; rfl
 by_cases h9:b.toNat=9
 ·rw [qF h9] at he
  obtain ⟨rfl,rfl⟩:=hl _ _ he
  rw [h9]; rfl
 by_cases hq:b.toNat=34∨b.toNat=92
 ·rw [qG hq] at he
  obtain ⟨rfl,rfl⟩:=hl _ _ he
  rw [List.cons_append,jQ,if_neg (by omega),if_neg (by omega),if_neg (by omega),if_pos hq]
  rfl
 by_cases hu:b.toNat < 32∨b.toNat=127
 ·rw [pZ h10 h13 h9 hu] at he
  have he:(92:UInt8)::117::(123::(bS b.toNat++[125]))=92::c::rest:=he
  obtain ⟨hc,hr⟩:=List.cons.inj (List.cons.inj he).2
  subst hc
  subst hr
  have hh:=oL b.toNat (by omega) t
  have e2:(123::(bS b.toNat++[125]):Bytes)++t=123::(bS b.toNat++125::t):=by simp
  rw [List.cons_append,e2,jQ,if_neg (by decide),if_neg (by decide),if_neg (by decide),if_neg (by decide),if_pos (by decide)]
  show (if (123:UInt8).toNat=123 then _ else _)=_
  rw [if_pos (by decide),hh]
  refine Prod.ext rfl (Prod.ext ?_ rfl)
  simp only [List.length_cons,List.length_append,List.length_nil]
  omega
 ·rw [mK (by omega) (by omega) hu] at he
  cases he
theorem mJ:∀ p:Bytes,(∀ y∈p,128≤y.toNat)→p.flatMap dY=p
 | [],_=>rfl
 | y::r,h=>by
  have hy:=h y List.mem_cons_self
  rw [List.flatMap_cons,mJ r (λ z hz=>h z (List.mem_cons_of_mem _ hz)),mK (by omega) (by omega) (by omega)]
  rfl
theorem uB:∀ (k u:Nat),u < 10 ^ (k+1)→(decDigits u).length≤k+1:=by
 intro k
 induction k with
 | zero=>intro u h; rw [decDigits,dif_pos (by simpa using h)]; simp
 | succ k ih =>
  intro u h
  rw [decDigits]
  split
  ·simp
  ·have:=ih (u / 10) (by rw [Nat.pow_succ] at h; omega)
   rw [List.length_append]; simp; omega
theorem rU {v:Int}(h0:0≤v)(h1:v≤eN):(itoa v).length≤16:=by
 obtain ⟨u,rfl⟩:∃ u:Nat,v=u:=⟨v.toNat,by omega⟩
 unfold itoa
 rw [if_neg (by omega),Int.toNat_natCast]
 exact uB 15 u (by unfold eN at h1; omega)
end Go.Ab.R06
end
section
namespace Go.Ab.R06
open Go.Proofs Go.Ab Go.Ab.RB
attribute [local irreducible] awp eM a8 aE dx AV.sub M cT
def cn (s_0:Bytes)(i_1:Int)(lo_2:Int)(hi_3:Int):Option Bool :=
 (
   if i_1 < (s_0.length:Int) then
    ck ((0:Int)≤i_1∧i_1 < (s_0.length:Int)) <|
    if lo_2≤byt s_0 i_1 then
     ck ((0:Int)≤i_1∧i_1 < (s_0.length:Int)) <|
     some (decide (byt s_0 i_1≤hi_3))
    else
     some false
   else
    some false
  : Option Bool).bind λ t5 =>
 some t5
theorem dI (s_0:Bytes)(i_1:Int)(lo_2:Int)(hi_3:Int)(r:Bool)(h0:cn s_0 i_1 lo_2 hi_3=some r):aE Tryd.prog 99 [eS s_0,eI i_1,eK .u8 lo_2,eK .u8 hi_3] (·=.p (eB r)):=by
 unfold cn at h0
 refine aY good Tryd.func99 rfl rfl rfl λ w0=>mP (λ v:Bool=>.p (eB v)) ?_
 refine nx 5 rfl (bd h0 λ o7 h1 h0=>?_)
 refine kN o7 (λ v8=>⟨[(8,.p (eB v8))],[]⟩) ?_ ?_
 ·exact nx 2 rfl (mQ (oi h0) rfl (sr))
 refine nx 3 rfl (oLs rfl ?_)
 refine nx 2 rfl (fD [12,13] h1 rfl (λ c1 h1=>?_) λ c1 h1=>?_)
 ·refine nx 2 rfl (oI h1 rfl λ hk2 h1=>?_)
  refine nx 4 rfl (fD [18,19,20] h1 rfl (λ c3 h1=>?_) λ c3 h1=>?_)
  ·refine nx 2 rfl (oI h1 rfl λ hk4 h1=>?_)
   exact nx 5 rfl (eX _ (oi h1).symm (gE rfl rfl))
  exact nx 8 rfl (eX _ (oi h1).symm (gE rfl rfl))
 exact nx 15 rfl (eX _ (oi h1).symm (gE rfl rfl))
def eA (s_0:Bytes)(i_1:Int):Option (Int×Int) :=
 (
   if i_1 < 0 then
    some true
   else
    some (decide ((s_0.length:Int)≤i_1))
  : Option Bool).bind λ t2 =>
 if t2=true then
  some (0,0)
 else
  ck ((0:Int)≤i_1∧i_1 < (s_0.length:Int)) <|
  if byt s_0 i_1 < 128 then
   ck (inR (byt s_0 i_1)) <|
   some (byt s_0 i_1,1)
  else
   (
     if 194≤byt s_0 i_1 then
      if byt s_0 i_1≤223 then
       ck (inR (i_1+1)) <|
       (cn s_0 (i_1+1) 128 191).bind λ r10 =>
       some r10
      else
       some false
     else
      some false
    : Option Bool).bind λ t12 =>
   if t12=true then
    ck (inR (de .u8 (byt s_0 i_1) 31)) <|
    ck ((0:Int)≤6) <|
    ck (inR (i_1+1)) <|
    ck ((0:Int)≤i_1+1∧i_1+1 < (s_0.length:Int)) <|
    ck (inR (de .u8 (byt s_0 (i_1+1)) 63)) <|
    some (iOr .i64 (ep .i64 (de .u8 (byt s_0 i_1) 31) 6) (de .u8 (byt s_0 (i_1+1)) 63),2)
   else
    (
      if byt s_0 i_1=224 then
       some 160
      else
       some 128
     : Option Int).bind λ lo20 =>
    (
      if byt s_0 i_1=237 then
       some 159
      else
       some 191
     : Option Int).bind λ hi22 =>
    (
      if 224≤byt s_0 i_1 then
       if byt s_0 i_1≤239 then
        ck (inR (i_1+1)) <|
        (cn s_0 (i_1+1) lo20 hi22).bind λ r26 =>
        if r26=true then
         ck (inR (i_1+2)) <|
         (cn s_0 (i_1+2) 128 191).bind λ r30 =>
         some r30
        else
         some false
       else
        some false
      else
       some false
     : Option Bool).bind λ t32 =>
    if t32=true then
     ck (inR (de .u8 (byt s_0 i_1) 15)) <|
     ck ((0:Int)≤12) <|
     ck (inR (i_1+1)) <|
     ck ((0:Int)≤i_1+1∧i_1+1 < (s_0.length:Int)) <|
     ck (inR (de .u8 (byt s_0 (i_1+1)) 63)) <|
     ck ((0:Int)≤6) <|
     ck (inR (i_1+2)) <|
     ck ((0:Int)≤i_1+2∧i_1+2 < (s_0.length:Int)) <|
     ck (inR (de .u8 (byt s_0 (i_1+2)) 63)) <|
     some (iOr .i64 (iOr .i64 (ep .i64 (de .u8 (byt s_0 i_1) 15) 12) (ep .i64 (de .u8 (byt s_0 (i_1+1)) 63) 6)) (de .u8 (byt s_0 (i_1+2)) 63),3)
    else
     (
       if byt s_0 i_1=240 then
        some 144
       else
        some 128
      : Option Int).bind λ lo44 =>
     (
       if byt s_0 i_1=244 then
        some 143
       else
        some 191
      : Option Int).bind λ hi46 =>
     (
       if 240≤byt s_0 i_1 then
        if byt s_0 i_1≤244 then
         ck (inR (i_1+1)) <|
         (cn s_0 (i_1+1) lo44 hi46).bind λ r50 =>
         if r50=true then
          ck (inR (i_1+2)) <|
          (cn s_0 (i_1+2) 128 191).bind λ r54 =>
          if r54=true then
           ck (inR (i_1+3)) <|
           (cn s_0 (i_1+3) 128 191).bind λ r58 =>
           some r58
          else
           some false
         else
          some false
        else
         some false
       else
        some false
      : Option Bool).bind λ t60 =>
     if t60=true then
      ck (inR (de .u8 (byt s_0 i_1) 7)) <|
      ck ((0:Int)≤18) <|
      ck (inR (i_1+1)) <|
      ck ((0:Int)≤i_1+1∧i_1+1 < (s_0.length:Int)) <|
      ck (inR (de .u8 (byt s_0 (i_1+1)) 63)) <|
      ck ((0:Int)≤12) <|
      ck (inR (i_1+2)) <|
      ck ((0:Int)≤i_1+2∧i_1+2 < (s_0.length:Int)) <|
      ck (inR (de .u8 (byt s_0 (i_1+2)) 63)) <|
      ck ((0:Int)≤6) <|
      ck (inR (i_1+3)) <|
      ck ((0:Int)≤i_1+3∧i_1+3 < (s_0.length:Int)) <|
      ck (inR (de .u8 (byt s_0 (i_1+3)) 63)) <|
      some (iOr .i64 (iOr .i64 (iOr .i64 (ep .i64 (de .u8 (byt s_0 i_1) 7) 18) (ep .i64 (de .u8 (byt s_0 (i_1+1)) 63) 12)) (ep .i64 (de .u8 (byt s_0 (i_1+2)) 63) 6)) (de .u8 (byt s_0 (i_1+3)) 63),4)
     else
      some (0,0)
theorem kh (s_0:Bytes)(i_1:Int)(r:Int×Int)(h0:eA s_0 i_1=some r):aE Tryd.prog 96 [eS s_0,eI i_1] (·=.tuple [.p (eI r.1),.p (eI r.2)]):=by
 unfold eA at h0
 refine aY good Tryd.func96 rfl rfl rfl λ w0=>mP (λ v:Int×Int=>.tuple [.p (eI v.1),.p (eI v.2)]) ?_
 refine nx 7 rfl (bd h0 λ o83 h1 h0=>?_)
 refine kN o83 (λ v84=>⟨[(0,.p (eS s_0)),(1,.p (eI i_1)),(16,.p (eB v84))],[]⟩) ?_ ?_
 ·refine nx 1 rfl (fB [16] h0 rfl (λ c3 h0=>?_) λ c3 h0=>?_)
  ·exact nx 7 rfl (mQ (oi h0) rfl (cD ⟨sr,sr,trivial⟩))
  refine nx 6 rfl (oI h0 rfl λ hk4 h0=>?_)
  refine nx 8 rfl (fD [21] h0 rfl (λ c5 h0=>?_) λ c5 h0=>?_)
  ·refine nx 4 rfl (cc' h0 λ hk6 h0=>?_)
   refine mO rfl (dc rfl rfl rfl rfl rfl rfl rfl rfl (eF hk6) ?_)
   exact nx 4 rfl (mQ (oi h0) rfl (cD ⟨sr,sr,trivial⟩))
  refine nx 4 rfl (bd h0 λ o85 h1 h0=>?_)
  refine kN o85 (λ v86=>⟨[(0,.p (eS s_0)),(1,.p (eI i_1)),(6,.p (eK .u8 (byt s_0 i_1))),(35,.p (eB v86))],[]⟩) ?_ ?_
  ·refine nx 1 rfl (fB [35] h0 rfl (λ c13 h0=>?_) λ c13 h0=>?_)
   ·refine nx 5 rfl (cc' h0 λ hk14 h0=>?_)
    refine mO rfl (dc rfl rfl rfl rfl rfl rfl rfl rfl (eF hk14) ?_)
    refine cc' h0 λ hk15 h0=>mO rfl (mL rfl rfl rfl rfl rfl rfl hk15 ?_)
    refine nx 2 rfl (oA h0 rfl rfl λ hk16 h0=>?_)
    refine oI h0 rfl λ hk17 h0=>nx 1 rfl (cc' h0 λ hk18 h0=>?_)
    refine mO rfl (dc rfl rfl rfl rfl rfl rfl rfl rfl (eF hk18) ?_)
    exact nx 5 rfl (mQ (oi h0) rfl (cD ⟨sr,sr,trivial⟩))
   refine nx 8 rfl (bd h0 λ o87 h1 h0=>?_)
   refine kN o87 (λ v88=>⟨[(0,.p (eS s_0)),(1,.p (eI i_1)),(6,.p (eK .u8 (byt s_0 i_1))),(7,.p (eK .u8 v88)),(8,.p (eK .u8 191))],[]⟩) ?_ ?_
   ·refine nx 2 rfl (bd h0 λ o89 h1 h0=>?_)
    refine kN o89 (λ v90=>⟨[(0,.p (eS s_0)),(1,.p (eI i_1)),(6,.p (eK .u8 (byt s_0 i_1))),(7,.p (eK .u8 o87)),(8,.p (eK .u8 v90))],[]⟩) ?_ ?_
    ·refine nx 3 rfl (bd h0 λ o91 h1 h0=>?_)
     refine kN o91 (λ v92=>⟨[(0,.p (eS s_0)),(1,.p (eI i_1)),(6,.p (eK .u8 (byt s_0 i_1))),(70,.p (eB v92))],[]⟩) ?_ ?_
     ·refine nx 1 rfl (fB [70] h0 rfl (λ c33 h0=>?_) λ c33 h0=>?_)
      ·refine nx 2 rfl (cc' h0 λ hk34 h0=>?_)
       refine cc' h0 λ hk35 h0=>cc' h0 λ hk36 h0=>cc' h0 λ hk37 h0=>cc' h0 λ hk38 h0=>cc' h0 λ hk39 h0=>cc' h0 λ hk40 h0=>cc' h0 λ hk41 h0=>cc' h0 λ hk42 h0=>mD [(0,.p (eS s_0)),(1,.p (eI i_1)),(6,.p (eK .u8 (byt s_0 i_1)))] rfl ⟨rfl,rfl,rfl,trivial⟩ rfl (dR 2 rfl ?_)
       refine dq (.p (eI (de .u8 (byt s_0 i_1) 15))) [72] rfl (λ _ e _ q=>ah rfl (dc rfl rfl rfl rfl rfl rfl rfl (e _ _ rfl) (eF hk34) q)) rfl (dq (.p (eI (ep .i64 (de .u8 (byt s_0 i_1) 15) 12))) [73] rfl (λ _ e _ q=>ah rfl (mL rfl rfl rfl (e _ _ rfl) rfl rfl hk35 q)) rfl ?_)
       refine dR 2 rfl (dq (.p (eI (i_1+1))) [76] rfl (λ _ e _ q=>ah rfl (iT rfl rfl rfl (e _ _ rfl) rfl rfl hk36 q)) rfl ?_)
       refine dq (.p (eK .u8 (byt s_0 (i_1+1)))) [75,77] rfl (λ _ e _ q=>ah rfl (fC rfl rfl rfl rfl rfl (e _ _ rfl) (e _ _ rfl) hk37 q)) rfl (dR 1 rfl ?_)
       refine dq (.p (eI (de .u8 (byt s_0 (i_1+1)) 63))) [79] rfl (λ _ e _ q=>ah rfl (dc rfl rfl rfl rfl rfl rfl rfl (e _ _ rfl) (eF hk38) q)) rfl (dq (.p (eI (ep .i64 (de .u8 (byt s_0 (i_1+1)) 63) 6))) [80] rfl (λ _ e _ q=>ah rfl (mL rfl rfl rfl (e _ _ rfl) rfl rfl hk39 q)) rfl ?_)
       refine dR 3 rfl (dq (.p (eI (i_1+2))) [84] rfl (λ _ e _ q=>ah rfl (iT rfl rfl rfl (e _ _ rfl) rfl rfl hk40 q)) rfl ?_)
       refine dq (.p (eK .u8 (byt s_0 (i_1+2)))) [83,85] rfl (λ _ e _ q=>ah rfl (fC rfl rfl rfl rfl rfl (e _ _ rfl) (e _ _ rfl) hk41 q)) rfl (dR 1 rfl ?_)
       refine dq (.p (eI (de .u8 (byt s_0 (i_1+2)) 63))) [87] rfl (λ _ e _ q=>ah rfl (dc rfl rfl rfl rfl rfl rfl rfl (e _ _ rfl) (eF hk42) q)) rfl (dR 3 rfl ?_)
       refine dE rfl (nx 2 rfl ?_)
       exact mQ (oi h0) rfl (cD ⟨sr,sr,trivial⟩)
      refine nx 8 rfl (bd h0 λ o93 h1 h0=>?_)
      refine kN o93 (λ v94=>⟨[(0,.p (eS s_0)),(1,.p (eI i_1)),(6,.p (eK .u8 (byt s_0 i_1))),(7,.p (eK .u8 v94)),(8,.p (eK .u8 191))],[]⟩) ?_ ?_
      ·refine nx 2 rfl (bd h0 λ o95 h1 h0=>?_)
       refine kN o95 (λ v96=>⟨[(0,.p (eS s_0)),(1,.p (eI i_1)),(6,.p (eK .u8 (byt s_0 i_1))),(7,.p (eK .u8 o93)),(8,.p (eK .u8 v96))],[]⟩) ?_ ?_
       ·refine nx 3 rfl (bd h0 λ o97 h1 h0=>?_)
        refine kN o97 (λ v98=>⟨[(0,.p (eS s_0)),(1,.p (eI i_1)),(6,.p (eK .u8 (byt s_0 i_1))),(119,.p (eB v98))],[]⟩) ?_ ?_
        ·refine nx 1 rfl (fB [119] h0 rfl (λ c61 h0=>?_) λ c61 h0=>?_)
         ·refine nx 2 rfl (cc' h0 λ hk62 h0=>?_)
          refine cc' h0 λ hk63 h0=>cc' h0 λ hk64 h0=>cc' h0 λ hk65 h0=>cc' h0 λ hk66 h0=>cc' h0 λ hk67 h0=>cc' h0 λ hk68 h0=>cc' h0 λ hk69 h0=>cc' h0 λ hk70 h0=>cc' h0 λ hk71 h0=>cc' h0 λ hk72 h0=>cc' h0 λ hk73 h0=>cc' h0 λ hk74 h0=>?_
          refine mD [(0,.p (eS s_0)),(1,.p (eI i_1)),(6,.p (eK .u8 (byt s_0 i_1)))] rfl ⟨rfl,rfl,rfl,trivial⟩ rfl (dR 2 rfl ?_)
          refine dq (.p (eI (de .u8 (byt s_0 i_1) 7))) [121] rfl (λ _ e _ q=>ah rfl (dc rfl rfl rfl rfl rfl rfl rfl (e _ _ rfl) (eF hk62) q)) rfl (dq (.p (eI (ep .i64 (de .u8 (byt s_0 i_1) 7) 18))) [122] rfl (λ _ e _ q=>ah rfl (mL rfl rfl rfl (e _ _ rfl) rfl rfl hk63 q)) rfl ?_)
          refine dR 2 rfl (dq (.p (eI (i_1+1))) [125] rfl (λ _ e _ q=>ah rfl (iT rfl rfl rfl (e _ _ rfl) rfl rfl hk64 q)) rfl ?_)
          refine dq (.p (eK .u8 (byt s_0 (i_1+1)))) [124,126] rfl (λ _ e _ q=>ah rfl (fC rfl rfl rfl rfl rfl (e _ _ rfl) (e _ _ rfl) hk65 q)) rfl (dR 1 rfl ?_)
          refine dq (.p (eI (de .u8 (byt s_0 (i_1+1)) 63))) [128] rfl (λ _ e _ q=>ah rfl (dc rfl rfl rfl rfl rfl rfl rfl (e _ _ rfl) (eF hk66) q)) rfl (dq (.p (eI (ep .i64 (de .u8 (byt s_0 (i_1+1)) 63) 12))) [129] rfl (λ _ e _ q=>ah rfl (mL rfl rfl rfl (e _ _ rfl) rfl rfl hk67 q)) rfl ?_)
          refine dR 3 rfl (dq (.p (eI (i_1+2))) [133] rfl (λ _ e _ q=>ah rfl (iT rfl rfl rfl (e _ _ rfl) rfl rfl hk68 q)) rfl ?_)
          refine dq (.p (eK .u8 (byt s_0 (i_1+2)))) [132,134] rfl (λ _ e _ q=>ah rfl (fC rfl rfl rfl rfl rfl (e _ _ rfl) (e _ _ rfl) hk69 q)) rfl (dR 1 rfl ?_)
          refine dq (.p (eI (de .u8 (byt s_0 (i_1+2)) 63))) [136] rfl (λ _ e _ q=>ah rfl (dc rfl rfl rfl rfl rfl rfl rfl (e _ _ rfl) (eF hk70) q)) rfl (dq (.p (eI (ep .i64 (de .u8 (byt s_0 (i_1+2)) 63) 6))) [137] rfl (λ _ e _ q=>ah rfl (mL rfl rfl rfl (e _ _ rfl) rfl rfl hk71 q)) rfl ?_)
          refine dR 3 rfl (dq (.p (eI (i_1+3))) [141] rfl (λ _ e _ q=>ah rfl (iT rfl rfl rfl (e _ _ rfl) rfl rfl hk72 q)) rfl ?_)
          refine dq (.p (eK .u8 (byt s_0 (i_1+3)))) [140,142] rfl (λ _ e _ q=>ah rfl (fC rfl rfl rfl rfl rfl (e _ _ rfl) (e _ _ rfl) hk73 q)) rfl (dR 1 rfl ?_)
          refine dq (.p (eI (de .u8 (byt s_0 (i_1+3)) 63))) [144] rfl (λ _ e _ q=>ah rfl (dc rfl rfl rfl rfl rfl rfl rfl (e _ _ rfl) (eF hk74) q)) rfl (dR 3 rfl ?_)
          refine dE rfl (nx 1 rfl ?_)
          refine mG (gE (t:=⟨[(4,.p (eI (iOr .i64 (iOr .i64 (iOr .i64 (ep .i64 (de .u8 (byt s_0 i_1) 7) 18) (ep .i64 (de .u8 (byt s_0 (i_1+1)) 63) 12)) (ep .i64 (de .u8 (byt s_0 (i_1+2)) 63) 6)) (de .u8 (byt s_0 (i_1+3)) 63)))),(5,.p (eI 4))],[]⟩) rfl rfl) (nx 1 rfl ?_)
          exact mQ (oi h0) rfl (cD ⟨sr,sr,trivial⟩)
         exact nx 8 rfl (mQ (oi h0) rfl (cD ⟨sr,sr,trivial⟩))
        refine nx 4 rfl (fD [95,96] h1 rfl (λ c47 h1=>?_) λ c47 h1=>?_)
        ·refine nx 4 rfl (fD [98,99,100] h1 rfl (λ c48 h1=>?_) λ c48 h1=>?_)
         ·refine nx 2 rfl (oA h1 rfl rfl λ hk49 h1=>?_)
          refine nx 2 rfl (bd h1 λ r50 e51 h1=>?_)
          refine oK (dI s_0 (i_1+1) o93 o95 _ e51) rfl ⟨sr,sr,sr,sr,trivial⟩ Tryd.call99 rfl (nx 2 rfl ?_)
          refine fB [106,107,108] h1 rfl (λ c52 h1=>?_) λ c52 h1=>?_
          ·refine nx 2 rfl (oA h1 rfl rfl λ hk53 h1=>?_)
           refine bd h1 λ r54 e55 h1=>oK (dI s_0 (i_1+2) 128 191 _ e55) rfl ⟨sr,sr,sr,sr,trivial⟩ Tryd.call99 rfl (nx 2 rfl ?_)
           refine fB [112,113,114] h1 rfl (λ c56 h1=>?_) λ c56 h1=>?_
           ·refine nx 2 rfl (oA h1 rfl rfl λ hk57 h1=>?_)
            refine bd h1 λ r58 e59 h1=>oK (dI s_0 (i_1+3) 128 191 _ e59) rfl ⟨sr,sr,sr,sr,trivial⟩ Tryd.call99 rfl (nx 2 rfl ?_)
            exact eX _ (oi h1).symm (gE rfl rfl)
           exact nx 6 rfl (eX _ (oi h1).symm (gE rfl rfl))
          exact nx 12 rfl (eX _ (oi h1).symm (gE rfl rfl))
         exact nx 20 rfl (eX _ (oi h1).symm (gE rfl rfl))
        exact nx 24 rfl (eX _ (oi h1).symm (gE rfl rfl))
       refine nx 5 rfl (fD [93] h1 rfl (λ c45 h1=>?_) λ c45 h1=>?_)
       ·exact nx 4 rfl (eX _ (oi h1).symm (gE rfl rfl))
       exact nx 2 rfl (eX _ (oi h1).symm (gE rfl rfl))
      refine nx 5 rfl (fD [91] h1 rfl (λ c43 h1=>?_) λ c43 h1=>?_)
      ·exact nx 4 rfl (eX _ (oi h1).symm (gE rfl rfl))
      exact nx 2 rfl (eX _ (oi h1).symm (gE rfl rfl))
     refine nx 4 rfl (fD [52,53] h1 rfl (λ c23 h1=>?_) λ c23 h1=>?_)
     ·refine nx 4 rfl (fD [55,56,57] h1 rfl (λ c24 h1=>?_) λ c24 h1=>?_)
      ·refine nx 2 rfl (oA h1 rfl rfl λ hk25 h1=>?_)
       refine nx 2 rfl (bd h1 λ r26 e27 h1=>?_)
       refine oK (dI s_0 (i_1+1) o87 o89 _ e27) rfl ⟨sr,sr,sr,sr,trivial⟩ Tryd.call99 rfl (nx 2 rfl ?_)
       refine fB [63,64,65] h1 rfl (λ c28 h1=>?_) λ c28 h1=>?_
       ·refine nx 2 rfl (oA h1 rfl rfl λ hk29 h1=>?_)
        refine bd h1 λ r30 e31 h1=>oK (dI s_0 (i_1+2) 128 191 _ e31) rfl ⟨sr,sr,sr,sr,trivial⟩ Tryd.call99 rfl (nx 2 rfl ?_)
        exact eX _ (oi h1).symm (gE rfl rfl)
       exact nx 6 rfl (eX _ (oi h1).symm (gE rfl rfl))
      exact nx 14 rfl (eX _ (oi h1).symm (gE rfl rfl))
     exact nx 18 rfl (eX _ (oi h1).symm (gE rfl rfl))
    refine nx 5 rfl (fD [50] h1 rfl (λ c21 h1=>?_) λ c21 h1=>?_)
    ·exact nx 4 rfl (eX _ (oi h1).symm (gE rfl rfl))
    exact nx 2 rfl (eX _ (oi h1).symm (gE rfl rfl))
   refine nx 5 rfl (fD [48] h1 rfl (λ c19 h1=>?_) λ c19 h1=>?_)
   ·exact nx 4 rfl (eX _ (oi h1).symm (gE rfl rfl))
   exact nx 2 rfl (eX _ (oi h1).symm (gE rfl rfl))
  refine nx 4 rfl (fD [25,26] h1 rfl (λ c7 h1=>?_) λ c7 h1=>?_)
  ·refine nx 4 rfl (fD [28,29,30] h1 rfl (λ c8 h1=>?_) λ c8 h1=>?_)
   ·refine nx 2 rfl (oA h1 rfl rfl λ hk9 h1=>?_)
    refine bd h1 λ r10 e11 h1=>oK (dI s_0 (i_1+1) 128 191 _ e11) rfl ⟨sr,sr,sr,sr,trivial⟩ Tryd.call99 rfl (nx 2 rfl ?_)
    exact eX _ (oi h1).symm (gE rfl rfl)
   exact nx 6 rfl (eX _ (oi h1).symm (gE rfl rfl))
  exact nx 10 rfl (eX _ (oi h1).symm (gE rfl rfl))
 refine nx 4 rfl (fD [10,11] h1 rfl (λ c1 h1=>?_) λ c1 h1=>?_)
 ·exact nx 6 rfl (eX _ (oi h1).symm (gE rfl rfl))
 refine nx 2 rfl (oLs rfl ?_)
 exact nx 3 rfl (eX _ (oi h1).symm (gE rfl rfl))
def da (s_0:Bytes):Nat→Int→Option (Unit⊕Bool)
 | 0,_=>none
 | m+1,i8 =>
 if i8 < (s_0.length:Int) then
  (eA s_0 i8).bind λ r10 =>
  if r10.2=0 then
   some (.inr false)
  else
   ck (inR (i8+r10.2)) <|
   da s_0 m (i8+r10.2)
 else
  some (.inl ())
def dQ (n:Nat)(s_0:Bytes):Option Bool :=
 if 4096 < (s_0.length:Int) then
  some false
 else
  jn (da s_0 n 0) λ _q15 =>
  some true
theorem ls (n:Nat)(s_0:Bytes)(r:Bool)(h0:dQ n s_0=some r):aE Tryd.prog 89 [eS s_0] (·=.p (eB r)):=by
 unfold dQ at h0
 refine aY good Tryd.func89 rfl rfl rfl λ w0=>mP (λ v:Bool=>.p (eB v)) ?_
 refine nx 8 rfl (oLs rfl ?_)
 refine nx 2 rfl (fD [8] h0 rfl (λ c1 h0=>?_) λ c1 h0=>?_)
 ·exact nx 6 rfl (mQ (oi h0) rfl (sr))
 refine nx 8 rfl ?_
 obtain ⟨o16,h1,hL0,hR0⟩:=fP h0
 refine kEx 0 (λ v17:Unit=>o16=.inl v17) (λ v17=>⟨[],[]⟩) (λ v17 hv=>?_) ?_
 ·have h0:=hL0 _ hv
  exact nx 6 rfl (mQ (oi h0) rfl (sr))
 refine lG (λ (q18:Int)=>⟨[(0,.p (eS s_0)),(3,.p (eI q18))],[]⟩) (λ m (q18:Int)=>da s_0 m q18) (λ _=>rfl) 0 h1 (gE rfl rfl) ?_
 rintro m i8 h1
 replace h1:da s_0 (m+1) i8=some o16:=h1
 rw [da] at h1
 refine nx 5 rfl (oLs rfl ?_)
 refine nx 2 rfl (fD [12] h1 rfl (λ c9 h1=>?_) λ c9 h1=>?_)
 ·refine nx 7 rfl (bd h1 λ r10 e11 h1=>?_)
  refine oK (kh s_0 i8 _ e11) rfl ⟨sr,sr,trivial⟩ Tryd.call96 rfl (nx 12 rfl ?_)
  refine fD [20] h1 rfl (λ c12 h1=>?_) λ c12 h1=>?_
  ·exact nx 6 rfl (mQ (hR0 _ (oi h1).symm) rfl (sr))
  refine nx 5 rfl (oA h1 rfl rfl λ hk13 h1=>?_)
  exact nx 2 rfl (eX (i8+r10.2) h1 (gE rfl rfl))
 exact nx 2 rfl (eXi _ (oi h1).symm (gE rfl rfl))
def cP (n_0:Int):Option Bool :=
 (
   if (-9007199254740992)≤n_0 then
    some (decide (n_0≤9007199254740992))
   else
    some false
  : Option Bool).bind λ t2 =>
 some t2
theorem lu (n_0:Int)(r:Bool)(h0:cP n_0=some r):aE Tryd.prog 78 [eI n_0] (·=.p (eB r)):=by
 unfold cP at h0
 refine aY good Tryd.func78 rfl rfl rfl λ w0=>mP (λ v:Bool=>.p (eB v)) ?_
 refine nx 5 rfl (bd h0 λ o4 h1 h0=>?_)
 refine kN o4 (λ v5=>⟨[(2,.p (eB v5))],[]⟩) ?_ ?_
 ·exact nx 2 rfl (mQ (oi h0) rfl (sr))
 refine nx 4 rfl (fD [4,5] h1 rfl (λ c1 h1=>?_) λ c1 h1=>?_)
 ·exact nx 5 rfl (eX _ (oi h1).symm (gE rfl rfl))
 exact nx 5 rfl (eX _ (oi h1).symm (gE rfl rfl))
end Go.Ab.R06
end
section
namespace Go.Ab.R06
open Go.Ab Go.Ab.RB Go.Lib
theorem t31:(List.range 256).all (λ n=>de .u8 (n:Int) 31 == ((n % 32:Nat):Int))=true:=by kernel_rfl
theorem t15:(List.range 256).all (λ n=>de .u8 (n:Int) 15 == ((n % 16:Nat):Int))=true:=by kernel_rfl
theorem t7:(List.range 256).all (λ n=>de .u8 (n:Int) 7 == ((n % 8:Nat):Int))=true:=by kernel_rfl
theorem or64 (a b:Nat)(ha:a < 4611686018427387904)(hb:b < 4611686018427387904):iOr .i64 (a:Int) (b:Int)=((a ||| b:Nat):Int):=by
 have hlt:a ||| b < 4611686018427387904:=Nat.or_lt_two_pow (n:=62) ha hb
 have e1:(BitVec.ofInt 64 (a:Int)).toNat=a:=by
  rw [BitVec.toNat_ofInt]; omega
 have e2:(BitVec.ofInt 64 (b:Int)).toNat=b:=by
  rw [BitVec.toNat_ofInt]; omega
 show IntKind.wrap .i64 (((BitVec.ofInt 64 (a:Int)) ||| (BitVec.ofInt 64 (b:Int))).toNat:Nat)=_
 rw [BitVec.toNat_or,e1,e2]
 simp [IntKind.wrap,IntKind.bits,IntKind.signed]
 omega
theorem mE (a b k:Nat)(ha:a*2 ^ k < 4611686018427387904)(hb:b < 2 ^ k)(hk:k≤20):iOr .i64 ((a*2 ^ k:Nat):Int) (b:Int)=((a*2 ^ k+b:Nat):Int):=by
 have hp:2 ^ k≤2 ^ 20:=Nat.pow_le_pow_right (by decide) hk
 have h20:(2:Nat) ^ 20=1048576:=rfl
 rw [or64 _ _ ha (by omega)]
 have:=Nat.shiftLeft_add_eq_or_of_lt hb a
 rw [Nat.shiftLeft_eq] at this
 rw [← this]
theorem mX (a k:Nat)(hk:k≤20)(ha:a*2 ^ k < 4611686018427387904):ep .i64 (a:Int) (k:Int)=((a*2 ^ k:Nat):Int):=by
 have:min (k:Int).toNat IntKind.i64.bits=k:=by
  have:IntKind.i64.bits=64:=rfl
  rw [this]; omega
 unfold ep
 rw [this]
 have e:(a:Int)*2 ^ k=((a*2 ^ k:Nat):Int):=by push_cast; rfl
 rw [e]
 generalize a*2 ^ k=v at ha
 simp [IntKind.wrap,IntKind.bits,IntKind.signed]
 omega
def vo (l:Bytes):Int×Int:=if (decodeL l).1=65533∧(decodeL l).2=1 then (0,0) else (((decodeL l).1:Int),((decodeL l).2:Int))
theorem uy (s:Bytes)(j:Nat)(lo hi:Int):cn s (j:Int) lo hi=some (decide (j < s.length∧lo≤((s.getD j 0).toNat:Int)∧((s.getD j 0).toNat:Int)≤hi)):=by
 unfold cn
 have hb:byt s (j:Int)=((s.getD j 0).toNat:Int):=iH s j
 rw [hb]
 by_cases h:j < s.length
 ·rw [if_pos (by omega),bL (by omega)]
  by_cases h2:lo≤((s.getD j 0).toNat:Int)
  ·rw [if_pos h2,bL (by omega)]
   refine congrArg some (eqB ?_)
   rw [decide_eq_true_eq,decide_eq_true_eq]
   exact ⟨λ q=>⟨h,h2,q⟩,λ q=>q.2.2⟩
  ·rw [if_neg h2,Option.bind_some]
   symm; rw [Option.some.injEq,decide_eq_false_iff_not]
   exact λ q=>h2 q.2.1
 ·rw [if_neg (by omega)]; simp [h]
set_option maxHeartbeats 8000000 in
theorem pL (s:Bytes)(i:Nat)(hi:i < s.length)(hs:s.length≤1000000000):eA s (i:Int)=some (vo (s.drop i)):=by
 have hg:∀ k,(s.drop i).getD k 0=s.getD (i+k) 0:=λ k=>by
  rw [List.getD_eq_getElem?_getD,List.getElem?_drop,List.getD_eq_getElem?_getD]
 unfold eA vo
 rw [decodeL_N,hg,hg,hg,hg,Nat.add_zero,List.length_drop]
 have b:∀ k:Nat,byt s ((i:Int)+k)=((s.getD (i+k) 0).toNat:Int):=λ k=>by
  rw [show (i:Int)+(k:Int)=((i+k:Nat):Int) by omega]; exact iH s (i+k)
 have c:∀ (k:Nat) lo hi,cn s ((i:Int)+k) lo hi=some (decide (k < s.length - i∧lo≤((s.getD (i+k) 0).toNat:Int)∧((s.getD (i+k) 0).toNat:Int)≤hi)):=λ k lo hi=>by
  rw [show (i:Int)+(k:Int)=((i+k:Nat):Int) by omega,uy]
  refine congrArg some (eqB ?_)
  rw [decide_eq_true_eq,decide_eq_true_eq]
  constructor
  ·rintro ⟨h1,h2⟩; exact ⟨by omega,h2⟩
  ·rintro ⟨h1,h2⟩; exact ⟨by omega,h2⟩
 have b0:byt s (i:Int)=((s.getD i 0).toNat:Int):=iH s i
 have b1:byt s ((i:Int)+1)=((s.getD (i+1) 0).toNat:Int):=b 1
 have b2:byt s ((i:Int)+2)=((s.getD (i+2) 0).toNat:Int):=b 2
 have b3:byt s ((i:Int)+3)=((s.getD (i+3) 0).toNat:Int):=b 3
 have c1:∀ lo hi,cn s ((i:Int)+1) lo hi=_:=c 1
 have c2:∀ lo hi,cn s ((i:Int)+2) lo hi=_:=c 2
 have c3:∀ lo hi,cn s ((i:Int)+3) lo hi=_:=c 3
 simp only [b0,b1,b2,b3,c1,c2,c3]
 obtain ⟨n,hn⟩:∃ n,s.length=i+n:=⟨s.length - i,by omega⟩
 have hn1:s.length - i=n:=by omega
 have hlen:(s.length:Int)=(i:Int)+n:=by omega
 rw [hn1,hlen]
 have l0:=(s.getD i 0).toNat_lt
 have l1:=(s.getD (i+1) 0).toNat_lt
 have l2:=(s.getD (i+2) 0).toNat_lt
 have l3:=(s.getD (i+3) 0).toNat_lt
 generalize (s.getD i 0).toNat=B0 at l0 ⊢
 generalize (s.getD (i+1) 0).toNat=B1 at l1 ⊢
 generalize (s.getD (i+2) 0).toNat=B2 at l2 ⊢
 generalize (s.getD (i+3) 0).toNat=B3 at l3 ⊢
 have hnp:0 < n:=by omega
 have hnb:n≤1000000000:=by omega
 have hib:i≤1000000000:=by omega
 clear hg b c b0 b1 b2 b3 c1 c2 c3 hn1 hlen hn hi hs
 have a31:de .u8 (B0:Int) 31=((B0 % 32:Nat):Int):=tab t31 B0 (by omega)
 have a15:de .u8 (B0:Int) 15=((B0 % 16:Nat):Int):=tab t15 B0 (by omega)
 have a7:de .u8 (B0:Int) 7=((B0 % 8:Nat):Int):=tab t7 B0 (by omega)
 have a1:de .u8 (B1:Int) 63=((B1 % 64:Nat):Int):=tab t63 B1 (by omega)
 have a2:de .u8 (B2:Int) 63=((B2 % 64:Nat):Int):=tab t63 B2 (by omega)
 have a3:de .u8 (B3:Int) 63=((B3 % 64:Nat):Int):=tab t63 B3 (by omega)
 have two:iOr .i64 (ep .i64 ((B0 % 32:Nat):Int) 6) ((B1 % 64:Nat):Int)=((B0 % 32*64+B1 % 64:Nat):Int):=by
  have h1:ep .i64 ((B0 % 32:Nat):Int) 6=((B0 % 32*2 ^ 6:Nat):Int):=mX _ 6 (by decide) (by omega)
  rw [h1]
  exact mE _ _ 6 (by omega) (by omega) (by decide)
 have three:iOr .i64 (iOr .i64 (ep .i64 ((B0 % 16:Nat):Int) 12) (ep .i64 ((B1 % 64:Nat):Int) 6)) ((B2 % 64:Nat):Int)=((B0 % 16*4096+B1 % 64*64+B2 % 64:Nat):Int):=by
  have h1:ep .i64 ((B0 % 16:Nat):Int) 12=((B0 % 16*2 ^ 12:Nat):Int):=mX _ 12 (by decide) (by omega)
  have h2:ep .i64 ((B1 % 64:Nat):Int) 6=((B1 % 64*2 ^ 6:Nat):Int):=mX _ 6 (by decide) (by omega)
  have h3:=mE (B0 % 16) (B1 % 64*2 ^ 6) 12 (by omega) (by omega) (by decide)
  have h4:=mE (B0 % 16*64+B1 % 64) (B2 % 64) 6 (by omega) (by omega) (by decide)
  rw [h1,h2,h3,show B0 % 16*2 ^ 12+B1 % 64*2 ^ 6=(B0 % 16*64+B1 % 64)*2 ^ 6 by omega,h4]
 have four:iOr .i64 (iOr .i64 (iOr .i64 (ep .i64 ((B0 % 8:Nat):Int) 18) (ep .i64 ((B1 % 64:Nat):Int) 12)) (ep .i64 ((B2 % 64:Nat):Int) 6)) ((B3 % 64:Nat):Int)=((B0 % 8*262144+B1 % 64*4096+B2 % 64*64+B3 % 64:Nat):Int):=by
  have h1:ep .i64 ((B0 % 8:Nat):Int) 18=((B0 % 8*2 ^ 18:Nat):Int):=mX _ 18 (by decide) (by omega)
  have h2:ep .i64 ((B1 % 64:Nat):Int) 12=((B1 % 64*2 ^ 12:Nat):Int):=mX _ 12 (by decide) (by omega)
  have h2':ep .i64 ((B2 % 64:Nat):Int) 6=((B2 % 64*2 ^ 6:Nat):Int):=mX _ 6 (by decide) (by omega)
  have h3:=mE (B0 % 8) (B1 % 64*2 ^ 12) 18 (by omega) (by omega) (by decide)
  have h4:=mE (B0 % 8*64+B1 % 64) (B2 % 64*2 ^ 6) 12 (by omega) (by omega) (by decide)
  have h5:=mE (B0 % 8*4096+B1 % 64*64+B2 % 64) (B3 % 64) 6 (by omega) (by omega) (by decide)
  rw [h1,h2,h2',h3,show B0 % 8*2 ^ 18+B1 % 64*2 ^ 12=(B0 % 8*64+B1 % 64)*2 ^ 12 by omega,h4,show (B0 % 8*64+B1 % 64)*2 ^ 12+B2 % 64*2 ^ 6=(B0 % 8*4096+B1 % 64*64+B2 % 64)*2 ^ 6 by omega,h5]
 rw [a31,a15,a7,a1,a2,a3,two,three,four]
 have i1:inR ((i:Int)+1):=bq (by omega) (by omega)
 have i2:inR ((i:Int)+2):=bq (by omega) (by omega)
 have i3:inR ((i:Int)+3):=bq (by omega) (by omega)
 have e0:((if (i:Int) < 0 then some true else some (decide ((i:Int)+n≤i))):Option Bool)=some false:=by
  rw [if_neg (by omega)]; simp; omega
 rw [e0,Option.bind_some,if_neg (by simp),bL (by omega)]
 unfold decodeN
 by_cases h0:B0 < 128
 ·rw [if_pos (show (B0:Int) < 128 by omega),bL (bq (by omega) (by omega)),if_pos h0]
  simp only
  rw [if_neg (by omega)]; rfl
 rw [if_neg (show ¬ (B0:Int) < 128 by omega),if_neg h0]
 have e12:((if 194≤(B0:Int) then if (B0:Int)≤223 then ck (inR ((i:Int)+1)) <| (some (decide (1 < n∧(128:Int)≤(B1:Int)∧(B1:Int)≤191))).bind λ r10=>some r10 else some false else some false):Option Bool)=some (decide (194≤B0∧B0≤223∧1 < n∧128≤B1∧B1≤191)):=by
  by_cases q1:194≤B0
  ·rw [if_pos (by omega)]
   by_cases q2:B0≤223
   ·rw [if_pos (by omega),bL i1,Option.bind_some]
    refine congrArg some (eqB ?_)
    rw [decide_eq_true_eq,decide_eq_true_eq]; omega
   ·rw [if_neg (by omega)]; simp; omega
  ·rw [if_neg (by omega)]; simp; omega
 rw [e12,Option.bind_some]
 by_cases h12:194≤B0∧B0≤223∧1 < n∧128≤B1∧B1≤191
 ·rw [if_pos (by simp only [decide_eq_true_eq]; exact h12),bL (bq (by omega) (by omega)),bL (by omega),bL i1,bL (by omega),bL (bq (by omega) (by omega))]
  rw [if_pos (show B0 / 32=6∧1 < n∧B1 / 64=2 by omega),if_pos (show B0 % 32*64+B1 % 64 ≥ 128 by omega)]
  show some _=some (if B0 % 32*64+B1 % 64=65533∧_ then _ else _)
  rw [if_neg (by omega)]; rfl
 rw [if_neg (by simp only [decide_eq_true_eq]; exact h12)]
 have hlo:((if (B0:Int)=224 then some 160 else some 128):Option Int)=some (if B0=224 then 160 else 128):=by
  by_cases q:B0=224
  ·rw [if_pos (by omega),if_pos q]
  ·rw [if_neg (by omega),if_neg q]
 have hhi:((if (B0:Int)=237 then some 159 else some 191):Option Int)=some (if B0=237 then 159 else 191):=by
  by_cases q:B0=237
  ·rw [if_pos (by omega),if_pos q]
  ·rw [if_neg (by omega),if_neg q]
 have hlo4:((if (B0:Int)=240 then some 144 else some 128):Option Int)=some (if B0=240 then 144 else 128):=by
  by_cases q:B0=240
  ·rw [if_pos (by omega),if_pos q]
  ·rw [if_neg (by omega),if_neg q]
 have hhi4:((if (B0:Int)=244 then some 143 else some 191):Option Int)=some (if B0=244 then 143 else 191):=by
  by_cases q:B0=244
  ·rw [if_pos (by omega),if_pos q]
  ·rw [if_neg (by omega),if_neg q]
 rw [hlo,Option.bind_some,hhi,Option.bind_some]
 have e32:∀ lo hi:Int,((if 224≤(B0:Int) then if (B0:Int)≤239 then ck (inR ((i:Int)+1)) <| (some (decide (1 < n∧lo≤(B1:Int)∧(B1:Int)≤hi))).bind λ r26=>if r26=true then ck (inR ((i:Int)+2)) <| (some (decide (2 < n∧(128:Int)≤(B2:Int)∧(B2:Int)≤191))).bind λ r30=>some r30 else some false else some false else some false):Option Bool)
   = some (decide (224≤B0∧B0≤239∧(1 < n∧lo≤(B1:Int)∧(B1:Int)≤hi)∧2 < n∧128≤B2∧B2≤191)):=by
  intro lo hi
  by_cases q1:224≤B0
  ·rw [if_pos (by omega)]
   by_cases q2:B0≤239
   ·rw [if_pos (by omega),bL i1,Option.bind_some]
    by_cases q3:1 < n∧lo≤(B1:Int)∧(B1:Int)≤hi
    ·rw [if_pos (by simp only [decide_eq_true_eq]; exact q3),bL i2,Option.bind_some]
     refine congrArg some (eqB ?_)
     rw [decide_eq_true_eq,decide_eq_true_eq]
     constructor
     ·intro q; exact ⟨q1,q2,q3,by omega⟩
     ·intro q; have:=q.2.2.2; omega
    ·rw [if_neg (by simp only [decide_eq_true_eq]; exact q3)]
     symm; rw [Option.some.injEq,decide_eq_false_iff_not]
     intro q; exact q3 q.2.2.1
   ·rw [if_neg (by omega)]
    symm; rw [Option.some.injEq,decide_eq_false_iff_not]
    intro q; exact q2 q.2.1
  ·rw [if_neg (by omega)]
   symm; rw [Option.some.injEq,decide_eq_false_iff_not]
   intro q; exact q1 q.1
 rw [e32,Option.bind_some]
 by_cases h32:224≤B0∧B0≤239∧(1 < n∧(if B0=224 then 160 else 128)≤(B1:Int)∧(B1:Int)≤(if B0=237 then 159 else 191))∧2 < n∧128≤B2∧B2≤191
 ·rw [if_pos (by simp only [decide_eq_true_eq]; exact h32)]
  obtain ⟨k1,k2,⟨k3,k4,k5⟩,k6,k7,k8⟩:=h32
  have k4':128≤B1∧(B0=224→160≤B1):=by split at k4 <;> omega
  have k5':B1≤191∧(B0=237→B1≤159):=by split at k5 <;> omega
  clear k4 k5
  repeat rw [bL (by first | exact i1 | exact i2 | omega | exact bq (by omega) (by omega))]
  rw [if_neg (show ¬ (B0 / 32=6∧1 < n∧B1 / 64=2) by omega),if_pos (show B0 / 16=14∧(1 < n∧B1 / 64=2)∧2 < n∧B2 / 64=2 by omega),if_pos (show B0 % 16*4096+B1 % 64*64+B2 % 64 ≥ 2048∧(B0 % 16*4096+B1 % 64*64+B2 % 64 < 55296∨57344≤B0 % 16*4096+B1 % 64*64+B2 % 64∧B0 % 16*4096+B1 % 64*64+B2 % 64≤1114111) by omega)]
  show some _=some (if B0 % 16*4096+B1 % 64*64+B2 % 64=65533∧(3:Nat)=1 then _ else _)
  rw [if_neg (by omega)]; rfl
 rw [if_neg (by simp only [decide_eq_true_eq]; exact h32)]
 rw [hlo4,Option.bind_some,hhi4,Option.bind_some]
 have h32':¬ (224≤B0∧B0≤239∧1 < n∧(B0=224→160≤B1)∧128≤B1∧B1≤191∧(B0=237→B1≤159)∧2 < n∧128≤B2∧B2≤191):=by
  rintro ⟨k1,k2,k3,k4,k5,k6,k7,k8⟩
  exact h32 ⟨k1,k2,⟨k3,by split <;> omega,by split <;> omega⟩,k8⟩
 clear h32 e32
 have e60:∀ lo hi:Int,((if 240≤(B0:Int) then if (B0:Int)≤244 then ck (inR ((i:Int)+1)) <| (some (decide (1 < n∧lo≤(B1:Int)∧(B1:Int)≤hi))).bind λ r50=>if r50=true then ck (inR ((i:Int)+2)) <| (some (decide (2 < n∧(128:Int)≤(B2:Int)∧(B2:Int)≤191))).bind λ r54=>if r54=true then ck (inR ((i:Int)+3)) <| (some (decide (3 < n∧(128:Int)≤(B3:Int)∧(B3:Int)≤191))).bind λ r58=>some r58 else some false else some false else some false else some false):Option Bool)
   = some (decide (240≤B0∧B0≤244∧(1 < n∧lo≤(B1:Int)∧(B1:Int)≤hi)∧(2 < n∧128≤B2∧B2≤191)∧3 < n∧128≤B3∧B3≤191)):=by
  intro lo hi
  by_cases q1:240≤B0
  ·rw [if_pos (by omega)]
   by_cases q2:B0≤244
   ·rw [if_pos (by omega),bL i1,Option.bind_some]
    by_cases q3:1 < n∧lo≤(B1:Int)∧(B1:Int)≤hi
    ·rw [if_pos (by simp only [decide_eq_true_eq]; exact q3),bL i2,Option.bind_some]
     by_cases q4:2 < n∧128≤B2∧B2≤191
     ·rw [if_pos (by simp only [decide_eq_true_eq]; omega),bL i3,Option.bind_some]
      refine congrArg some (eqB ?_)
      rw [decide_eq_true_eq,decide_eq_true_eq]
      constructor
      ·intro q; exact ⟨q1,q2,q3,q4,by omega⟩
      ·intro q; have:=q.2.2.2.2; omega
     ·rw [if_neg (by simp only [decide_eq_true_eq]; omega)]
      symm; rw [Option.some.injEq,decide_eq_false_iff_not]
      intro q; exact q4 q.2.2.2.1
    ·rw [if_neg (by simp only [decide_eq_true_eq]; exact q3)]
     symm; rw [Option.some.injEq,decide_eq_false_iff_not]
     intro q; exact q3 q.2.2.1
   ·rw [if_neg (by omega)]
    symm; rw [Option.some.injEq,decide_eq_false_iff_not]
    intro q; exact q2 q.2.1
  ·rw [if_neg (by omega)]
   symm; rw [Option.some.injEq,decide_eq_false_iff_not]
   intro q; exact q1 q.1
 rw [e60,Option.bind_some]
 by_cases h60:240≤B0∧B0≤244∧(1 < n∧(if B0=240 then 144 else 128)≤(B1:Int)∧(B1:Int)≤(if B0=244 then 143 else 191))∧(2 < n∧128≤B2∧B2≤191)∧3 < n∧128≤B3∧B3≤191
 ·rw [if_pos (by simp only [decide_eq_true_eq]; exact h60)]
  obtain ⟨k1,k2,⟨k3,k4,k5⟩,⟨k6,k7,k8⟩,k9,k10,k11⟩:=h60
  have k4':128≤B1∧(B0=240→144≤B1):=by split at k4 <;> omega
  have k5':B1≤191∧(B0=244→B1≤143):=by split at k5 <;> omega
  clear k4 k5
  repeat rw [bL (by first | exact i1 | exact i2 | exact i3 | omega | exact bq (by omega) (by omega))]
  rw [if_neg (show ¬ (B0 / 32=6∧1 < n∧B1 / 64=2) by omega),if_neg (show ¬ (B0 / 16=14∧(1 < n∧B1 / 64=2)∧2 < n∧B2 / 64=2) by omega),if_pos (show B0 / 8=30∧(1 < n∧B1 / 64=2)∧(2 < n∧B2 / 64=2)∧3 < n∧B3 / 64=2 by omega)]
  generalize hv:B0 % 8*262144+B1 % 64*4096+B2 % 64*64+B3 % 64=v
  rw [if_pos (show v ≥ 65536∧(v < 55296∨57344≤v∧v≤1114111) by omega)]
  show some _=some (if v=65533∧(4:Nat)=1 then _ else _)
  rw [if_neg (by omega)]; rfl
 rw [if_neg (by simp only [decide_eq_true_eq]; exact h60)]
 have h60':¬ (240≤B0∧B0≤244∧1 < n∧(B0=240→144≤B1)∧128≤B1∧B1≤191∧(B0=244→B1≤143)∧2 < n∧128≤B2∧B2≤191∧3 < n∧128≤B3∧B3≤191):=by
  rintro ⟨k1,k2,k3,k4,k5,k6,k7,k8,k9,k10,k11⟩
  exact h60 ⟨k1,k2,⟨k3,by split <;> omega,by split <;> omega⟩,⟨k8,k9,k10⟩,k11⟩
 clear h60 e60
 symm
 refine congrArg some (if_pos ?_)
 repeat' split
 all_goals first | exact ⟨rfl,rfl⟩ | (exfalso; omega)
theorem qW (s:Bytes)(hs:s.length≤1000000000):∀ (k i:Nat),s.length - i < k→i≤s.length→Ev2 (λ _ m=>da s m (i:Int)) (·=if validD (s.drop i)=true then .inl () else .inr false):=by
 intro k
 induction k with
 | zero=>intro i h; omega
 | succ k ih =>
  intro i hk hi
  refine aW ?_
  simp only [da]
  by_cases h:i < s.length
  ·have hne:s.drop i≠[]:=by intro q; have:=congrArg List.length q; rw [List.length_drop] at this; simp at this; omega
   refine aT (by omega) (ao _ (aP (pL s i h hs) rfl) ?_)
   have hv:=lC _ hne
   have hdf:=iI _ hne
   rw [List.length_drop] at hdf
   unfold vo
   by_cases q:(decodeL (s.drop i)).1=65533∧(decodeL (s.drop i)).2=1
   ·rw [if_pos q]
    refine aT rfl (ac ?_)
    rw [if_neg (λ z=>((hv.1 z).1 q))]
   ·rw [if_neg q]
    refine ai (by simp only; omega) (ap (bq (by simp only; omega) (by simp only; omega)) ?_)
    have:=ih (i+(decodeL (s.drop i)).2) (by omega) (by omega)
    rw [Int.natCast_add] at this
    refine dd this λ r hr=>?_
    rw [hr,← List.drop_drop]
    by_cases z:validD ((s.drop i).drop (decodeL (s.drop i)).2)=true
    ·rw [if_pos z,if_pos (hv.2 ⟨q,z⟩)]
    ·rw [if_neg z,if_neg (λ y=>z (hv.1 y).2)]
  ·refine ai (by omega) (ac ?_)
   rw [List.drop_of_length_le (by omega),if_pos validD_nil]
theorem mH (s:Bytes)(hs:s.length≤1000000000):Ev2 (λ n _=>dQ n s) (·=(decide (s.length≤4096)&&validD s)):=by
 simp only [dQ]
 refine aB (λ h=>ac ?_) (λ h=>?_)
 ·have:¬ s.length≤4096:=by omega
  simp [this]
 ·have h':s.length≤4096:=by omega
  have l:=qW s hs (s.length+1) 0 (by omega) (by omega)
  rw [List.drop_zero] at l
  cases hv:validD s with
  | true=>rw [hv] at l; exact nu () (cS l) (ac (by simp [h']))
  | false=>rw [hv] at l; exact rN false (cS l) (by simp)
theorem drop_at (s:Bytes){i:Nat}(h:i < s.length):s.drop i=s.getD i 0::s.drop (i+1):=by
 rw [List.getD_eq_getElem?_getD,List.getElem?_eq_getElem h,Option.getD_some]
 exact List.drop_eq_getElem_cons h
end Go.Ab.R06
end
section
namespace Go.Ab
set_option autoImplicit false
theorem fA {α:Type}{tt:List (Nat×TI)}{n t s b:Nat}{cs:List PV}{z:List Value}(f:α→PV)(Q:α→Prop){e:Nat}(hl:look tt t=some ⟨.slice e,s,b,z⟩)(h:WTf tt n t cs)
  (he:∀ m x,m < n→WTf tt m e x.cells→x=mkE (((look tt e).map (·.k.isAgg)).getD false) x.cells→∃ y,x=f y∧Q y):∃ l:List α,cs=[eL f l]∧l.length*(((look tt e).map (·.bytes)).getD 0)≤cW∧∀ y∈l,Q y:=by
 cases n with
 | zero=>exact h.elim
 | succ n =>
  obtain ⟨l,h1,h2,h3⟩:=sK f Q hl h (λ x k1 k2=>he n x (by omega) k1 k2)
  exact ⟨l,h1,h2.2,h3⟩
inductive ab.Bd:ab→Prop where
 | mk {x:ab} (bKind:inR x.fKind) (bNum:inR x.fNum) (bStr:x.fStr.length≤cW) (bItems:x.fItems.length*80≤cW) (eItems:∀ y∈x.fItems,ab.Bd y) (bKeys:x.fKeys.length*16≤cW) (eKeys:∀ y∈x.fKeys,y.length≤cW):ab.Bd x
theorem ab.Bd.bKind {x:ab}(h:ab.Bd x):inR x.fKind:=by cases h; assumption
theorem ab.Bd.bNum {x:ab}(h:ab.Bd x):inR x.fNum:=by cases h; assumption
theorem ab.Bd.bStr {x:ab}(h:ab.Bd x):x.fStr.length≤cW:=by cases h; assumption
theorem ab.Bd.bItems {x:ab}(h:ab.Bd x):x.fItems.length*80≤cW:=by cases h; assumption
theorem ab.Bd.eItems {x:ab}(h:ab.Bd x):∀ y∈x.fItems,ab.Bd y:=by cases h; assumption
theorem ab.Bd.bKeys {x:ab}(h:ab.Bd x):x.fKeys.length*16≤cW:=by cases h; assumption
theorem ab.Bd.eKeys {x:ab}(h:ab.Bd x):∀ y∈x.fKeys,y.length≤cW:=by cases h; assumption
theorem ab.dec (n:Nat):(∀ cs,WTf tt n 28 cs→∃ x:ab,cs=ab.cs x∧ab.Bd x):=by
 induction n using Nat.strongRecOn with
 | _ n ih =>
 have ih_TValue:∀ m,m < n→(∀ cs,WTf tt m 28 cs→∃ x:ab,cs=ab.cs x∧ab.Bd x):=λ m hm=>(ih m hm)
 intro cs h
 cases n with
 | zero=>exact h.elim
 | succ n =>
 have h0:=fS rfl h
 obtain ⟨c0,q0,rfl,k0,h0⟩:=bR h0
 obtain ⟨c1,q1,rfl,k1,h0⟩:=bR h0
 obtain ⟨c2,q2,rfl,k2,h0⟩:=bR h0
 obtain ⟨c3,q3,rfl,k3,h0⟩:=bR h0
 obtain ⟨c4,q4,rfl,k4,h0⟩:=bR h0
 have e:q4=[]:=h0
 subst e
 obtain ⟨x1,rfl,b2⟩:=gw rfl k0
 obtain ⟨x3,rfl,b4⟩:=gw rfl k1
 obtain ⟨x5,rfl,b6⟩:=ge rfl k2
 obtain ⟨x7,rfl,b8⟩:=fA bP (λ y=>ab.Bd y) rfl k3 (λ m9 y10 hm11 k12 k13=>by
  obtain ⟨x14,e16,b15⟩:=ih_TValue _ (by omega) _ k12
  exact ⟨x14,(jV e16 k13).trans (ab.agg_eq _).symm,b15⟩
  )
 obtain ⟨x17,rfl,b18⟩:=fA eS (λ y=>y.length≤cW) rfl k4 (λ m19 y20 hm21 k22 k23=>by
  obtain ⟨x24,e26,b25⟩:=ge rfl k22
  exact ⟨x24,pe e26 k23,b25⟩
  )
 exact ⟨ab.mk x1 x3 x5 x7 x17,rfl,.mk b2 b4 b6 b8.1 b8.2 b18.1 b18.2⟩
inductive aa.Bd:aa→Prop where
 | mk {x:aa} (bKind:inR x.fKind) (bOp:inR x.fOp) (bName:x.fName.length≤cW) (bKey:x.fKey.length≤cW) (bValue:ab.Bd x.fValue) (bKids:x.fKids.length*160≤cW) (eKids:∀ y∈x.fKids,aa.Bd y) (bAt:inR x.fAt):aa.Bd x
theorem aa.Bd.bKind {x:aa}(h:aa.Bd x):inR x.fKind:=by cases h; assumption
theorem aa.Bd.bOp {x:aa}(h:aa.Bd x):inR x.fOp:=by cases h; assumption
theorem aa.Bd.bName {x:aa}(h:aa.Bd x):x.fName.length≤cW:=by cases h; assumption
theorem aa.Bd.bKey {x:aa}(h:aa.Bd x):x.fKey.length≤cW:=by cases h; assumption
theorem aa.Bd.bValue {x:aa}(h:aa.Bd x):ab.Bd x.fValue:=by cases h; assumption
theorem aa.Bd.bKids {x:aa}(h:aa.Bd x):x.fKids.length*160≤cW:=by cases h; assumption
theorem aa.Bd.eKids {x:aa}(h:aa.Bd x):∀ y∈x.fKids,aa.Bd y:=by cases h; assumption
theorem aa.Bd.bAt {x:aa}(h:aa.Bd x):inR x.fAt:=by cases h; assumption
theorem aa.dec (n:Nat):(∀ cs,WTf tt n 31 cs→∃ x:aa,cs=aa.cs x∧aa.Bd x):=by
 induction n using Nat.strongRecOn with
 | _ n ih =>
 have ih_TExpr:∀ m,m < n→(∀ cs,WTf tt m 31 cs→∃ x:aa,cs=aa.cs x∧aa.Bd x):=λ m hm=>(ih m hm)
 intro cs h
 cases n with
 | zero=>exact h.elim
 | succ n =>
 have h0:=fS rfl h
 obtain ⟨c0,q0,rfl,k0,h0⟩:=bR h0
 obtain ⟨c1,q1,rfl,k1,h0⟩:=bR h0
 obtain ⟨c2,q2,rfl,k2,h0⟩:=bR h0
 obtain ⟨c3,q3,rfl,k3,h0⟩:=bR h0
 obtain ⟨c4,q4,rfl,k4,h0⟩:=bR h0
 obtain ⟨c5,q5,rfl,k5,h0⟩:=bR h0
 obtain ⟨c6,q6,rfl,k6,h0⟩:=bR h0
 have e:q6=[]:=h0
 subst e
 obtain ⟨x27,rfl,b28⟩:=gw rfl k0
 obtain ⟨x29,rfl,b30⟩:=gw rfl k1
 obtain ⟨x31,rfl,b32⟩:=ge rfl k2
 obtain ⟨x33,rfl,b34⟩:=ge rfl k3
 obtain ⟨x35,rfl,b36⟩:=ab.dec _ _ k4
 obtain ⟨x37,rfl,b38⟩:=fA ay (λ y=>aa.Bd y) rfl k5 (λ m39 y40 hm41 k42 k43=>by
  obtain ⟨x44,e46,b45⟩:=ih_TExpr _ (by omega) _ k42
  exact ⟨x44,(jV e46 k43).trans (aa.agg_eq _).symm,b45⟩
  )
 obtain ⟨x47,rfl,b48⟩:=gw rfl k6
 exact ⟨aa.mk x27 x29 x31 x33 x35 x37 x47,rfl,.mk b28 b30 b32 b34 b36 b38.1 b38.2 b48⟩
inductive ad.Bd:ad→Prop where
 | mk {x:ad} (bName:x.fName.length≤cW) (bExpr:aa.Bd x.fExpr) (bAt:inR x.fAt):ad.Bd x
theorem ad.Bd.bName {x:ad}(h:ad.Bd x):x.fName.length≤cW:=by cases h; assumption
theorem ad.Bd.bExpr {x:ad}(h:ad.Bd x):aa.Bd x.fExpr:=by cases h; assumption
theorem ad.Bd.bAt {x:ad}(h:ad.Bd x):inR x.fAt:=by cases h; assumption
theorem ad.dec (n:Nat):(∀ cs,WTf tt n 43 cs→∃ x:ad,cs=ad.cs x∧ad.Bd x):=by
 induction n using Nat.strongRecOn with
 | _ n ih =>
 have ih_TAttribute:∀ m,m < n→(∀ cs,WTf tt m 43 cs→∃ x:ad,cs=ad.cs x∧ad.Bd x):=λ m hm=>(ih m hm)
 intro cs h
 cases n with
 | zero=>exact h.elim
 | succ n =>
 have h0:=fS rfl h
 obtain ⟨c0,q0,rfl,k0,h0⟩:=bR h0
 obtain ⟨c1,q1,rfl,k1,h0⟩:=bR h0
 obtain ⟨c2,q2,rfl,k2,h0⟩:=bR h0
 have e:q2=[]:=h0
 subst e
 obtain ⟨x49,rfl,b50⟩:=ge rfl k0
 obtain ⟨x51,rfl,b52⟩:=aa.dec _ _ k1
 obtain ⟨x53,rfl,b54⟩:=gw rfl k2
 exact ⟨ad.mk x49 x51 x53,rfl,.mk b50 b52 b54⟩
mutual
inductive aD.Bd:aD→Prop where
 | mk {x:aD} (bAttrs:x.fAttrs.length*184≤cW) (eAttrs:∀ y∈x.fAttrs,ad.Bd y) (bBlocks:x.fBlocks.length*96≤cW) (eBlocks:∀ y∈x.fBlocks,ak.Bd y):aD.Bd x
inductive ak.Bd:ak→Prop where
 | mk {x:ak} (bType:x.fType.length≤cW) (bLabels:x.fLabels.length*16≤cW) (eLabels:∀ y∈x.fLabels,y.length≤cW) (bBody:aD.Bd x.fBody) (bAt:inR x.fAt):ak.Bd x
end
theorem aD.Bd.bAttrs {x:aD}(h:aD.Bd x):x.fAttrs.length*184≤cW:=by cases h; assumption
theorem aD.Bd.eAttrs {x:aD}(h:aD.Bd x):∀ y∈x.fAttrs,ad.Bd y:=by cases h; assumption
theorem aD.Bd.bBlocks {x:aD}(h:aD.Bd x):x.fBlocks.length*96≤cW:=by cases h; assumption
theorem aD.Bd.eBlocks {x:aD}(h:aD.Bd x):∀ y∈x.fBlocks,ak.Bd y:=by cases h; assumption
theorem ak.Bd.bType {x:ak}(h:ak.Bd x):x.fType.length≤cW:=by cases h; assumption
theorem ak.Bd.bLabels {x:ak}(h:ak.Bd x):x.fLabels.length*16≤cW:=by cases h; assumption
theorem ak.Bd.eLabels {x:ak}(h:ak.Bd x):∀ y∈x.fLabels,y.length≤cW:=by cases h; assumption
theorem ak.Bd.bBody {x:ak}(h:ak.Bd x):aD.Bd x.fBody:=by cases h; assumption
theorem ak.Bd.bAt {x:ak}(h:ak.Bd x):inR x.fAt:=by cases h; assumption
theorem aD.decs (n:Nat):(∀ cs,WTf tt n 47 cs→∃ x:aD,cs=aD.cs x∧aD.Bd x)∧(∀ cs,WTf tt n 49 cs→∃ x:ak,cs=ak.cs x∧ak.Bd x):=by
 induction n using Nat.strongRecOn with
 | _ n ih =>
 have ih_TBody:∀ m,m < n→(∀ cs,WTf tt m 47 cs→∃ x:aD,cs=aD.cs x∧aD.Bd x):=λ m hm=>(ih m hm).1
 have ih_TBlock:∀ m,m < n→(∀ cs,WTf tt m 49 cs→∃ x:ak,cs=ak.cs x∧ak.Bd x):=λ m hm=>(ih m hm).2
 refine ⟨?_,?_⟩
 ·intro cs h
  cases n with
  | zero=>exact h.elim
  | succ n =>
  have h0:=fS rfl h
  obtain ⟨c0,q0,rfl,k0,h0⟩:=bR h0
  obtain ⟨c1,q1,rfl,k1,h0⟩:=bR h0
  have e:q1=[]:=h0
  subst e
  obtain ⟨x55,rfl,b56⟩:=fA bg (λ y=>ad.Bd y) rfl k0 (λ m57 y58 hm59 k60 k61=>by
   obtain ⟨x62,e64,b63⟩:=ad.dec _ _ k60
   exact ⟨x62,(jV e64 k61).trans (ad.agg_eq _).symm,b63⟩
   )
  obtain ⟨x65,rfl,b66⟩:=fA cG (λ y=>ak.Bd y) rfl k1 (λ m67 y68 hm69 k70 k71=>by
   obtain ⟨x72,e74,b73⟩:=ih_TBlock _ (by omega) _ k70
   exact ⟨x72,(jV e74 k71).trans (ak.agg_eq _).symm,b73⟩
   )
  exact ⟨aD.mk x55 x65,rfl,.mk b56.1 b56.2 b66.1 b66.2⟩
 ·intro cs h
  cases n with
  | zero=>exact h.elim
  | succ n =>
  have h0:=fS rfl h
  obtain ⟨c0,q0,rfl,k0,h0⟩:=bR h0
  obtain ⟨c1,q1,rfl,k1,h0⟩:=bR h0
  obtain ⟨c2,q2,rfl,k2,h0⟩:=bR h0
  obtain ⟨c3,q3,rfl,k3,h0⟩:=bR h0
  have e:q3=[]:=h0
  subst e
  obtain ⟨x75,rfl,b76⟩:=ge rfl k0
  obtain ⟨x77,rfl,b78⟩:=fA eS (λ y=>y.length≤cW) rfl k1 (λ m79 y80 hm81 k82 k83=>by
   obtain ⟨x84,e86,b85⟩:=ge rfl k82
   exact ⟨x84,pe e86 k83,b85⟩
   )
  obtain ⟨x87,rfl,b88⟩:=ih_TBody _ (by omega) _ k2
  obtain ⟨x89,rfl,b90⟩:=gw rfl k3
  exact ⟨ak.mk x75 x77 x87 x89,rfl,.mk b76 b78.1 b78.2 b88 b90⟩
theorem aD.dec (n:Nat):(∀ cs,WTf tt n 47 cs→∃ x:aD,cs=aD.cs x∧aD.Bd x):=(aD.decs n).1
theorem ak.dec (n:Nat):(∀ cs,WTf tt n 49 cs→∃ x:ak,cs=ak.cs x∧ak.Bd x):=(aD.decs n).2
end Go.Ab
end
section
section
namespace Go.Ab.R06.U
open Go.Ab.R06
structure TDiag where
 fKind:Int
 fAt:Int
 fName:Bytes
 deriving Inhabited
structure TToken where
 fKind:Int
 fText:Bytes
 fAt:Int
 deriving Inhabited
def clsL:List UInt8:=[0,0,0,0,0,0,0,0,0,1,6,0,0,1,0,0,0,0,0,0,0,0,0,0,0,0,0,0,0,0,0,0,1,4,5,7,0,4,4,0,4,4,4,4,4,4,4,4,3,3,3,3,3,3,3,3,3,3,4,0,4,4,4,4,0,2,2,2,2,2,2,2,2,2,2,2,2,2,2,2,2,2,2,2,2,2,2,2,2,2,2,4,0,4,0,2,0,2,2,2,2,2,2,2,2,2,2,2,2,2,2,2,2,2,2,2,2,2,2,2,2,2,2,4,4,4,0,0,0,0,0,0,0,0,0,0,0,0,0,0,0,0,0,0,0,0,0,0,0,0,0,0,0,0,0,0,0,0,0,0,0,0,0,0,0,0,0,0,0,0,0,0,0,0,0,0,0,0,0,0,0,0,0,0,0,0,0,0,0,0,0,0,0,0,0,0,0,0,0,0,0,0,0,0,0,0,0,0,0,0,0,0,0,0,0,0,0,0,0,0,0,0,0,0,0,0,0,0,0,0,0,0,0,0,0,0,0,0,0,0,0,0,0,0,0,0,0,0,0,0,0,0,0,0,0,0]
theorem clsL_len:clsL.length=256:=by kernel_rfl
def clsT:List PV:=clsL.map eU
theorem clsT_len:clsT.length=256:=by rw [clsT,List.length_map,clsL_len]
structure Tscanner where
 fs:Bytes
 fat:Int
 fouter:Int
 fbad:TDiag
 deriving Inhabited
def Tscanner.cs (x:Tscanner):List PV:=eS x.fs::eI x.fat::(clsT++[eI x.fouter,eI x.fbad.fKind,eI x.fbad.fAt,eS x.fbad.fName])
theorem Tscanner.len (x:Tscanner):((Tscanner.cs x).map AV.p).length=262:=by simp [Tscanner.cs,clsT_len]
def Tscanner.hd (x:Tscanner):List AV:=(eS x.fs::eI x.fat::(clsT++[eI x.fouter])).map .p
end Go.Ab.R06.U
end
section
namespace Go.Ab.R06.U
open Go.Ab.R06
open Go.Proofs Go.Ab Go.Ab.RB
def expr_loop (k_0:Int):Option Bool :=
 (
  if k_0=12 then
  some true
  else
  some (decide (k_0=13))
 : Option Bool).bind λ t2 =>
 some t2
def expr_named (k_0:Int):Option Bool :=
 (
  if k_0=3 then
  some true
  else
  if k_0=4 then
   some true
  else
   if k_0=9 then
   some true
   else
   (expr_loop k_0).bind λ r4 =>
   some r4
 : Option Bool).bind λ t6 =>
 some t6
def expr_operator (e_0:aa):Option Bool :=
 if e_0.fKind=6 then
 (
  if e_0.fOp=1 then
   some true
  else
   some (decide (e_0.fOp=2))
  : Option Bool).bind λ t3 =>
 some t3
 else
 if e_0.fKind=7 then
  (
   if 3≤e_0.fOp then
   some (decide (e_0.fOp≤15))
   else
   some false
  : Option Bool).bind λ t6 =>
  some t6
 else
  some (decide (e_0.fOp=0))
def expr_zero (v_0:ab):Option Bool :=
 (
  if v_0.fKind=0 then
  if v_0.fNum=0 then
   if v_0.fStr=([]:Bytes) then
   ck (inR ((v_0.fItems.length:Int)+(v_0.fKeys.length:Int))) <|
   some (decide ((v_0.fItems.length:Int)+(v_0.fKeys.length:Int)=0))
   else
   some false
  else
   some false
  else
  some false
 : Option Bool).bind λ t5 =>
 some t5
def expr_kids (k_0:Int):Option (Int×Int×Bool) :=
 (
  if k_0=1 then
  some true
  else
  some (decide (k_0=3))
 : Option Bool).bind λ t2 =>
 if t2=true then
 some (0,0,false)
 else
 (
  if k_0=4 then
   some true
  else
   some (decide (k_0=6))
  : Option Bool).bind λ t5 =>
 if t5=true then
  some (1,1,false)
 else
  (
   if k_0=5 then
   some true
   else
   some (decide (k_0=7))
  : Option Bool).bind λ t8 =>
  if t8=true then
  some (2,2,false)
  else
  if k_0=8 then
   some (3,3,false)
  else
   if k_0=2 then
   some (1,4096,false)
   else
   if k_0=12 then
    some (2,3,false)
   else
    if k_0=13 then
    some (3,4,false)
    else
    if k_0=11 then
     some (0,4096,true)
    else
     some (0,4096,false)
def expr_shaped (e_0:aa):Option Bool :=
 (
  if e_0.fKind < 1 then
  some true
  else
  if 13 < e_0.fKind then
   some true
  else
   (expr_operator e_0).bind λ r3 =>
   some (!r3)
 : Option Bool).bind λ t5 =>
 if t5=true then
 some false
 else
 (
  (expr_named e_0.fKind).bind λ r7 =>
  if (!r7)=true then
   if e_0.fName=([]:Bytes) then
   (expr_loop e_0.fKind).bind λ r11 =>
   if (!r11)=true then
    if e_0.fKey=([]:Bytes) then
    if e_0.fKind=1 then
     some false
    else
     (expr_zero e_0.fValue).bind λ r16 =>
     some (!r16)
    else
    some true
   else
    if e_0.fKind=1 then
    some false
    else
    (expr_zero e_0.fValue).bind λ r19 =>
    some (!r19)
   else
   some true
  else
   (expr_loop e_0.fKind).bind λ r21 =>
   if (!r21)=true then
   if e_0.fKey=([]:Bytes) then
    if e_0.fKind=1 then
    some false
    else
    (expr_zero e_0.fValue).bind λ r26 =>
    some (!r26)
   else
    some true
   else
   if e_0.fKind=1 then
    some false
   else
    (expr_zero e_0.fValue).bind λ r29 =>
    some (!r29)
  : Option Bool).bind λ t31 =>
 if t31=true then
  some false
 else
  (expr_kids e_0.fKind).bind λ r33 =>
  (
   if (e_0.fKids.length:Int) < r33.1 then
   some true
   else
   if r33.2.1 < (e_0.fKids.length:Int) then
    if r33.2.1 < 4096 then
    some true
    else
    if r33.2.2=true then
     ck ((2:Int)≠0) <|
     some (decide ((e_0.fKids.length:Int).tmod 2=1))
    else
     some false
   else
    if r33.2.2=true then
    ck ((2:Int)≠0) <|
    some (decide ((e_0.fKids.length:Int).tmod 2=1))
    else
    some false
  : Option Bool).bind λ t42 =>
  if t42=true then
  some false
  else
  if e_0.fKind=1 then
   (
    if 0≤e_0.fValue.fKind then
    if e_0.fValue.fKind≤3 then
     if e_0.fValue.fKind=2 then
     some (decide (0≤e_0.fValue.fNum))
     else
     some true
    else
     some false
    else
    some false
   : Option Bool).bind λ t48 =>
   some t48
  else
   some true
end Go.Ab.R06.U
end
section
namespace Go.Ab.R06.U
open Go.Ab.R06
open Go.Ab Go.Ab.RB Go.Lib
def blankB (b:UInt8):Bool:=decide (b.toNat=32)||decide (b.toNat=9)||decide (b.toNat=13)
def skipP (c:Bool)(l:Bytes):Bytes :=
 match l.dropWhile blankB with
 | b::r=>if c&&decide (b.toNat=35) then (b::r).dropWhile (λ x=>!decide (x=10)) else b::r
 | []=>[]
theorem dw_suf {p:UInt8→Bool}(l:Bytes):l.dropWhile p <:+ l:=List.dropWhile_suffix p
theorem skipP_suf (c:Bool)(l:Bytes):skipP c l <:+ l:=by
 unfold skipP
 have h:=dw_suf (p:=blankB) l
 split
 ·rename_i b r hb
  rw [hb] at h
  split
  ·exact (dw_suf _).trans h
  ·exact h
 ·exact List.nil_suffix
def twos:List Bytes:=[[61,62],[61,61],[33,61],[60,61],[62,61],[38,38],[124,124]]
def onesS:Bytes:=[123,125,91,93,40,41,44,61,60,62,43,45,42,47,37,33,63,58,46]
def onSP:Bytes→Bytes
 | []=>[]
 | b::_=>if indexByte onesS b < 0 then [] else [b]
theorem oneP_cons (b:UInt8)(r:Bytes):onSP (b::r)=if indexByte onesS b < 0 then [] else [b]:=rfl
def signP (l:Bytes):Bytes:=match twos.find? (λ t=>hasPrefix l t) with
 | some t=>t
 | none=>onSP l
theorem sign_len {l:Bytes}(hs:signP l≠[]):1≤(signP l).length∧(signP l).length≤l.length:=by
 have h0:1≤(signP l).length:=by cases h:signP l with | nil=>exact absurd h hs | cons _ _=>simp
 refine ⟨h0,?_⟩
 unfold signP
 cases h:twos.find? (λ t=>hasPrefix l t) with
 | some t=>exact hasPrefix_le (List.find?_some h)
 | none =>
  cases l with
  | nil=>exact Nat.le_refl _
  | cons b r =>
   show (onSP (b::r)).length≤_
   rw [oneP_cons]
   split <;> simp
def beginsP:Bytes→Bool
 | []=>false
 | b::r=>eR b||dZ b||decide (b.toNat=34)||decide (b.toNat=10)||!(signP (b::r)).isEmpty
theorem beginsP_cons (b:UInt8)(r:Bytes):beginsP (b::r)=(eR b||dZ b||decide (b.toNat=34)||decide (b.toNat=10)||!(signP (b::r)).isEmpty):=rfl
abbrev SE:=Int×Option Nat
def tokW (src:Bytes→SE⊕Bytes):Bytes→SE⊕(Int×Bytes×Bytes)
 | []=>.inl (2,some 0)
 | b::r=>if eR b=true then (if 64 < ((b::r).takeWhile idB).length then .inl (7,some (b::r).length) else .inr (1,(b::r).takeWhile idB,(b::r).dropWhile idB))
  else if dZ b=true then .inr (2,(b::r).takeWhile dZ,(b::r).dropWhile dZ)
  else if b.toNat=10 then .inr (5,[10],r)
  else if b.toNat=34 then (match src r with | .inl e=>.inl e | .inr r'=>.inr (3,r.take (r.length - r'.length - 1),r'))
  else if signP (b::r)=[] then .inl (2,some (b::r).length) else .inr (4,signP (b::r),(b::r).drop (signP (b::r)).length)
mutual
def srcS:Nat→Nat→Bytes→SE⊕Bytes
 | 0,_,_=>.inl (40,none)
 | _+1,_,[]=>.inl (40,none)
 | f+1,k,b::r=>if b.toNat=34 then .inr r
  else if hasPrefix (b::r) [36,36,123]=true then srcS f k ((b::r).drop 3)
  else if hasPrefix (b::r) [36,123]=true then (if 32≤k then .inl (4,some (b::r).length) else match intS f (k+1) 1 ((b::r).drop 2) with | .inl e=>.inl e | .inr l=>srcS f k l)
  else match (if b.toNat=92 then r else b::r) with
   | []=>.inl (40,none)
   | c::t=>if km (decodeL (c::t)) then .inl (2,some (c::t).length) else srcS f k ((c::t).drop (decodeL (c::t)).2)
def intS:Nat→Nat→Nat→Bytes→SE⊕Bytes
 | 0,_,_,_=>.inl (40,none)
 | f+1,k,n,l=>match skipP false l with
  | []=>.inl (40,none)
  | b::r=>match tokW (srcS f k) (b::r) with
   | .inl e=>.inl e
   | .inr (c,t,l')=>if c=4∧t=[125] then (if n=1 then .inr l' else intS f k (n - 1) l') else if c=4∧t=[123] then intS f k (n+1) l' else intS f k n l'
end
theorem tokW_cons (src:Bytes→SE⊕Bytes)(b:UInt8)(r:Bytes):tokW src (b::r)=if eR b=true then (if 64 < ((b::r).takeWhile idB).length then .inl (7,some (b::r).length) else .inr (1,(b::r).takeWhile idB,(b::r).dropWhile idB))
  else if dZ b=true then .inr (2,(b::r).takeWhile dZ,(b::r).dropWhile dZ)
  else if b.toNat=10 then .inr (5,[10],r)
  else if b.toNat=34 then (match src r with | .inl e=>.inl e | .inr r'=>.inr (3,r.take (r.length - r'.length - 1),r'))
  else if signP (b::r)=[] then .inl (2,some (b::r).length) else .inr (4,signP (b::r),(b::r).drop (signP (b::r)).length):=rfl
theorem srcS_cons (f k:Nat)(b:UInt8)(r:Bytes):srcS (f+1) k (b::r)=if b.toNat=34 then .inr r
  else if hasPrefix (b::r) [36,36,123]=true then srcS f k ((b::r).drop 3)
  else if hasPrefix (b::r) [36,123]=true then (if 32≤k then .inl (4,some (b::r).length) else match intS f (k+1) 1 ((b::r).drop 2) with | .inl e=>.inl e | .inr l=>srcS f k l)
  else match (if b.toNat=92 then r else b::r) with
   | []=>.inl (40,none)
   | c::t=>if km (decodeL (c::t)) then .inl (2,some (c::t).length) else srcS f k ((c::t).drop (decodeL (c::t)).2):=by rw [srcS]; rfl
def intT (q:Nat→Bytes→SE⊕Bytes)(n:Nat):SE⊕(Int×Bytes×Bytes)→SE⊕Bytes
 | .inl e=>.inl e
 | .inr (c,t,l')=>if c=4∧t=[125] then (if n=1 then .inr l' else q (n - 1) l') else if c=4∧t=[123] then q (n+1) l' else q n l'
def intR (q:Nat→Bytes→SE⊕Bytes)(src:Bytes→SE⊕Bytes)(n:Nat):Bytes→SE⊕Bytes
 | []=>.inl (40,none)
 | b::r=>intT q n (tokW src (b::r))
theorem intR_cons (q:Nat→Bytes→SE⊕Bytes)(src:Bytes→SE⊕Bytes)(n:Nat)(b:UInt8)(r:Bytes):intR q src n (b::r)=intT q n (tokW src (b::r)):=rfl
theorem intT_inr (q:Nat→Bytes→SE⊕Bytes)(n:Nat)(c:Int)(t l':Bytes):intT q n (.inr (c,t,l'))=if c=4∧t=[125] then (if n=1 then .inr l' else q (n - 1) l') else if c=4∧t=[123] then q (n+1) l' else q n l':=rfl
theorem intS_succ (f k n:Nat)(l:Bytes):intS (f+1) k n l=intR (intS f k) (srcS f k) n (skipP false l):=by
 rw [intS]
 cases skipP false l with
 | nil=>rfl
 | cons b r =>
  show (match tokW (srcS f k) (b::r) with
   | .inl e=>.inl e
   | .inr (c,t,l')=>if c=4∧t=[125] then (if n=1 then .inr l' else intS f k (n - 1) l') else if c=4∧t=[123] then intS f k (n+1) l' else intS f k n l')=intT (intS f k) n (tokW (srcS f k) (b::r))
  cases tokW (srcS f k) (b::r) with
  | inl e=>rfl
  | inr z=>rfl
theorem tokW_suf {src:Bytes→SE⊕Bytes}{l:Bytes}(hsrc:∀ r r',r.length < l.length→src r=.inr r'→r' <:+ r∧r'.length < r.length){c:Int}{t l':Bytes}(h:tokW src l=.inr (c,t,l')):l' <:+ l∧l'.length < l.length:=by
 cases l with
 | nil=>cases h
 | cons b r =>
  rw [tokW_cons] at h
  split at h
  ·rename_i hb
   split at h
   ·cases h
   ·cases h
    refine ⟨dw_suf _,?_⟩
    rw [List.dropWhile_cons_of_pos (by simp [idB,hb])]
    exact Nat.lt_succ_of_le (dw_suf r).length_le
  split at h
  ·rename_i hb
   cases h
   refine ⟨dw_suf _,?_⟩
   rw [List.dropWhile_cons_of_pos hb]
   exact Nat.lt_succ_of_le (dw_suf r).length_le
  split at h
  ·cases h; exact ⟨List.suffix_cons _ _,Nat.lt_succ_self _⟩
  split at h
  ·split at h
   ·cases h
   ·rename_i r' hr
    cases h
    obtain ⟨h1,h2⟩:=hsrc r _ (Nat.lt_succ_self _) hr
    exact ⟨h1.trans (List.suffix_cons _ _),Nat.lt_succ_of_lt h2⟩
  split at h
  ·cases h
  ·rename_i hs
   cases h
   have:=sign_len hs
   refine ⟨List.drop_suffix _ _,?_⟩
   rw [List.length_drop]; simp only [List.length_cons] at this ⊢; omega
theorem src_suf:∀ (f k:Nat),(∀ l l',srcS f k l=.inr l'→l' <:+ l∧l'.length < l.length)∧(∀ n l l',intS f k n l=.inr l'→l' <:+ l∧l'.length < l.length)
 | 0,k=>⟨λ l l' h=>(by rw [srcS] at h; cases h),λ n l l' h=>(by rw [intS] at h; cases h)⟩
 | f+1,k=>by
  have ih:=src_suf f
  constructor
  ·intro l l' h
   cases l with
   | nil=>rw [srcS] at h; cases h
   | cons b r =>
    rw [srcS_cons] at h
    split at h
    ·cases h; exact ⟨List.suffix_cons _ _,Nat.lt_succ_self _⟩
    split at h
    ·obtain ⟨h1,h2⟩:=(ih k).1 _ _ h
     exact ⟨h1.trans (List.drop_suffix _ _),by have:=List.length_drop (i:=3) (l:=b::r); simp only [List.length_cons] at this ⊢; omega⟩
    split at h
    ·split at h
     ·cases h
     ·split at h
      ·cases h
      ·rename_i l1 hl1
       obtain ⟨h1,h2⟩:=(ih (k+1)).2 _ _ _ hl1
       obtain ⟨h3,h4⟩:=(ih k).1 _ _ h
       exact ⟨h3.trans (h1.trans (List.drop_suffix _ _)),by have:=List.length_drop (i:=2) (l:=b::r); simp only [List.length_cons] at this ⊢; omega⟩
    ·have hs:(if b.toNat=92 then r else b::r) <:+ b::r:=by split; exact List.suffix_cons _ _; exact List.suffix_rfl
     split at h
     ·cases h
     ·rename_i c t hct
      rw [hct] at hs
      split at h
      ·cases h
      ·obtain ⟨h1,h2⟩:=(ih k).1 _ _ h
       exact ⟨h1.trans ((List.drop_suffix _ _).trans hs),by have:=hs.length_le; have:=(List.drop_suffix (decodeL (c::t)).2 (c::t)).length_le; omega⟩
  ·intro n l l' h
   rw [intS_succ] at h
   have hs:=skipP_suf false l
   generalize hbr:skipP false l=l0 at h hs
   cases l0 with
   | nil=>cases h
   | cons b r =>
    rw [intR_cons] at h
    cases hl1:tokW (srcS f k) (b::r) with
    | inl e=>rw [hl1] at h; cases h
    | inr z =>
     obtain ⟨c,t,l1⟩:=z
     rw [hl1,intT_inr] at h
     obtain ⟨h1,h2⟩:=tokW_suf (λ r r' _ hr=>(ih k).1 _ _ hr) hl1
     have h3:=hs.length_le
     have key:∀ n,intS f k n l1=.inr l'→l' <:+ l∧l'.length < l.length:=λ n hn=>by
      obtain ⟨h4,h5⟩:=(ih k).2 _ _ _ hn
      exact ⟨h4.trans (h1.trans hs),by omega⟩
     split at h
     ·split at h
      ·cases h; exact ⟨h1.trans hs,by omega⟩
      ·exact key _ h
     split at h
     ·exact key _ h
     ·exact key _ h
def errD (s:Bytes)(o:Int)(e:SE):TDiag:=TDiag.mk e.1 (match e.2 with | some n=>(s.length:Int) - (n:Int) | none=>o) []
def endE (n:Nat)(e:SE):SE:=(e.1,some (e.2.getD n))
abbrev Tk:=Int×Bytes×Nat
def scanT (q:Bytes→SE⊕List Tk)(n:Nat):SE⊕(Int×Bytes×Bytes)→SE⊕List Tk
 | .inl e=>.inl (endE n e)
 | .inr (k,t,l')=>(match q l' with
  | .inl e=>.inl e
  | .inr ts=>.inr ((k,t,n)::ts))
def scanR (q:Bytes→SE⊕List Tk)(src:Bytes→SE⊕Bytes)(c:Nat):Bytes→SE⊕List Tk
 | []=>if c=16384 then .inl (14,some 0) else .inr [(6,[],0)]
 | b::r=>if beginsP (b::r)=false then .inl (2,some (b::r).length) else if c=16384 then .inl (14,some (b::r).length)
   else scanT q (b::r).length (tokW src (b::r))
def scanS:Nat→Nat→Bytes→SE⊕List Tk
 | 0,_,_=>.inl (40,none)
 | f+1,c,l=>scanR (scanS f (c+1)) (srcS f 0) c (skipP true l)
theorem scanS_succ (f c:Nat)(l:Bytes):scanS (f+1) c l=scanR (scanS f (c+1)) (srcS f 0) c (skipP true l):=rfl
theorem scanR_nil (q:Bytes→SE⊕List Tk)(src:Bytes→SE⊕Bytes)(c:Nat):scanR q src c []=if c=16384 then .inl (14,some 0) else .inr [(6,[],0)]:=rfl
theorem scanR_cons (q:Bytes→SE⊕List Tk)(src:Bytes→SE⊕Bytes)(c:Nat)(b:UInt8)(r:Bytes):scanR q src c (b::r)=if beginsP (b::r)=false then .inl (2,some (b::r).length) else if c=16384 then .inl (14,some (b::r).length)
   else scanT q (b::r).length (tokW src (b::r)):=rfl
theorem scanT_inr (q:Bytes→SE⊕List Tk)(n:Nat)(k:Int)(t l':Bytes):scanT q n (.inr (k,t,l'))=match q l' with
  | .inl e=>.inl e
  | .inr ts=>.inr ((k,t,n)::ts):=rfl
def tkS (s:Bytes)(z:Tk):TToken:=TToken.mk z.1 z.2.1 ((s.length:Int) - (z.2.2:Int))
def ScanO (s:Bytes)(out:List TToken)(q:SE⊕List Tk):List TToken×TDiag:=match q with
 | .inl e=>([],errD s 0 e)
 | .inr ts=>(out++ts.map (tkS s),TDiag.mk 0 0 [])
def scanP (s:Bytes):List TToken×TDiag:=if 1152921504606846976 < s.length then ([],TDiag.mk 3 0 []) else ScanO s [] (scanS (s.length+1) 0 s)
def v0:ab:=ab.mk 0 0 [] [] []
def e0:aa:=aa.mk 0 0 [] [] v0 [] 0
def litE (v:ab)(at':Int):aa:=aa.mk 1 0 [] [] v [] at'
def strE (s:Bytes)(at':Int):aa:=litE (ab.mk 3 0 s [] []) at'
def resL:List Bytes:=[[110,117,108,108],[116,114,117,101],[102,97,108,115,101],[102,111,114],[105,110],[105,102]]
def resB (s:Bytes):Bool:=resL.any (λ t=>decide (s=t))
def valC (v:ab):Int:=if v.fKind=1∧v.fNum≠0∧v.fNum≠1∨v.fKind≠1∧v.fKind≠2∧v.fNum≠0∨v.fKind≠3∧v.fStr≠[]∨v.fItems≠[]∨v.fKeys≠[] then 1
 else if v.fKind=2∧¬ (-eN≤v.fNum∧v.fNum≤eN) then 5
 else if v.fKind=3∧4096 < v.fStr.length then 3
 else if v.fKind=3∧validD v.fStr=false then 1 else 0
def shpE (e:aa):Bool:=(expr_shaped e).getD false
def nodeC (e:aa):Int:=if shpE e=false then 1 else if e.fKind=1 then valC e.fValue
 else if (e.fKind=3∨e.fKind=4∨e.fKind=9∨e.fKind=12∨e.fKind=13)∧(aV e.fName=false∨e.fKind≠4∧resB e.fName=true) then 7
 else if e.fKey≠[]∧(aV e.fKey=false∨resB e.fKey=true) then 7 else 0
mutual
def visE:Nat→Nat→aa→Int×Nat
 | c,lv,.mk k op nm key v kids at'=>if 32 < lv then (4,c) else if 4096≤c then (14,c)
  else if nodeC (.mk k op nm key v kids at')=0 then visL (c+1) (lv+1) kids else (nodeC (.mk k op nm key v kids at'),c+1)
def visL:Nat→Nat→List aa→Int×Nat
 | c,_,[]=>(0,c)
 | c,lv,x::r=>if (visE c lv x).1=0 then visL (visE c lv x).2 lv r else visE c lv x
end
theorem visE_eq (c lv:Nat)(e:aa):visE c lv e=if 32 < lv then (4,c) else if 4096≤c then (14,c) else if nodeC e=0 then visL (c+1) (lv+1) e.fKids else (nodeC e,c+1):=by
 cases e; rw [visE]; rfl
theorem visL_cons (c lv:Nat)(x:aa)(r:List aa):visL c lv (x::r)=if (visE c lv x).1=0 then visL (visE c lv x).2 lv r else visE c lv x:=by rw [visL]
def chk (e:aa):Int:=(visE 0 1 e).1
def nlT (t:TToken):Bool:=decide (t.fKind=5)
def nf (b:Bool)(l:List TToken):List TToken:=if b then l.dropWhile nlT else l
def hd (b:Bool)(l:List TToken):TToken:=(nf b l).headD (TToken.mk 6 [] 0)
def tl (b:Bool)(l:List TToken):List TToken:=(nf b l).tail
def sgB (b:Bool)(l:List TToken)(s:Bytes):Bool:=decide ((hd b l).fKind=4)&&decide ((hd b l).fText=s)
def wdB (b:Bool)(l:List TToken)(s:Bytes):Bool:=decide ((hd b l).fKind=1)&&decide ((hd b l).fText=s)
abbrev PE:=Int×Int
abbrev PR (α:Type):=Option (PE⊕(α×List TToken))
def pb {α β:Type}(x:PR α)(k:α→List TToken→PR β):PR β:=match x with
 | none=>none
 | some (.inl e)=>some (.inl e)
 | some (.inr (a,l))=>k a l
def pok {α:Type}(a:α)(l:List TToken):PR α:=some (.inr (a,l))
def per {α:Type}(k a:Int):PR α:=some (.inl (k,a))
def needS (b:Bool)(s:Bytes)(l:List TToken):PR Unit:=if sgB b l s then pok () (tl b l) else per 2 (hd b l).fAt
def keyS (b:Bool)(s:Bytes)(l:List TToken):PR Unit:=if wdB b l s then pok () (tl b l) else per 2 (hd b l).fAt
def varS (b:Bool)(l:List TToken):PR Bytes:=if (hd b l).fKind=1∧resB (hd b l).fText=false then pok (hd b l).fText (tl b l) else per 2 (hd b l).fAt
def opsS:Nat→List (Bytes×Int)
 | 0=>[([124,124],3)]
 | 1=>[([38,38],4)]
 | 2=>[([61,61],5),([33,61],6)]
 | 3=>[([60],7),([60,61],8),([62],9),([62,61],10)]
 | 4=>[([43],11),([45],12)]
 | _=>[([42],13),([47],14),([37],15)]
def ampS (b:Bool)(l:List TToken)(lev:Nat):Option (Bytes×Int):=(opsS lev).find? (λ p=>sgB b l p.1)
def mvT (base:Int)(t:TToken):TToken:=TToken.mk t.fKind t.fText (t.fAt+base)
mutual
def closS:Nat→Nat→Bytes→Option (Option Bytes)
 | 0,_,_=>none
 | _+1,_,[]=>some none
 | f+1,d,b::r=>if b.toNat=123 then closS f (d+1) r
  else if b.toNat=125 then (if d=1 then some (some r) else closS f (d - 1) r)
  else if b.toNat=34 then (match quotS f r with | none=>none | some none=>some none | some (some r')=>closS f d r')
  else closS f d r
def quotS:Nat→Bytes→Option (Option Bytes)
 | 0,_=>none
 | _+1,[]=>some none
 | f+1,b::r=>if b.toNat=34 then some (some r)
  else if b.toNat=92 then quotS f (r.drop 1)
  else if hasPrefix (b::r) [36,36,123]=true then quotS f ((b::r).drop 3)
  else if hasPrefix (b::r) [36,123]=true then (match closS f 1 ((b::r).drop 2) with | none=>none | some none=>some none | some (some r')=>quotS f r')
  else quotS f r
end
def itemS:Bytes→Int⊕(Bytes×Nat)
 | []=>.inl 40
 | b::r=>if b.toNat=92 then (if (kg r).2.2=0 then .inr (encodeRune (kg r).1,(kg r).2.1.toNat+1) else .inl (kg r).2.2)
  else if km (decodeL (b::r))∨b.toNat=34 then .inl 2 else .inr ((b::r).take (decodeL (b::r)).2,(decodeL (b::r)).2)
def flS (frm pos:Int)(text:Bytes)(parts:List aa):List aa:=if frm < pos then parts++[strE text frm] else parts
def finS:PE⊕aa→PE⊕aa
 | .inl e=>.inl e
 | .inr e=>if chk e=0 then .inr e else .inl (chk e,e.fAt)
def tmplE (at':Int):Int×Int×Bytes×List aa×Bool→aa
 | (frm,pos,text,parts,opn)=>if opn then aa.mk 2 0 [] [] v0 (flS frm pos text parts) at' else strE text at'
mutual
def exprS:Nat→Bool→List TToken→PR aa
 | 0,_,_=>none
 | f+1,b,l=>pb (binS f 0 b l) λ c l=>if sgB b l [63] then pb (exprS f b (tl b l)) λ a l=>pb (needS b [58] l) λ _ l=>pb (exprS f b l) λ d l=>pok (aa.mk 8 0 [] [] v0 [c,a,d] c.fAt) l else pok c l
def binS:Nat→Nat→Bool→List TToken→PR aa
 | 0,_,_,_=>none
 | f+1,lev,b,l=>if 5 < lev then unS f b l else pb (binS f (lev+1) b l) λ e l=>binL f lev b e l
def binL:Nat→Nat→Bool→aa→List TToken→PR aa
 | 0,_,_,_,_=>none
 | f+1,lev,b,e,l=>match ampS b l lev with
  | none=>pok e l
  | some p=>pb (binS f (lev+1) b (tl b l)) λ x l=>binL f lev b (aa.mk 7 p.2 [] [] v0 [e,x] e.fAt) l
def unS:Nat→Bool→List TToken→PR aa
 | 0,_,_=>none
 | f+1,b,l=>if sgB b l [33] then pb (unS f b (tl b l)) λ e l'=>pok (aa.mk 6 1 [] [] v0 [e] (hd b l).fAt) l'
  else if sgB b l [45] then pb (unS f b (tl b l)) λ e l'=>pok (aa.mk 6 2 [] [] v0 [e] (hd b l).fAt) l'
  else pb (primS f b l) λ e l=>postL f b e l
def postL:Nat→Bool→aa→List TToken→PR aa
 | 0,_,_,_=>none
 | f+1,b,e,l=>if sgB b l [46] then (if (hd b (tl b l)).fKind=1 then postL f b (aa.mk 4 0 (hd b (tl b l)).fText [] v0 [e] e.fAt) (tl b (tl b l)) else per 2 (hd b (tl b l)).fAt)
  else if sgB b l [91] then pb (exprS f true (tl b l)) λ x l=>pb (needS true [93] l) λ _ l=>postL f b (aa.mk 5 0 [] [] v0 [e,x] e.fAt) l
  else pok e l
def primS:Nat→Bool→List TToken→PR aa
 | 0,_,_=>none
 | f+1,b,l=>if (hd b l).fKind=2 then (if (pq (hd b l).fText).2=0 then pok (litE (ab.mk 2 (pq (hd b l).fText).1 [] [] []) (hd b l).fAt) (tl b l) else per (pq (hd b l).fText).2 (hd b l).fAt)
  else if (hd b l).fKind=3 then strS f b l
  else if (hd b l).fKind=1 then nameS f b l
  else if sgB b l [40] then pb (exprS f true (tl b l)) λ e l=>pb (needS true [41] l) λ _ l=>pok e l
  else if sgB b l [91] then (if wdB true (tl b l) [102,111,114] then loopS f (hd b l).fAt 12 (tl true (tl b l)) else pb (itemsS f [93] (tl b l)) λ ks l'=>pok (aa.mk 10 0 [] [] v0 ks (hd b l).fAt) l')
  else if sgB b l [123] then (if wdB true (tl b l) [102,111,114] then loopS f (hd b l).fAt 13 (tl true (tl b l)) else pb (entS f (tl b l)) λ ks l'=>pok (aa.mk 11 0 [] [] v0 ks (hd b l).fAt) l')
  else per 2 (hd b l).fAt
def strS:Nat→Bool→List TToken→PR aa
 | 0,_,_=>none
 | f+1,b,l=>match tmplS f (hd b l).fText ((hd b l).fAt+1) with
  | none=>none
  | some (.inl e)=>some (.inl e)
  | some (.inr e)=>pok (aa.mk e.fKind e.fOp e.fName e.fKey e.fValue e.fKids (hd b l).fAt) (tl b l)
def nameS:Nat→Bool→List TToken→PR aa
 | 0,_,_=>none
 | f+1,b,l=>if (hd b l).fText=[110,117,108,108] then pok (litE v0 (hd b l).fAt) (tl b l)
  else if (hd b l).fText=[116,114,117,101] then pok (litE (ab.mk 1 1 [] [] []) (hd b l).fAt) (tl b l)
  else if (hd b l).fText=[102,97,108,115,101] then pok (litE (ab.mk 1 0 [] [] []) (hd b l).fAt) (tl b l)
  else if resB (hd b l).fText=true then per 2 (hd b l).fAt
  else if sgB b (tl b l) [40] then pb (itemsS f [41] (tl b (tl b l))) λ ks l'=>pok (aa.mk 9 0 (hd b l).fText [] v0 ks (hd b l).fAt) l'
  else pok (aa.mk 3 0 (hd b l).fText [] v0 [] (hd b l).fAt) (tl b l)
def itemsS:Nat→Bytes→List TToken→PR (List aa)
 | 0,_,_=>none
 | f+1,e,l=>if sgB true l e then pok [] (tl true l)
  else pb (exprS f true l) λ x l=>if sgB true l [44] then pb (itemsS f e (tl true l)) λ r l=>pok (x::r) l else pb (needS true e l) λ _ l=>pok [x] l
def entS:Nat→List TToken→PR (List aa)
 | 0,_=>none
 | f+1,l=>if sgB true l [125] then pok [] (tl true l)
  else pb (mkeyS f l) λ k l=>pb (needS true [61] l) λ _ l=>pb (exprS f true l) λ x l=>if sgB true l [44] then pb (entS f (tl true l)) λ r l=>pok (k::x::r) l else pb (needS true [125] l) λ _ l=>pok [k,x] l
def mkeyS:Nat→List TToken→PR aa
 | 0,_=>none
 | f+1,l=>if (hd true l).fKind=1 then pok (strE (hd true l).fText (hd true l).fAt) (tl true l)
  else if (hd true l).fKind=3 then strS f true l
  else if sgB true l [40] then pb (exprS f true (tl true l)) λ e l=>pb (needS true [41] l) λ _ l=>pok e l
  else per 2 (hd true l).fAt
def loopS:Nat→Int→Int→List TToken→PR aa
 | 0,_,_,_=>none
 | f+1,at',k,l=>pb (varS true l) λ v l =>
  pb (if sgB true l [44] then pb (varS true (tl true l)) λ w l=>pok (w,v) l else pok (v,[]) l) λ nk l =>
  pb (keyS true [105,110] l) λ _ l=>pb (exprS f true l) λ a l=>pb (needS true [58] l) λ _ l=>pb (exprS f true l) λ c l =>
  pb (if k=13 then pb (needS true [61,62] l) λ _ l=>pb (exprS f true l) λ d l=>pok [a,c,d] l else pok [a,c] l) λ ks l =>
  pb (if wdB true l [105,102] then pb (exprS f true (tl true l)) λ e l=>pok (ks++[e]) l else pok ks l) λ ks l =>
  pb (needS true (if k=13 then [125] else [93]) l) λ _ l=>pok (aa.mk k 0 nk.1 nk.2 v0 ks at') l
def tmplS:Nat→Bytes→Int→Option (PE⊕aa)
 | 0,_,_=>none
 | f+1,s,at'=>match readS f at' at' [] [] false s with
  | none=>none
  | some (.inl e)=>some (.inl e)
  | some (.inr z)=>some (finS (.inr (tmplE at' z)))
def readS:Nat→Int→Int→Bytes→List aa→Bool→Bytes→Option (PE⊕(Int×Int×Bytes×List aa×Bool))
 | 0,_,_,_,_,_,_=>none
 | f+1,frm,pos,text,parts,opn,l=>match l with
  | []=>some (.inr (frm,pos,text,parts,opn))
  | c::r=>if hasPrefix (c::r) [36,36,123]=true then (if 4096 < text.length+2 then some (.inl (3,frm)) else readS f frm (pos+3) (text++[36,123]) parts opn ((c::r).drop 3))
   else if hasPrefix (c::r) [36,123]=true then (match closS f 1 ((c::r).drop 2) with
    | none=>none
    | some none=>some (.inl (40,pos))
    | some (some r')=>match wholeS f (((c::r).drop 2).take (((c::r).drop 2).length - r'.length - 1)) (pos+2) with
     | none=>none
     | some (.inl e)=>some (.inl e)
     | some (.inr e)=>readS f (pos+((c::r).length - r'.length:Nat)) (pos+((c::r).length - r'.length:Nat)) [] (flS frm pos text parts++[e]) true r')
   else match itemS (c::r) with
    | .inl k=>some (.inl (k,pos))
    | .inr (t,n)=>if 4096 < text.length+t.length then some (.inl (3,frm)) else readS f frm (pos+(n:Int)) (text++t) parts opn ((c::r).drop n)
def wholeS:Nat→Bytes→Int→Option (PE⊕aa)
 | 0,_,_=>none
 | f+1,s,base=>if (scanP s).2.fKind≠0 then some (.inl ((scanP s).2.fKind,base+(scanP s).2.fAt))
  else match exprS f true ((scanP s).1.map (mvT base)) with
   | none=>none
   | some (.inl e)=>some (.inl e)
   | some (.inr (e,l))=>if (hd true l).fKind=6 then some (.inr e) else some (.inl (2,(hd true l).fAt))
end
def TkB (t:TToken):Prop:=0≤t.fAt∧t.fAt+(t.fText.length:Int)≤1000000000∧(t.fKind=3→t.fAt+1+(t.fText.length:Int)≤1000000000)∧(t.fKind=2→t.fText.all dZ=true)
def Gd:List TToken→Prop
 | []=>False
 | t::r=>TkB t∧((t.fKind=6∧r=[])∨(t.fKind≠6∧Gd r))
theorem nlT_iff {t:TToken}:nlT t=true↔t.fKind=5:=by simp [nlT]
theorem nf_nil (b:Bool):nf b []=[]:=by cases b <;> rfl
theorem nf_cons (b:Bool)(t:TToken)(r:List TToken):nf b (t::r)=if b=true∧t.fKind=5 then nf b r else t::r:=by
 cases b with
 | false=>simp [nf]
 | true=>simp only [nf,if_true,true_and]; rw [List.dropWhile_cons]; simp only [nlT_iff]
theorem nf_nf (b:Bool):∀ (l:List TToken),nf b (nf b l)=nf b l
 | []=>by rw [nf_nil,nf_nil]
 | t::r=>by
  rw [nf_cons]
  split
  ·exact nf_nf b r
  ·rename_i h; rw [nf_cons,if_neg h]
theorem nf_gd {b:Bool}:∀ {l:List TToken},Gd l→Gd (nf b l)
 | [],h=>h.elim
 | t::r,h=>by
  rw [nf_cons]
  split
  ·rename_i h1
   rcases h.2 with h2 | h2
   ·omega
   ·exact nf_gd h2.2
  ·exact h
theorem nf_map (b:Bool)(base:Int):∀ (l:List TToken),nf b (l.map (mvT base))=(nf b l).map (mvT base)
 | []=>by rw [List.map_nil,nf_nil,List.map_nil]
 | t::r=>by
  rw [List.map_cons,nf_cons,nf_cons,nf_map b base r]
  show (if b=true∧t.fKind=5 then _ else _)=_
  split <;> rfl
theorem Gd_ne {l:List TToken}(h:Gd l):l≠[]:=by intro e; subst e; exact h
theorem hd_tl {b:Bool}{l:List TToken}(h:Gd (nf b l)):nf b l=hd b l::tl b l:=by
 unfold hd tl
 cases hn:nf b l with
 | nil=>rw [hn] at h; exact h.elim
 | cons t r=>rfl
theorem tl_gd {b:Bool}{l:List TToken}(h:Gd (nf b l))(h6:(hd b l).fKind≠6):Gd (tl b l):=by
 have:=h; rw [hd_tl h] at this
 rcases this.2 with h2 | h2
 ·exact absurd h2.1 h6
 ·exact h2.2
theorem drop_gd {base:Int}:∀ {L:List TToken} {i:Nat},Gd (L.map (mvT base))→i < L.length→Gd ((L.drop i).map (mvT base))
 | [],_,h,_=>h.elim
 | t::r,0,h,_=>h
 | t::r,i+1,h,hi=>by
  rcases h.2 with h2 | h2
  ·have:r=[]:=List.map_eq_nil_iff.1 h2.2
   subst this; simp at hi
  ·exact drop_gd (L:=r) (i:=i) h2.2 (by simpa using hi)
theorem lat_drop {L:List TToken}{i:Nat}(h:i < L.length):L.drop i=lat L (i:Int)::L.drop (i+1):=by
 rw [kH L i h]; exact List.drop_eq_getElem_cons h
section
variable {L:List TToken} {base:Int}
def Pos (L:List TToken)(base:Int)(i:Nat)(nest:Int)(b:Bool)(l:List TToken):Prop :=
 i < L.length∧0≤nest∧nest+((L.length - i:Nat):Int)≤1000000000∧b=decide (0 < nest)∧nf b ((L.drop i).map (mvT base))=nf b l
theorem Pos.gd {i:Nat}{nest:Int}{b:Bool}{l:List TToken}(hL:Gd (L.map (mvT base)))(h:Pos L base i nest b l):Gd (nf b l):=by
 rw [← h.2.2.2.2]; exact nf_gd (drop_gd hL h.1)
theorem Pos.ext {i j:Nat}{nest:Int}{b:Bool}{l:List TToken}(h:Pos L base i nest b l)(h1:i≤j)(h2:j < L.length)(h3:L.drop j=nf b (L.drop i)):Pos L base j nest b l:=by
 obtain ⟨q1,q2,q3,q4,q5⟩:=h
 refine ⟨h2,q2,by omega,q4,?_⟩
 rw [nf_map,h3,nf_nf,← nf_map,q5]
theorem Pos.any {i:Nat}{nest:Int}{b:Bool}{l:List TToken}(h:Pos L base i nest b l):Pos L base i nest b ((L.drop i).map (mvT base)):=⟨h.1,h.2.1,h.2.2.1,h.2.2.2.1,rfl⟩
theorem Pos.next {j:Nat}{nest:Int}{b:Bool}{l:List TToken}(hL:Gd (L.map (mvT base)))(h:Pos L base j nest b l)(hdr:(L.drop j).map (mvT base)=nf b l)(h6:(hd b l).fKind≠6) :
  Pos L base (j+1) nest b (tl b l)∧(L.drop (j+1)).map (mvT base)=tl b l:=by
 have hg:Gd (nf b l):=h.gd hL
 have e:(L.drop (j+1)).map (mvT base)=tl b l:=by
  have:=hdr
  rw [lat_drop h.1,List.map_cons,hd_tl hg] at this
  exact (List.cons.inj this).2
 have hne:=Gd_ne (tl_gd hg h6)
 have:j+1 < L.length:=by
  rw [← e] at hne
  rcases Nat.lt_or_ge (j+1) L.length with q | q
  ·exact q
  ·rw [List.drop_eq_nil_of_le q] at hne; exact absurd rfl hne
 obtain ⟨q1,q2,q3,q4,q5⟩:=h
 exact ⟨⟨this,q2,by omega,q4,by rw [e]⟩,e⟩
theorem Pos.out {j:Nat}{nest:Int}{l l':List TToken}(h:Pos L base j (nest+1) true l)(h0:0≤nest)(he:(L.drop j).map (mvT base)=l'):Pos L base j nest (decide (0 < nest)) l':=by
 obtain ⟨q1,q2,q3,q4,q5⟩:=h
 exact ⟨q1,h0,by omega,rfl,by rw [he]⟩
end
end Go.Ab.R06.U
end
section
namespace Go.Ab.R06.U
open Go.Ab.R06
open Go.Ab Go.Ab.RB Go.Lib
section
variable {α β:Type}
end
inductive VSz:ab→Prop where
 | mk {x:ab} (v:x.fItems.length+x.fKeys.length≤1000000000000000) (sub:∀ y∈x.fItems,VSz y):VSz x
theorem VSz.v {x:ab}(h:VSz x):x.fItems.length+x.fKeys.length≤1000000000000000:=by cases h; assumption
inductive Sz:aa→Prop where
 | mk {x:aa} (n:x.fName.length≤1000000000000000) (k:x.fKey.length≤1000000000000000) (w:VSz x.fValue) (c:x.fKids.length≤1000000000000000) (kids:∀ y∈x.fKids,Sz y):Sz x
theorem Sz.n {x:aa}(h:Sz x):x.fName.length≤1000000000000000:=by cases h; assumption
theorem Sz.k {x:aa}(h:Sz x):x.fKey.length≤1000000000000000:=by cases h; assumption
theorem Sz.w {x:aa}(h:Sz x):VSz x.fValue:=by cases h; assumption
theorem Sz.v {x:aa}(h:Sz x):x.fValue.fItems.length+x.fValue.fKeys.length≤1000000000000000:=h.w.v
theorem Sz.kids {x:aa}(h:Sz x):∀ y∈x.fKids,Sz y:=by cases h; assumption
mutual
def nodesE:aa→Nat
 | .mk _ _ _ _ _ kids _=>1+nodesL kids
def nodesL:List aa→Nat
 | []=>0
 | x::r=>nodesE x+nodesL r
end
theorem nodesE_eq (e:aa):nodesE e=1+nodesL e.fKids:=by cases e; simp only [nodesE,aa.fKids]
end Go.Ab.R06.U
end
section
namespace Go.Ab.R06.U
open Go.Ab.R06
open Go.Ab Go.Ab.RB Go.Lib
theorem tlS (b:Bool)(l:List TToken):tl b l <:+ l:=by
 unfold tl nf
 cases b
 ·exact List.tail_suffix _
 ·exact (List.tail_suffix _).trans (List.dropWhile_suffix _)
theorem t1 {b:Bool}{l m:List TToken}(h:l <:+ m):tl b l <:+ m:=(tlS b l).trans h
def Gl (l:List TToken):Prop:=Gd l∧l.length≤1000000000
abbrev Tr {α:Type}:α→Prop:=λ _=>True
theorem m1 {a:aa}(h:Sz a):∀ y∈[a],Sz y:=λ y hy=>by rw [List.mem_singleton.1 hy]; exact h
theorem m2 {a b:aa}(h:Sz a)(g:Sz b):∀ y∈[a,b],Sz y:=λ y hy=>by
 rcases List.mem_cons.1 hy with rfl | hy
 ·exact h
 ·exact m1 g y hy
theorem m3 {a b c:aa}(h:Sz a)(g:Sz b)(k:Sz c):∀ y∈[a,b,c],Sz y:=λ y hy=>by
 rcases List.mem_cons.1 hy with rfl | hy
 ·exact h
 ·exact m2 g k y hy
end Go.Ab.R06.U
end
end
section
section
namespace Go.Ab.R06.U
open Go.Ab.R06
open Go.Ab Go.Ab.RB Go.Lib
theorem tokW_congr {s s':Bytes→SE⊕Bytes}{b:UInt8}{r:Bytes}(h:s r=s' r):tokW s (b::r)=tokW s' (b::r):=by
 rw [tokW_cons,tokW_cons,h]
theorem src_stab:∀ f,(∀ k l g,l.length < f→f≤g→srcS g k l=srcS f k l)∧(∀ k n l g,l.length < f→f≤g→intS g k n l=intS f k n l)
 | 0=>⟨λ _ _ _ h=>absurd h (Nat.not_lt_zero _),λ _ _ _ _ h=>absurd h (Nat.not_lt_zero _)⟩
 | f+1=>by
  obtain ⟨ih1,ih2⟩:=src_stab f
  constructor
  ·intro k l g hl hg
   obtain ⟨g,rfl⟩:∃ g',g=g'+1:=⟨g - 1,by omega⟩
   cases l with
   | nil=>rw [srcS,srcS]
   | cons b r =>
    simp only [List.length_cons] at hl
    rw [srcS_cons,srcS_cons]
    split
    ·rfl
    split
    ·exact ih1 _ _ _ (by simp only [List.length_drop,List.length_cons]; omega) (by omega)
    split
    ·split
     ·rfl
     ·rw [ih2 (k+1) 1 ((b::r).drop 2) g (by simp only [List.length_drop,List.length_cons]; omega) (by omega)]
      cases hi:intS f (k+1) 1 ((b::r).drop 2) with
      | inl e=>rfl
      | inr l1 =>
       have h2:=((src_suf f (k+1)).2 _ _ _ hi).2
       exact ih1 _ _ _ (by simp only [List.length_drop,List.length_cons] at h2; omega) (by omega)
    ·have hs:(if b.toNat=92 then r else b::r).length≤r.length+1:=by split <;> simp
     split
     ·rfl
     ·rename_i c t hct
      rw [hct] at hs
      split
      ·rfl
      ·have:=(iI (c::t) (by simp)).1
       exact ih1 _ _ _ (by simp only [List.length_drop,List.length_cons] at hs ⊢; omega) (by omega)
  ·intro k n l g hl hg
   obtain ⟨g,rfl⟩:∃ g',g=g'+1:=⟨g - 1,by omega⟩
   rw [intS_succ,intS_succ]
   have hs:=(skipP_suf false l).length_le
   cases hbr:skipP false l with
   | nil=>rfl
   | cons b r =>
    rw [hbr] at hs
    simp only [List.length_cons] at hs
    rw [intR_cons,intR_cons,tokW_congr (ih1 k r g (by omega) (by omega))]
    cases hl1:tokW (srcS f k) (b::r) with
    | inl e=>rfl
    | inr z =>
     obtain ⟨c,t,l1⟩:=z
     have h2:=(tokW_suf (λ r r' _ hr=>(src_suf f k).1 _ _ hr) hl1).2
     simp only [List.length_cons] at h2
     rw [intT_inr,intT_inr,ih2 k (n - 1) l1 g (by omega) (by omega),ih2 k (n+1) l1 g (by omega) (by omega),ih2 k n l1 g (by omega) (by omega)]
def srcF (k:Nat)(l:Bytes):SE⊕Bytes:=srcS (l.length+1) k l
def intF (k n:Nat)(l:Bytes):SE⊕Bytes:=intS (l.length+1) k n l
theorem srcF_at {f k:Nat}{l:Bytes}(h:l.length < f):srcS f k l=srcF k l:=(src_stab (l.length+1)).1 k l f (by omega) (by omega)
theorem intF_at {f k n:Nat}{l:Bytes}(h:l.length < f):intS f k n l=intF k n l:=(src_stab (l.length+1)).2 k n l f (by omega) (by omega)
theorem srcF_cons (k:Nat)(b:UInt8)(r:Bytes):srcF k (b::r)=if b.toNat=34 then .inr r
  else if hasPrefix (b::r) [36,36,123]=true then srcF k ((b::r).drop 3)
  else if hasPrefix (b::r) [36,123]=true then (if 32≤k then .inl (4,some (b::r).length) else match intF (k+1) 1 ((b::r).drop 2) with | .inl e=>.inl e | .inr l=>srcF k l)
  else match (if b.toNat=92 then r else b::r) with
   | []=>.inl (40,none)
   | c::t=>if km (decodeL (c::t)) then .inl (2,some (c::t).length) else srcF k ((c::t).drop (decodeL (c::t)).2):=by
 have e:srcF k (b::r)=srcS ((b::r).length+1) k (b::r):=rfl
 rw [e,srcS_cons]
 split
 ·rfl
 split
 ·exact srcF_at (by simp only [List.length_drop,List.length_cons]; omega)
 split
 ·split
  ·rfl
  ·rw [intF_at (by simp only [List.length_drop,List.length_cons]; omega)]
   cases hi:intF (k+1) 1 ((b::r).drop 2) with
   | inl e=>rfl
   | inr l1 =>
    have h2:=((src_suf _ (k+1)).2 _ _ _ hi).2
    exact srcF_at (by simp only [List.length_drop,List.length_cons] at h2 ⊢; omega)
 ·have hs:(if b.toNat=92 then r else b::r).length≤r.length+1:=by split <;> simp
  generalize (if b.toNat=92 then r else b::r)=w at hs ⊢
  cases w with
  | nil=>rfl
  | cons c t =>
   simp only
   split
   ·rfl
   ·have:=(iI (c::t) (by simp)).1
    exact srcF_at (by simp only [List.length_drop,List.length_cons] at hs ⊢; omega)
theorem intF_eq (k n:Nat)(l:Bytes):intF k n l=intR (intF k) (srcF k) n (skipP false l):=by
 have e:intF k n l=intS (l.length+1) k n l:=rfl
 rw [e,intS_succ]
 have hs:=(skipP_suf false l).length_le
 cases hbr:skipP false l with
 | nil=>rfl
 | cons b r =>
  rw [hbr] at hs
  simp only [List.length_cons] at hs
  rw [intR_cons,intR_cons,tokW_congr (srcF_at (by omega):srcS l.length k r=srcF k r)]
  cases hl1:tokW (srcF k) (b::r) with
  | inl e=>rfl
  | inr z =>
   obtain ⟨c,t,l1⟩:=z
   have h2:=(tokW_suf (λ r r' _ hr=>(src_suf _ k).1 _ _ hr) hl1).2
   simp only [List.length_cons] at h2
   rw [intT_inr,intT_inr,intF_at (by omega),intF_at (by omega),intF_at (by omega)]
theorem skip_sp (c:Bool)(l:Bytes):skipP c (32::l)=skipP c l:=by
 unfold skipP
 rw [List.dropWhile_cons,if_pos (by decide)]
theorem intF_sp (k n:Nat)(l:Bytes):intF k n (32::l)=intF k n l:=by rw [intF_eq,skip_sp,← intF_eq]
theorem scan_stab:∀ (f c:Nat) (l:Bytes) (g:Nat),l.length < f→f≤g→scanS g c l=scanS f c l
 | 0,_,_,_,h,_=>absurd h (Nat.not_lt_zero _)
 | f+1,c,l,g,hl,hg=>by
  obtain ⟨g,rfl⟩:∃ g',g=g'+1:=⟨g - 1,by omega⟩
  rw [scanS_succ,scanS_succ]
  have hs:=(skipP_suf true l).length_le
  cases hbr:skipP true l with
  | nil=>rfl
  | cons b r =>
   rw [hbr] at hs
   simp only [List.length_cons] at hs
   rw [scanR_cons,scanR_cons,tokW_congr ((src_stab f).1 0 r g (by omega) (by omega))]
   cases hl1:tokW (srcS f 0) (b::r) with
   | inl e=>rfl
   | inr z =>
    obtain ⟨k,t,l1⟩:=z
    have h2:=(tokW_suf (λ r r' _ hr=>(src_suf f 0).1 _ _ hr) hl1).2
    simp only [List.length_cons] at h2
    rw [scanT_inr,scanT_inr,scan_stab f (c+1) l1 g (by omega) (by omega)]
def scanF (c:Nat)(l:Bytes):SE⊕List Tk:=scanS (l.length+1) c l
theorem scanF_eq (c:Nat)(l:Bytes):scanF c l=scanR (scanF (c+1)) (srcF 0) c (skipP true l):=by
 have e:scanF c l=scanS (l.length+1) c l:=rfl
 rw [e,scanS_succ]
 have hs:=(skipP_suf true l).length_le
 cases hbr:skipP true l with
 | nil=>rfl
 | cons b r =>
  rw [hbr] at hs
  simp only [List.length_cons] at hs
  rw [scanR_cons,scanR_cons,tokW_congr (srcF_at (by omega):srcS l.length 0 r=srcF 0 r)]
  cases hl1:tokW (srcF 0) (b::r) with
  | inl e=>rfl
  | inr z =>
   obtain ⟨k,t,l1⟩:=z
   have h2:=(tokW_suf (λ r r' _ hr=>(src_suf _ 0).1 _ _ hr) hl1).2
   simp only [List.length_cons] at h2
   rw [scanT_inr,scanT_inr,show scanS l.length (c+1) l1=scanF (c+1) l1 from scan_stab (l1.length+1) _ _ _ (by omega) (by omega)]
theorem scanF_sp (c:Nat)(l:Bytes):scanF c (32::l)=scanF c l:=by rw [scanF_eq,skip_sp,← scanF_eq]
theorem clos_len:∀ f,(∀ d l r,closS f d l=some (some r)→r.length < l.length)∧(∀ l r,quotS f l=some (some r)→r.length < l.length)
 | 0=>⟨λ _ _ _ h=>(by rw [closS] at h; cases h),λ _ _ h=>(by rw [quotS] at h; cases h)⟩
 | f+1=>by
  obtain ⟨ih1,ih2⟩:=clos_len f
  constructor
  ·intro d l r h
   cases l with
   | nil=>rw [closS] at h; cases h
   | cons b t =>
    rw [closS] at h
    simp only [List.length_cons]
    split at h
    ·have:=ih1 _ _ _ h; omega
    split at h
    ·split at h
     ·cases h; omega
     ·have:=ih1 _ _ _ h; omega
    split at h
    ·split at h
     ·cases h
     ·cases h
     ·rename_i q
      have:=ih1 _ _ _ h; have:=ih2 _ _ q; omega
    ·have:=ih1 _ _ _ h; omega
  ·intro l r h
   cases l with
   | nil=>rw [quotS] at h; cases h
   | cons b t =>
    rw [quotS] at h
    simp only [List.length_cons]
    split at h
    ·cases h; omega
    split at h
    ·have:=ih2 _ _ h; simp only [List.length_drop] at this; omega
    split at h
    ·have:=ih2 _ _ h; simp only [List.length_drop,List.length_cons] at this; omega
    split at h
    ·split at h
     ·cases h
     ·cases h
     ·rename_i q
      have:=ih1 _ _ _ q; have:=ih2 _ _ h; simp only [List.length_drop,List.length_cons] at *; omega
    ·have:=ih2 _ _ h; omega
theorem clos_stab:∀ f,(∀ d l g,l.length < f→f≤g→closS g d l=closS f d l)∧(∀ l g,l.length < f→f≤g→quotS g l=quotS f l)
 | 0=>⟨λ _ _ _ h=>absurd h (Nat.not_lt_zero _),λ _ _ h=>absurd h (Nat.not_lt_zero _)⟩
 | f+1=>by
  obtain ⟨ih1,ih2⟩:=clos_stab f
  constructor
  ·intro d l g hl hg
   obtain ⟨g,rfl⟩:∃ g',g=g'+1:=⟨g - 1,by omega⟩
   cases l with
   | nil=>rw [closS,closS]
   | cons b r =>
    simp only [List.length_cons] at hl
    rw [closS,closS,ih1 (d+1) r g (by omega) (by omega),ih1 (d - 1) r g (by omega) (by omega),ih1 d r g (by omega) (by omega),ih2 r g (by omega) (by omega)]
    split
    ·rfl
    split
    ·rfl
    split
    ·cases hq:quotS f r with
     | none=>rfl
     | some o=>cases o with
      | none=>rfl
      | some r' =>
       have:=(clos_len f).2 _ _ hq
       exact ih1 _ _ _ (by omega) (by omega)
    ·rfl
  ·intro l g hl hg
   obtain ⟨g,rfl⟩:∃ g',g=g'+1:=⟨g - 1,by omega⟩
   cases l with
   | nil=>rw [quotS,quotS]
   | cons b r =>
    simp only [List.length_cons] at hl
    rw [quotS,quotS,ih2 r g (by omega) (by omega),ih2 (r.drop 1) g (by simp only [List.length_drop]; omega) (by omega),ih2 ((b::r).drop 3) g (by simp only [List.length_drop,List.length_cons]; omega) (by omega),ih1 1 ((b::r).drop 2) g (by simp only [List.length_drop,List.length_cons]; omega) (by omega)]
    split
    ·rfl
    split
    ·rfl
    split
    ·rfl
    split
    ·cases hq:closS f 1 ((b::r).drop 2) with
     | none=>rfl
     | some o=>cases o with
      | none=>rfl
      | some r' =>
       have:=(clos_len f).1 _ _ _ hq
       exact ih2 _ _ (by simp only [List.length_drop,List.length_cons] at this; omega) (by omega)
    ·rfl
def closF (d:Nat)(l:Bytes):Option (Option Bytes):=closS (l.length+1) d l
def quotF (l:Bytes):Option (Option Bytes):=quotS (l.length+1) l
theorem closF_at {f d:Nat}{l:Bytes}(h:l.length < f):closS f d l=closF d l:=(clos_stab (l.length+1)).1 d l f (by omega) (by omega)
theorem quotF_at {f:Nat}{l:Bytes}(h:l.length < f):quotS f l=quotF l:=(clos_stab (l.length+1)).2 l f (by omega) (by omega)
theorem closF_cons (d:Nat)(b:UInt8)(r:Bytes):closF d (b::r)=if b.toNat=123 then closF (d+1) r
  else if b.toNat=125 then (if d=1 then some (some r) else closF (d - 1) r)
  else if b.toNat=34 then (match quotF r with | none=>none | some none=>some none | some (some r')=>closF d r')
  else closF d r:=by
 have e:closF d (b::r)=closS ((b::r).length+1) d (b::r):=rfl
 rw [e,closS,closF_at (by simp),closF_at (by simp),closF_at (by simp),quotF_at (by simp)]
 split
 ·rfl
 split
 ·rfl
 split
 ·cases hq:quotF r with
  | none=>rfl
  | some o=>cases o with
   | none=>rfl
   | some r' =>
    have:=(clos_len _).2 _ _ hq
    exact closF_at (by simp only [List.length_cons]; omega)
 ·rfl
theorem quotF_cons (b:UInt8)(r:Bytes):quotF (b::r)=if b.toNat=34 then some (some r)
  else if b.toNat=92 then quotF (r.drop 1)
  else if hasPrefix (b::r) [36,36,123]=true then quotF ((b::r).drop 3)
  else if hasPrefix (b::r) [36,123]=true then (match closF 1 ((b::r).drop 2) with | none=>none | some none=>some none | some (some r')=>quotF r')
  else quotF r:=by
 have e:quotF (b::r)=quotS ((b::r).length+1) (b::r):=rfl
 rw [e,quotS,quotF_at (l:=r) (by simp),quotF_at (l:=r.drop 1) (by simp only [List.length_drop,List.length_cons]; omega),quotF_at (l:=(b::r).drop 3) (by simp only [List.length_drop,List.length_cons]; omega),closF_at (by simp only [List.length_drop,List.length_cons]; omega)]
 split
 ·rfl
 split
 ·rfl
 split
 ·rfl
 split
 ·cases hq:closF 1 ((b::r).drop 2) with
  | none=>rfl
  | some o=>cases o with
   | none=>rfl
   | some r' =>
    have:=(clos_len _).1 _ _ _ hq
    exact quotF_at (by simp only [List.length_drop,List.length_cons] at this ⊢; omega)
 ·rfl
abbrev Tok:=Int×Bytes
def ktk (z:Tk):Tok:=(z.1,z.2.1)
structure Go (D:Nat)(l:List Tok)(x y:Bytes):Prop where
 i:∀ k n,k+D≤32→intF k (n+1) x=intF k (n+1) y
 c:∀ d,closF (d+1) x=closF (d+1) y
 s:D≤32→∀ c ts,c+l.length≤16384→scanF (c+l.length) y=.inr ts→∃ ts':List Tk,ts'.map ktk=l∧scanF c x=.inr (ts'++ts)
theorem Go.refl {D:Nat}{x:Bytes}:Go D [] x x:=⟨λ _ _ _=>rfl,λ _=>rfl,λ _ _ _ts _ h=>⟨[],rfl,h⟩⟩
theorem Go.trans {D:Nat}{l m:List Tok}{x y z:Bytes}(h:Go D l x y)(g:Go D m y z):Go D (l++m) x z where
 i k n hk:=(h.i k n hk).trans (g.i k n hk)
 c d:=(h.c d).trans (g.c d)
 s hD c ts hc hs:=by
  rw [List.length_append] at hc hs
  obtain ⟨t2,e2,h2⟩:=g.s hD (c+l.length) ts (by omega) (by rw [Nat.add_assoc]; exact hs)
  obtain ⟨t1,e1,h1⟩:=h.s hD c _ (by omega) h2
  exact ⟨t1++t2,by rw [List.map_append,e1,e2],by rw [h1,List.append_assoc]⟩
theorem Go.mono {D E:Nat}{l:List Tok}{x y:Bytes}(hDE:D≤E)(h:Go D l x y):Go E l x y :=
 ⟨λ k n hk=>h.i k n (by omega),h.c,λ hE=>h.s (by omega)⟩
theorem Go.sp {D:Nat}{x:Bytes}:Go D [] (32::x) x :=
 ⟨λ k n _=>intF_sp k (n+1) x,λ d=>by rw [closF_cons,if_neg (by decide),if_neg (by decide),if_neg (by decide)],λ _ c ts _ h=>⟨[],rfl,by rw [scanF_sp]; exact h⟩⟩
theorem skip_one (c:Bool){b:UInt8}{r:Bytes}(h1:blankB b=false)(h2:b.toNat≠35):skipP c (b::r)=b::r:=by
 unfold skipP
 rw [List.dropWhile_cons,if_neg (by simp [h1])]
 simp [h2]
def Wrd (D:Nat)(z:Tok)(x y:Bytes):Prop:=∃ b r,x=b::r∧blankB b=false∧b.toNat≠35∧beginsP x=true∧∀ k,k+D≤32→tokW (srcF k) x=.inr (z.1,z.2,y)
theorem Wrd.int {D:Nat}{z:Tok}{x y:Bytes}(h:Wrd D z x y){k n:Nat}(hk:k+D≤32):intF k n x=if z.1=4∧z.2=[125] then (if n=1 then .inr y else intF k (n - 1) y) else if z.1=4∧z.2=[123] then intF k (n+1) y else intF k n y:=by
 obtain ⟨b,r,rfl,h1,h2,_,h4⟩:=h
 rw [intF_eq,skip_one _ h1 h2,intR_cons,h4 k hk,intT_inr]
theorem Wrd.scan {D:Nat}{z:Tok}{x y:Bytes}(h:Wrd D z x y)(hD:D≤32){c:Nat}{ts:List Tk}(hc:c+1≤16384)(hs:scanF (c+1) y=.inr ts):∃ n,scanF c x=.inr ((z.1,z.2,n)::ts):=by
 obtain ⟨b,r,rfl,h1,h2,h3,h4⟩:=h
 refine ⟨(b::r).length,?_⟩
 rw [scanF_eq,skip_one _ h1 h2,scanR_cons,if_neg (by rw [h3]; decide),if_neg (by omega),h4 0 (by omega),scanT_inr,hs]
theorem Wrd.go {D:Nat}{z:Tok}{x y:Bytes}(h:Wrd D z x y)(h1:¬ (z.1=4∧z.2=[125]))(h2:¬ (z.1=4∧z.2=[123]))(hc:∀ d,closF (d+1) x=closF (d+1) y):Go D [z] x y where
 i k n hk:=by rw [h.int hk,if_neg h1,if_neg h2]
 c:=hc
 s hD c ts hl hs:=by
  obtain ⟨n,hn⟩:=h.scan hD (c:=c) hl hs
  exact ⟨[(z.1,z.2,n)],rfl,hn⟩
def nbr (z:UInt8):Bool:=decide (z.toNat≠123)&&decide (z.toNat≠125)&&decide (z.toNat≠34)
theorem clos_plain (d:Nat)(y:Bytes):∀ t:Bytes,(∀ z∈t,nbr z=true)→closF d (t++y)=closF d y
 | [],_=>rfl
 | b::t,h=>by
  have hb:=h b List.mem_cons_self
  simp only [nbr,Bool.and_eq_true,decide_eq_true_eq] at hb
  rw [List.cons_append,closF_cons,if_neg hb.1.1,if_neg hb.1.2,if_neg hb.2]
  exact clos_plain d y t (λ z hz=>h z (List.mem_cons_of_mem _ hz))
theorem nbr_let {b:UInt8}(h:eR b=true):nbr b=true:=by
 simp only [eR,nbr,Bool.or_eq_true,Bool.and_eq_true,decide_eq_true_eq] at *; omega
theorem nbr_dig {b:UInt8}(h:dZ b=true):nbr b=true:=by
 simp only [dZ,nbr,Bool.and_eq_true,decide_eq_true_eq] at *; omega
theorem nbr_id {b:UInt8}(h:idB b=true):nbr b=true:=by
 unfold idB at h
 rw [Bool.or_eq_true] at h
 exact h.elim nbr_let nbr_dig
theorem run_app {p:UInt8→Bool}:∀ {t x:Bytes},(∀ z∈t,p z=true)→(∀ z∈x.head?,p z=false)→(t++x).takeWhile p=t∧(t++x).dropWhile p=x
 | [],x,_,hx=>by
  cases x with
  | nil=>exact ⟨rfl,rfl⟩
  | cons b r=>have:=hx b rfl; simp [this]
 | b::t,x,ht,hx=>by
  have hb:=ht b List.mem_cons_self
  have ih:=run_app (λ z hz=>ht z (List.mem_cons_of_mem _ hz)) hx
  simp [hb,ih.1,ih.2]
def NoId (y:Bytes):Prop:=∀ z∈y.head?,idB z=false
theorem let_facts {b:UInt8}(h:eR b=true):blankB b=false∧b.toNat≠35∧dZ b=false:=by
 simp only [eR,dZ,blankB,Bool.or_eq_true,Bool.and_eq_true,Bool.or_eq_false_iff,Bool.and_eq_false_iff,decide_eq_true_eq,decide_eq_false_iff_not] at *; omega
theorem dig_facts {b:UInt8}(h:dZ b=true):blankB b=false∧b.toNat≠35∧eR b=false∧b.toNat≠10∧b.toNat≠34:=by
 simp only [eR,dZ,blankB,Bool.and_eq_true,Bool.or_eq_false_iff,Bool.and_eq_false_iff,decide_eq_true_eq,decide_eq_false_iff_not] at *; omega
theorem go_name {D:Nat}{t y:Bytes}(h:aV t=true)(hy:NoId y):Go D [(1,t)] (t++y) y:=by
 cases t with
 | nil=>cases h
 | cons b r =>
  simp only [aV,Bool.and_eq_true,decide_eq_true_eq,List.all_eq_true] at h
  obtain ⟨⟨h1,h2⟩,h3⟩:=h
  obtain ⟨f1,f2,f3⟩:=let_facts h2
  have hall:∀ z∈b::r,idB z=true:=λ z hz=>by
   rcases List.mem_cons.1 hz with rfl | hz
   ·unfold idB; rw [h2]; rfl
   ·exact h3 z hz
  have hr:=run_app hall hy
  refine Wrd.go ⟨b,r++y,rfl,f1,f2,by rw [List.cons_append,beginsP_cons,h2]; rfl,λ k _=>?_⟩ (λ q=>by cases q.1) (λ q=>by cases q.1) (λ d=>clos_plain _ _ _ (λ z hz=>nbr_id (hall z hz)))
  rw [List.cons_append,tokW_cons,if_pos h2]
  rw [List.cons_append] at hr
  rw [hr.1,hr.2,if_neg (by omega)]
theorem go_num {D:Nat}{t y:Bytes}(h0:t≠[])(h:∀ z∈t,dZ z=true)(hy:NoId y):Go D [(2,t)] (t++y) y:=by
 cases t with
 | nil=>exact absurd rfl h0
 | cons b r =>
  have hb:=h b List.mem_cons_self
  obtain ⟨f1,f2,f3,f4,f5⟩:=dig_facts hb
  have hr:=run_app h (λ z hz=>by have:=hy z hz; unfold idB at this; rw [Bool.or_eq_false_iff] at this; exact this.2)
  refine Wrd.go ⟨b,r++y,rfl,f1,f2,by rw [List.cons_append,beginsP_cons,hb]; simp,λ k _=>?_⟩ (λ q=>by cases q.1) (λ q=>by cases q.1) (λ d=>clos_plain _ _ _ (λ z hz=>nbr_dig (h z hz)))
  rw [List.cons_append,tokW_cons,if_neg (by rw [f3]; decide),if_pos hb]
  rw [List.cons_append] at hr
  rw [hr.1,hr.2]
theorem wrd_sign {D:Nat}{b:UInt8}{w y:Bytes}(hb:blankB b=false∧b.toNat≠35∧eR b=false∧dZ b=false∧b.toNat≠10∧b.toNat≠34)(hs:signP (b::w++y)=b::w):Wrd D (4,b::w) (b::w++y) y:=by
 obtain ⟨f1,f2,f3,f4,f5,f6⟩:=hb
 refine ⟨b,w++y,rfl,f1,f2,?_,λ k _=>?_⟩
 ·have e:signP (b::(w++y))=b::w:=hs
  rw [List.cons_append,beginsP_cons,e]; simp
 ·have e:signP (b::(w++y))=b::w:=hs
  rw [List.cons_append,tokW_cons,if_neg (by rw [f3]; decide),if_neg (by rw [f4]; decide),if_neg f5,if_neg f6,if_neg (by rw [e]; simp),e]
  refine congrArg Sum.inr (Prod.ext rfl (Prod.ext rfl ?_))
  show (b::w++y).drop (b::w).length=y
  rw [List.drop_left]
theorem go_sign {D:Nat}{b:UInt8}{w y:Bytes}(hb:blankB b=false∧b.toNat≠35∧eR b=false∧dZ b=false∧b.toNat≠10∧b.toNat≠34)(hs:signP (b::w++y)=b::w)(hn:∀ z∈b::w,nbr z=true):Go D [(4,b::w)] (b::w++y) y:=by
 refine (wrd_sign hb hs).go (λ q=>?_) (λ q=>?_) (λ d=>clos_plain _ _ _ hn)
 ·have:=hn 125 (by rw [show b::w=[125] from q.2]; exact List.mem_singleton.2 rfl); revert this; decide
 ·have:=hn 123 (by rw [show b::w=[123] from q.2]; exact List.mem_singleton.2 rfl); revert this; decide
def one1 (b:UInt8):Bool:=decide (b∈([40,41,91,93,123,125,44,46,58,63,45]:Bytes))
theorem sign_one {b:UInt8}(h:one1 b=true)(y:Bytes):signP (b::y)=[b]:=by
 simp only [one1,decide_eq_true_eq,List.mem_cons,List.not_mem_nil,or_false] at h
 rcases h with rfl | rfl | rfl | rfl | rfl | rfl | rfl | rfl | rfl | rfl | rfl <;> (unfold signP twos; simp [hasPrefix,List.isPrefixOf,onSP,onesS]; decide)
theorem go_one {D:Nat}{b:UInt8}(h:one1 b=true)(hb:b≠123∧b≠125)(y:Bytes):Go D [(4,[b])] (b::y) y:=by
 have hs:=sign_one h y
 simp only [one1,decide_eq_true_eq,List.mem_cons,List.not_mem_nil,or_false] at h
 refine go_sign (w:=[]) ?_ hs ?_
 ·rcases h with rfl | rfl | rfl | rfl | rfl | rfl | rfl | rfl | rfl | rfl | rfl <;> decide
 ·intro z hz
  obtain rfl:=List.mem_singleton.1 hz
  rcases h with rfl | rfl | rfl | rfl | rfl | rfl | rfl | rfl | rfl | rfl | rfl <;> first | decide | exact absurd rfl hb.1 | exact absurd rfl hb.2
theorem go_brace {D:Nat}{l:List Tok}{x y:Bytes}(h:Go D l x (125::y)):Go D ((4,[123])::(l++[(4,[125])])) (123::x) y:=by
 have w1:Wrd D (4,[123]) (123::x) x:=wrd_sign (w:=[]) (by decide) (sign_one (by decide) x)
 have w2:Wrd D (4,[125]) (125::y) y:=wrd_sign (w:=[]) (by decide) (sign_one (by decide) y)
 refine ⟨λ k n hk=>?_,λ d=>?_,λ hD c ts hc hs=>?_⟩
 ·rw [w1.int hk,if_neg (by decide),if_pos (by decide),h.i k (n+1) hk,w2.int hk,if_pos (by decide),if_neg (by omega)]; rfl
 ·rw [closF_cons,if_pos (by decide),h.c (d+1),closF_cons,if_neg (by decide),if_pos (by decide),if_neg (by omega)]; rfl
 ·simp only [List.length_cons,List.length_append,List.length_nil] at hc hs
  obtain ⟨n2,h2⟩:=w2.scan hD (c:=c+1+l.length) (by omega) (by rw [← hs]; congr 1; omega)
  obtain ⟨ts',e,h1⟩:=h.s hD (c+1) _ (by omega) h2
  obtain ⟨n1,h0⟩:=w1.scan hD (c:=c) (by omega) h1
  exact ⟨((4,[123],n1):Tk)::(ts'++[(4,[125],n2)]),by simp [ktk,e],by rw [h0]; simp⟩
def StrOk (D:Nat)(s:Bytes):Prop:=(∀ k y,k+D≤32→srcF k (s++34::y)=.inr y)∧∀ y,quotF (s++34::y)=some (some y)
theorem go_str {D:Nat}{s y:Bytes}(h:StrOk D s):Go D [(3,s)] (34::(s++34::y)) y:=by
 refine Wrd.go ⟨34,s++34::y,rfl,by decide,by decide,by rw [beginsP_cons]; simp,λ k hk=>?_⟩ (λ q=>by cases q.1) (λ q=>by cases q.1) (λ d=>?_)
 ·rw [tokW_cons,if_neg (by decide),if_neg (by decide),if_neg (by decide),if_pos (by decide),h.1 k y hk]
  refine congrArg Sum.inr (Prod.ext rfl (Prod.ext ?_ rfl))
  show (s++34::y).take _=s
  rw [show (s++34::y).length - y.length - 1=s.length by simp only [List.length_append,List.length_cons]; omega,List.take_left]
 ·rw [closF_cons,if_neg (by decide),if_neg (by decide),if_pos (by decide),h.2 y]
theorem scan_whole {D:Nat}{l:List Tok}{t:Bytes}(hD:D≤32)(hl:l.length < 16384)(ht:t.length≤1152921504606846976)(h:Go D l t []):∃ L e:List TToken,(scanP t).1=L++e∧(scanP t).2.fKind=0∧L.map (λ t=>(t.fKind,t.fText))=l∧e.map (λ t=>(t.fKind,t.fText))=[(6,[])]:=by
 have he:scanF (0+l.length) []=.inr [(6,[],0)]:=by
  rw [scanF_eq,show skipP true []=[] from rfl,scanR_nil,if_neg (by omega)]
 obtain ⟨ts',e,hs⟩:=h.s hD 0 _ (by omega) he
 refine ⟨ts'.map (tkS t),[tkS t (6,[],0)],?_,?_,?_,rfl⟩
 ·unfold scanP
  rw [if_neg (by omega),show scanS (t.length+1) 0 t=scanF 0 t from rfl,hs]
  show []++(ts'++[(6,[],0)]).map (tkS t)=_
  simp
 ·unfold scanP
  rw [if_neg (by omega),show scanS (t.length+1) 0 t=scanF 0 t from rfl,hs]
  rfl
 ·rw [List.map_map,← e]; rfl
def escD:Bytes→Bytes
 | []=>[]
 | b::r=>(if b=36∧r.head? = some 123 then [36,b] else [b])++escD r
def quo (s:Bytes):Bytes:=(escD s).flatMap dY
inductive UV:Bytes→Prop where
 | nil:UV []
 | lo {b:UInt8} {r:Bytes} (hb:b.toNat < 128) (h:UV r):UV (b::r)
 | hi {u r:Bytes} {c:Nat} (hu:u≠[]) (ha:∀ y∈u,128≤y.toNat) (hd:∀ t,decodeL (u++t)=(c,u.length)) (hc:128≤c) (hn:¬ (c=65533∧u.length=1)) (h:UV r):UV (u++r)
theorem valid_uv:∀ (n:Nat) (x:Bytes),x.length≤n→validD x=true→UV x
 | _,[],_,_=>.nil
 | 0,_::_,h,_=>absurd h (by simp)
 | n+1,b::r,hx,hv=>by
  by_cases hb:b.toNat < 128
  ·exact .lo hb (valid_uv n r (by simpa using hx) (by rw [← validD_cons b r hb]; exact hv))
  ·have hne:b::r≠[]:=by simp
   obtain ⟨hnb,hvr⟩:=(lC _ hne).1 hv
   have hdf:=iI _ hne
   have hgood:=hdf.2.2 hnb
   have hN:=decN (b::r).length ((b::r).getD 0 0).toNat ((b::r).getD 1 0).toNat ((b::r).getD 2 0).toNat ((b::r).getD 3 0).toNat (by simp) (UInt8.toNat_lt _)
   rw [← decodeL_N] at hN
   generalize hD:decodeL (b::r)=D at hnb hvr hdf hgood hN
   obtain ⟨c,w⟩:=D
   simp only at hnb hvr hdf hgood hN
   have hc:128≤c:=by
    rcases Nat.lt_or_ge c 128 with q | q
    ·have:=(hN.2.2.2.1 q).2
     have hb0:((b::r).getD 0 0).toNat=b.toNat:=rfl
     omega
    ·exact q
   have hhigh:=hN.2.2.2.2.1 hc
   have hp:∀ y∈(b::r).take w,128≤y.toNat:=by
    intro y hy
    obtain ⟨j,hj,rfl⟩:=List.getElem_of_mem hy
    rw [List.length_take] at hj
    have hj2:j < (b::r).length:=by omega
    have hg:((b::r).getD j 0)=((b::r).take w)[j]'(by rw [List.length_take]; exact hj):=by
     rw [List.getElem_take,List.getD_eq_getElem?_getD,List.getElem?_eq_getElem hj2]; rfl
    rw [← hg]
    obtain rfl | rfl | rfl | rfl:j=0∨j=1∨j=2∨j=3:=by omega
    ·exact hhigh.1
    ·exact hhigh.2.1 (by omega)
    ·exact hhigh.2.2.1 (by omega)
    ·exact hhigh.2.2.2 (by omega)
   have hl:((b::r).take w).length=w:=by rw [List.length_take]; omega
   have h:=UV.hi (u:=(b::r).take w) (r:=(b::r).drop w) (c:=c) (λ e=>by rw [e] at hl; simp at hl; omega) hp
    (λ t=>by have:=uj (c:Int) hgood.1 t; rw [hgood.2] at this; simpa using this) hc (by rw [hl]; exact hnb) (valid_uv n _ (by rw [List.length_drop]; simp only [List.length_cons] at hx ⊢; omega) hvr)
   rwa [List.take_append_drop] at h
structure Pc (v x y:Bytes):Prop where
 s:∀ k,srcF k x=srcF k y
 q:quotF x=quotF y
 l:y.length≤x.length
 r:∃ j,∀ f frm pos text parts opn,text.length+v.length≤4096→readS (f+j) frm pos text parts opn x=readS f frm (pos+((x.length - y.length:Nat):Int)) (text++v) parts opn y
theorem Pc.refl (x:Bytes):Pc [] x x:=⟨λ _=>rfl,rfl,Nat.le_refl _,0,λ f frm pos text parts opn _=>by rw [Nat.sub_self,List.append_nil]; simp⟩
theorem Pc.trans {v w x y z:Bytes}(h:Pc v x y)(g:Pc w y z):Pc (v++w) x z where
 s k:=(h.s k).trans (g.s k)
 q:=h.q.trans g.q
 l:=Nat.le_trans g.l h.l
 r:=by
  obtain ⟨j1,h1⟩:=h.r
  obtain ⟨j2,h2⟩:=g.r
  refine ⟨j2+j1,λ f frm pos text parts opn hl=>?_⟩
  rw [List.length_append] at hl
  rw [← Nat.add_assoc,h1 _ _ _ _ _ _ (by omega),h2 _ _ _ _ _ _ (by rw [List.length_append]; omega),List.append_assoc]
  have a:=h.l
  have b:=g.l
  congr 1; omega
theorem rd_cons (f:Nat)(frm pos:Int)(text:Bytes)(parts:List aa)(opn:Bool)(c:UInt8)(r:Bytes):readS (f+1) frm pos text parts opn (c::r) =
  if hasPrefix (c::r) [36,36,123]=true then (if 4096 < text.length+2 then some (.inl (3,frm)) else readS f frm (pos+3) (text++[36,123]) parts opn ((c::r).drop 3))
   else if hasPrefix (c::r) [36,123]=true then (match closS f 1 ((c::r).drop 2) with
    | none=>none
    | some none=>some (.inl (40,pos))
    | some (some r')=>match wholeS f (((c::r).drop 2).take (((c::r).drop 2).length - r'.length - 1)) (pos+2) with
     | none=>none
     | some (.inl e)=>some (.inl e)
     | some (.inr e)=>readS f (pos+((c::r).length - r'.length:Nat)) (pos+((c::r).length - r'.length:Nat)) [] (flS frm pos text parts++[e]) true r')
   else match itemS (c::r) with
    | .inl k=>some (.inl (k,pos))
    | .inr (t,n)=>if 4096 < text.length+t.length then some (.inl (3,frm)) else readS f frm (pos+(n:Int)) (text++t) parts opn ((c::r).drop n):=by rw [readS]<;>rfl
theorem item_cons (b:UInt8)(r:Bytes):itemS (b::r)=if b.toNat=92 then (if (kg r).2.2=0 then .inr (encodeRune (kg r).1,(kg r).2.1.toNat+1) else .inl (kg r).2.2)
  else if km (decodeL (b::r))∨b.toNat=34 then .inl 2 else .inr ((b::r).take (decodeL (b::r)).2,(decodeL (b::r)).2):=rfl
theorem pc_dol (y:Bytes):Pc [36,123] (36::36::123::y) y where
 s k:=by rw [srcF_cons,if_neg (by decide),if_pos (by simp [hasPrefix,List.isPrefixOf])]; rfl
 q:=by rw [quotF_cons,if_neg (by decide),if_neg (by decide),if_pos (by simp [hasPrefix,List.isPrefixOf])]; rfl
 l:=by simp only [List.length_cons]; omega
 r:=⟨1,λ f frm pos text parts opn hl=>by
  rw [rd_cons,if_pos (by simp [hasPrefix,List.isPrefixOf]),if_neg (by simp only [List.length_cons,List.length_nil] at hl; omega)]
  have:(36::36::123::y).length - y.length=3:=by simp only [List.length_cons]; omega
  rw [this]; rfl⟩
theorem pc_chr {b:UInt8}{y:Bytes}(hb:b.toNat < 128)(h34:b.toNat≠34)(h92:b.toNat≠92)(hc:¬ (b.toNat < 32∨b.toNat=127))(p1:hasPrefix (b::y) [36,36,123]=false)(p2:hasPrefix (b::y) [36,123]=false):Pc [b] (b::y) y:=by
 have hd:=decodeL_ascii b y hb
 have hbad:¬ km (decodeL (b::y)):=by rw [hd]; unfold km; simp only; omega
 refine ⟨λ k=>?_,?_,by simp,1,λ f frm pos text parts opn hl=>?_⟩
 ·rw [srcF_cons,if_neg h34,if_neg (by rw [p1]; decide),if_neg (by rw [p2]; decide),if_neg h92]
  simp only [hd] at hbad ⊢
  rw [if_neg hbad]; rfl
 ·rw [quotF_cons,if_neg h34,if_neg h92,if_neg (by rw [p1]; decide),if_neg (by rw [p2]; decide)]
 ·have hi:itemS (b::y)=.inr ([b],1):=by
   rw [item_cons,if_neg h92,if_neg (by rintro (q | q); exact hbad q; exact h34 q),hd]; rfl
  have e1:(b::y).length - y.length=1:=by simp only [List.length_cons]; omega
  rw [rd_cons,if_neg (by rw [p1]; decide),if_neg (by rw [p2]; decide),hi]
  simp only
  rw [if_neg (by simp only [List.length_cons,List.length_nil] at hl ⊢; omega),e1]; rfl
def plainB (z:UInt8):Bool:=decide (32≤z.toNat)&&decide (z.toNat < 127)&&decide (z.toNat≠34)&&decide (z.toNat≠92)&&decide (z.toNat≠36)
theorem pfx36 {b:UInt8}(h:b.toNat≠36)(y p:Bytes):hasPrefix (b::y) (36::p)=false:=by
 have:¬ (36:UInt8)=b:=λ e=>h (by rw [← e]; rfl)
 simp [hasPrefix,List.isPrefixOf,this]
theorem src_plain (y:Bytes):∀ t:Bytes,(∀ z∈t,plainB z=true)→(∀ k,srcF k (t++y)=srcF k y)∧quotF (t++y)=quotF y
 | [],_=>⟨λ _=>rfl,rfl⟩
 | b::t,h=>by
  have hb:=h b List.mem_cons_self
  simp only [plainB,Bool.and_eq_true,decide_eq_true_eq] at hb
  have p:=pc_chr (b:=b) (y:=t++y) (by omega) hb.1.1.2 hb.1.2 (by omega) (pfx36 hb.2 _ _) (pfx36 hb.2 _ _)
  have ih:=src_plain y t (λ z hz=>h z (List.mem_cons_of_mem _ hz))
  exact ⟨λ k=>(p.s k).trans (ih.1 k),p.q.trans ih.2⟩
theorem hexText_plain:∀ u:Fin 256,∀ z∈bS u.val,plainB z=true:=by decide +kernel
theorem pc_esc {b c:UInt8}{rest y:Bytes}(hb:b.toNat < 128)(he:dY b=92::c::rest):Pc [b] (92::c::(rest++y)) y:=by
 have hr:=sX b hb c rest he y
 have hcr:(32≤c.toNat∧c.toNat < 127)∧∀ z∈rest,plainB z=true:=by
  by_cases h10:b.toNat=10
  ·rw [qk h10] at he; injection he with _ he; injection he with h1 h2; subst h1; subst h2; exact ⟨by decide,by simp⟩
  by_cases h13:b.toNat=13
  ·rw [qq h13] at he; injection he with _ he; injection he with h1 h2; subst h1; subst h2; exact ⟨by decide,by simp⟩
  by_cases h9:b.toNat=9
  ·rw [qF h9] at he; injection he with _ he; injection he with h1 h2; subst h1; subst h2; exact ⟨by decide,by simp⟩
  by_cases hq:b.toNat=34∨b.toNat=92
  ·rw [qG hq] at he; injection he with _ he; injection he with h1 h2; subst h1; subst h2; exact ⟨by omega,by simp⟩
  by_cases hu:b.toNat < 32∨b.toNat=127
  ·rw [pZ h10 h13 h9 hu] at he
   have he:(92:UInt8)::117::(123::(bS b.toNat++[125]))=92::c::rest:=he
   injection he with _ he; injection he with h1 h2; subst h1; subst h2
   refine ⟨by decide,λ z hz=>?_⟩
   rcases List.mem_cons.1 hz with rfl | hz
   ·decide
   rcases List.mem_append.1 hz with hz | hz
   ·exact hexText_plain ⟨b.toNat,by omega⟩ z hz
   ·obtain rfl:=List.mem_singleton.1 hz; decide
  ·rw [mK (by omega) (by omega) hu] at he; cases he
 have hp:=src_plain y rest hcr.2
 have hd:=decodeL_ascii c (rest++y) (by omega)
 refine ⟨λ k=>?_,?_,by simp only [List.length_cons,List.length_append]; omega,1,λ f frm pos text parts opn hl=>?_⟩
 ·rw [srcF_cons,if_neg (by decide),if_neg (by rw [pfx36 (by decide)]; decide),if_neg (by rw [pfx36 (by decide)]; decide),if_pos (by decide)]
  simp only [hd]
  rw [if_neg (by unfold km; simp only; omega)]
  exact hp.1 k
 ·rw [quotF_cons,if_neg (by decide),if_pos (by decide)]
  exact hp.2
 ·have hi:itemS (92::c::(rest++y))=.inr ([b],rest.length+1+1):=by
   have hr:kg (c::(rest++y))=((b.toNat:Int),((rest.length+1:Nat):Int),0):=hr
   rw [item_cons,if_pos (by decide),hr,if_pos rfl,qK b hb]; rfl
  have e1:(92::c::(rest++y)).length - y.length=rest.length+1+1:=by simp only [List.length_cons,List.length_append]; omega
  rw [rd_cons,if_neg (by rw [pfx36 (by decide)]; decide),if_neg (by rw [pfx36 (by decide)]; decide),hi]
  simp only
  rw [if_neg (by simp only [List.length_cons,List.length_nil] at hl ⊢; omega),e1]
  have:(92::c::(rest++y)).drop (rest.length+1+1)=y:=by
   rw [List.drop_succ_cons,List.drop_succ_cons,List.drop_left]
  rw [this]
theorem quot_high (y:Bytes):∀ t:Bytes,(∀ z∈t,128≤z.toNat)→quotF (t++y)=quotF y
 | [],_=>rfl
 | b::t,h=>by
  have hb:=h b List.mem_cons_self
  rw [List.cons_append,quotF_cons,if_neg (by omega),if_neg (by omega),if_neg (by rw [pfx36 (by omega)]; decide),if_neg (by rw [pfx36 (by omega)]; decide)]
  exact quot_high y t (λ z hz=>h z (List.mem_cons_of_mem _ hz))
theorem pc_high {u y:Bytes}{c:Nat}(hu:u≠[])(ha:∀ y∈u,128≤y.toNat)(hd:∀ t,decodeL (u++t)=(c,u.length))(hc:128≤c)(hn:¬ (c=65533∧u.length=1)):Pc u (u++y) y:=by
 have hq:=quot_high y u ha
 have hd:=hd y
 cases u with
 | nil=>exact absurd rfl hu
 | cons b p =>
  have hb:=ha b List.mem_cons_self
  have hbad:¬ km (decodeL (b::(p++y))):=by
   have hd:decodeL (b::(p++y))=(c,(b::p).length):=hd
   rw [hd]; unfold km; simp only; omega
  have hd:decodeL (b::(p++y))=(c,(b::p).length):=hd
  have hdr:(b::(p++y)).drop (b::p).length=y:=List.drop_left (l₁:=b::p)
  refine ⟨λ k=>?_,hq,by simp only [List.length_append]; omega,1,λ f frm pos text parts opn hl=>?_⟩
  ·rw [List.cons_append,srcF_cons,if_neg (by omega),if_neg (by rw [pfx36 (by omega)]; decide),if_neg (by rw [pfx36 (by omega)]; decide),if_neg (by omega)]
   simp only
   rw [if_neg hbad,hd]
   show srcF k ((b::(p++y)).drop (b::p).length)=_
   rw [hdr]
  ·have hi:itemS (b::(p++y))=.inr (b::p,(b::p).length):=by
    rw [item_cons,if_neg (by omega),if_neg (by rintro (q | q); exact hbad q; omega),hd]
    show Sum.inr ((b::p++y).take (b::p).length,_)=_
    rw [List.take_left]
   have e1:(b::p++y).length - y.length=(b::p).length:=by simp only [List.length_append]; omega
   rw [e1,List.cons_append,rd_cons,if_neg (by rw [pfx36 (by omega)]; decide),if_neg (by rw [pfx36 (by omega)]; decide),hi]
   simp only
   rw [if_neg (by omega)]
   show readS f frm _ _ parts opn ((b::(p++y)).drop (b::p).length)=_
   rw [hdr]
theorem escD_high:∀ u r:Bytes,(∀ y∈u,128≤y.toNat)→escD (u++r)=u++escD r
 | [],_,_=>rfl
 | b::u,r,h=>by
  have hb:=h b List.mem_cons_self
  rw [List.cons_append,escD,if_neg (by rintro ⟨q,_⟩; rw [q] at hb; revert hb; decide),escD_high u r (λ y hy=>h y (List.mem_cons_of_mem _ hy))]; rfl
theorem quo_cons (b:UInt8)(r:Bytes):quo (b::r)=(if b=36∧r.head? = some 123 then [36,36] else dY b)++quo r:=by
 unfold quo
 rw [escD,List.flatMap_append]
 split
 ·rename_i h; rw [h.1]; rfl
 ·simp
theorem quo_high (u r:Bytes)(h:∀ y∈u,128≤y.toNat):quo (u++r)=u++quo r:=by
 unfold quo
 rw [escD_high u r h,List.flatMap_append,mJ u h]
theorem esc_head (b:UInt8):(dY b=[b]∧b.toNat≠34∧b.toNat≠92∧¬ (b.toNat < 32∨b.toNat=127))∨∃ c rest,dY b=92::c::rest:=by
 by_cases hp:b.toNat≠34∧b.toNat≠92∧¬ (b.toNat < 32∨b.toNat=127)
 ·exact .inl ⟨mK hp.1 hp.2.1 hp.2.2,hp⟩
 ·refine .inr ?_
  by_cases h10:b.toNat=10
  ·exact ⟨_,_,qk h10⟩
  by_cases h13:b.toNat=13
  ·exact ⟨_,_,qq h13⟩
  by_cases h9:b.toNat=9
  ·exact ⟨_,_,qF h9⟩
  by_cases hq:b.toNat=34∨b.toNat=92
  ·exact ⟨_,_,qG hq⟩
  ·exact ⟨_,_,pZ h10 h13 h9 (by omega)⟩
theorem quo_head:∀ (v y:Bytes),(quo v++y).head? = some 123→v.head? = some 123∨(v=[]∧y.head? = some 123)
 | [],y,h=>.inr ⟨rfl,h⟩
 | b::r,y,h=>by
  refine .inl ?_
  rw [quo_cons] at h
  split at h
  ·cases h
  ·rcases esc_head b with ⟨e,_⟩ | ⟨c,rest,e⟩
   ·rw [e] at h; exact h
   ·rw [e] at h; cases h
theorem pfx2 (b:UInt8)(y:Bytes):hasPrefix (b::y) [36,123]=true↔b=36∧y.head? = some 123:=by
 cases y with
 | nil=>simp [hasPrefix,List.isPrefixOf]
 | cons c t =>
  simp only [hasPrefix,List.isPrefixOf,Bool.and_true,Bool.and_eq_true,beq_iff_eq,List.head?_cons,Option.some.injEq]
  exact ⟨λ h=>⟨h.1.symm,h.2.symm⟩,λ h=>⟨h.1.symm,h.2.symm⟩⟩
theorem pfx3 (b:UInt8)(y:Bytes):hasPrefix (b::y) [36,36,123]=true↔b=36∧hasPrefix y [36,123]=true:=by
 show (36 == b&&hasPrefix y [36,123])=true↔_
 rw [Bool.and_eq_true,beq_iff_eq]
 exact ⟨λ h=>⟨h.1.symm,h.2⟩,λ h=>⟨h.1.symm,h.2⟩⟩
theorem quo_pfx (v y:Bytes)(hy:y.head?≠some 123)(h:hasPrefix (quo v++y) [36,123]=true):v=[]∧hasPrefix y [36,123]=true:=by
 cases v with
 | nil=>exact ⟨rfl,h⟩
 | cons b r =>
  exfalso
  rw [quo_cons] at h
  split at h
  ·cases h
  ·rename_i hn
   rcases esc_head b with ⟨e,_⟩ | ⟨c,rest,e⟩
   ·rw [e] at h
    obtain ⟨rfl,h2⟩:=(pfx2 b (quo r++y)).1 h
    rcases quo_head r y h2 with q | ⟨_,q⟩
    ·exact hn ⟨rfl,q⟩
    ·exact hy q
   ·rw [e] at h
    have:=((pfx2 92 ((c::rest++quo r)++y)).1 h).1
    revert this; decide
theorem quo_pc:∀ (n:Nat) (v y:Bytes),v.length≤n→UV v→y.head?≠some 123→(v.getLast? = some 36→hasPrefix y [36,123]=false)→Pc v (quo v++y) y
 | n,v,y,hn,hv,hy,hl=>by
  cases hv with
  | nil=>exact Pc.refl y
  | @lo b r hb hr =>
   cases n with
   | zero=>simp at hn
   | succ n =>
    have hn:r.length≤n:=by simpa using hn
    have hlr:r≠[]→(r.getLast? = some 36→hasPrefix y [36,123]=false):=λ hne h=>hl (by
     cases r with
     | nil=>exact absurd rfl hne
     | cons c t=>rw [List.getLast?_cons_cons]; exact h)
    have ihr:Pc r (quo r++y) y:=by
     by_cases hne:r=[]
     ·subst hne; exact Pc.refl y
     ·exact quo_pc n r y hn hr hy (hlr hne)
    rw [quo_cons]
    by_cases hq:b=36∧r.head? = some 123
    ·rw [if_pos hq]
     obtain ⟨rfl,h2⟩:=hq
     obtain ⟨t,rfl⟩:∃ t,r=123::t:=by
      cases r with
      | nil=>cases h2
      | cons c t=>simp at h2; subst h2; exact ⟨t,rfl⟩
     have ht:UV t:=by
      generalize hw:(123::t:Bytes)=w at hr
      cases hr with
      | nil=>cases hw
      | lo _ h=>injection hw with _ e; rw [e]; exact h
      | @hi u r c hu ha _ _ _ _ =>
       cases u with
       | nil=>exact absurd rfl hu
       | cons z p=>have:=ha z List.mem_cons_self; injection hw with e _; rw [← e] at this; exact absurd this (by decide)
     have h3:quo (123::t)=123::quo t:=by
      rw [quo_cons,if_neg (by rintro ⟨q,_⟩; revert q; decide),mK (by decide) (by decide) (by decide)]; rfl
     rw [h3]
     have iht:Pc t (quo t++y) y:=by
      by_cases hne:t=[]
      ·subst hne; exact Pc.refl y
      ·refine quo_pc n t y (by simp only [List.length_cons] at hn; omega) ht hy (λ h=>hlr (by simp) ?_)
       cases t with
       | nil=>exact absurd rfl hne
       | cons c t=>rw [List.getLast?_cons_cons]; exact h
     exact (pc_dol (quo t++y)).trans iht
    ·rw [if_neg hq]
     rcases esc_head b with ⟨e,h34,h92,hc⟩ | ⟨c,rest,e⟩
     ·rw [e]
      refine Pc.trans (v:=[b]) (pc_chr hb h34 h92 hc (Bool.eq_false_iff.2 λ h=>?_) (Bool.eq_false_iff.2 λ h=>?_)) ihr
      ·obtain ⟨rfl,h2⟩:=(pfx3 b _).1 h
       obtain ⟨rfl,h3⟩:=quo_pfx r y hy h2
       have:=hl rfl
       rw [this] at h3; cases h3
      ·obtain ⟨rfl,h2⟩:=(pfx2 b _).1 h
       rcases quo_head r y h2 with q | ⟨_,q⟩
       ·exact hq ⟨rfl,q⟩
       ·exact hy q
     ·rw [e]
      have:=Pc.trans (pc_esc (y:=quo r++y) hb e) ihr
      simpa using this
  | @hi u r c hu ha hd hc hnn hr =>
   rw [quo_high u r ha,List.append_assoc]
   cases n with
   | zero=>simp only [List.length_append] at hn; exact absurd (List.length_eq_zero_iff.1 (by omega)) hu
   | succ n =>
    have hul:=List.length_pos_iff.2 hu
    rw [List.length_append] at hn
    refine (pc_high hu ha hd hc hnn).trans ?_
    by_cases hne:r=[]
    ·subst hne; exact Pc.refl y
    ·exact quo_pc n r y (by omega) hr hy (λ h=>hl (by rw [List.getLast?_append,h]; rfl))
inductive F2 {α β:Type}(P:α→β→Prop):List α→List β→Prop where
 | nil:F2 P [] []
 | cons {a:α} {b:β} {l:List α} {m:List β} (h:P a b) (t:F2 P l m):F2 P (a::l) (b::m)
theorem F2.app {α β:Type}{P:α→β→Prop}{a c:List α}{b d:List β}(h:F2 P a b)(g:F2 P c d):F2 P (a++c) (b++d):=by
 induction h with
 | nil=>exact g
 | cons p _ ih=>exact .cons p ih
theorem F2.len {α β:Type}{P:α→β→Prop}{a:List α}{b:List β}(h:F2 P a b):b.length=a.length:=by
 induction h with
 | nil=>rfl
 | cons p _ ih=>rw [List.length_cons,List.length_cons,ih]
theorem F2.zip {α β:Type}{P:α→β→Prop}{a:List α}{b:List β}(h:F2 P a b):∀ p∈a.zip b,P p.1 p.2:=by
 induction h with
 | nil=>intro p hp; cases hp
 | cons p _ ih =>
  intro q hq
  rw [List.zip_cons_cons] at hq
  rcases List.mem_cons.1 hq with rfl | hq
  ·exact p
  ·exact ih q hq
theorem F2.map {α β γ:Type}{P:β→γ→Prop}(f:α→β)(g:α→γ):∀ l:List α,(∀ a∈l,P (f a) (g a))→F2 P (l.map f) (l.map g)
 | [],_=>.nil
 | a::l,h=>.cons (h a List.mem_cons_self) (F2.map f g l λ b hb=>h b (List.mem_cons_of_mem _ hb))
section
variable {R:Int→Int→Prop}
def TR (R:Int→Int→Prop)(t t':TToken):Prop:=t'.fKind=t.fKind∧t'.fText=t.fText∧R t.fAt t'.fAt
inductive RE (R:Int→Int→Prop):aa→aa→Prop where
 | mk {x y:aa} (k:y.fKind=x.fKind) (o:y.fOp=x.fOp) (n:y.fName=x.fName) (m:y.fKey=x.fKey) (v:y.fValue=x.fValue) (a:R x.fAt y.fAt) (c:x.fKids.length≤4000000000) (l:y.fKids.length=x.fKids.length) (s:∀ p∈x.fKids.zip y.fKids,RE R p.1 p.2):RE R x y
theorem RE.at {x y:aa}(h:RE R x y):R x.fAt y.fAt:=by cases h; assumption
theorem re_n {k o:Int}{n m:Bytes}{v:ab}{ks ks':List aa}{a a':Int}(h:F2 (RE R) ks ks')(ha:R a a')(hc:ks.length≤4000000000):RE R (aa.mk k o n m v ks a) (aa.mk k o n m v ks' a') :=
 .mk rfl rfl rfl rfl rfl ha hc h.len h.zip
theorem nf2 (b:Bool){l m:List TToken}(h:F2 (TR R) l m):F2 (TR R) (nf b l) (nf b m):=by
 cases b
 ·exact h
 ·induction h with
  | nil=>exact .nil
  | @cons x y l m p t ih =>
   show F2 (TR R) ((x::l).dropWhile nlT) ((y::m).dropWhile nlT)
   rw [List.dropWhile_cons,List.dropWhile_cons,show nlT y=nlT x by unfold nlT; rw [p.1]]
   split
   ·exact ih
   ·exact .cons p t
theorem hd2 (b:Bool){l m:List TToken}(g:Gl l)(h:F2 (TR R) l m):TR R (hd b l) (hd b m)∧F2 (TR R) (tl b l) (tl b m):=by
 have h1:=nf2 b h
 have h2:=Gd_ne (nf_gd (b:=b) g.1)
 unfold hd tl
 generalize nf b l=x at h1 h2 ⊢
 generalize nf b m=y at h1 ⊢
 cases h1 with
 | nil=>exact absurd rfl h2
 | cons p t=>exact ⟨p,t⟩
theorem k2' {b:Bool}{l m:List TToken}(h:F2 (TR R) l m)(g:Gl l):(hd b m).fKind=(hd b l).fKind:=(hd2 b g h).1.1
theorem x2 {b:Bool}{l m:List TToken}(h:F2 (TR R) l m)(g:Gl l):(hd b m).fText=(hd b l).fText:=(hd2 b g h).1.2.1
theorem shp2 {x y:aa}(k:y.fKind=x.fKind)(o:y.fOp=x.fOp)(n:y.fName=x.fName)(m:y.fKey=x.fKey)(v:y.fValue=x.fValue)(l:y.fKids.length=x.fKids.length):shpE y=shpE x:=by
 unfold shpE
 simp only [expr_shaped,expr_operator,k,o,n,m,v,l]
theorem node2 {x y:aa}(k:y.fKind=x.fKind)(o:y.fOp=x.fOp)(n:y.fName=x.fName)(m:y.fKey=x.fKey)(v:y.fValue=x.fValue)(l:y.fKids.length=x.fKids.length):nodeC y=nodeC x:=by
 unfold nodeC
 simp only [shp2 k o n m v l,k,n,m,v]
theorem vis2 {x y:aa}(h:RE R x y):∀ c lv,visE c lv y=visE c lv x:=by
 induction h with
 | @mk x y k o n m v a c l s ih =>
  have hl:∀ (xs ys:List aa),ys.length=xs.length→(∀ p∈xs.zip ys,∀ c lv,visE c lv p.2=visE c lv p.1)→∀ c lv,visL c lv ys=visL c lv xs:=by
   intro xs
   induction xs with
   | nil =>
    intro ys hl _ c lv
    rw [List.length_eq_zero_iff.1 hl]
   | cons p xs ihx =>
    intro ys hl hp c lv
    cases ys with
    | nil=>cases hl
    | cons q ys =>
     rw [List.zip_cons_cons] at hp
     have h1:=hp _ List.mem_cons_self
     rw [visL_cons,visL_cons,h1 c lv]
     split
     ·exact ihx ys (Nat.succ.inj hl) (λ p hq=>hp p (List.mem_cons_of_mem _ hq)) _ _
     ·rfl
  intro c lv
  rw [visE_eq,visE_eq,node2 k o n m v l,hl x.fKids y.fKids l ih]
theorem chk2 {x y:aa}(h:RE R x y):chk y=chk x:=by unfold chk; rw [vis2 h]
end
end Go.Ab.R06.U
end
section
namespace Go.Ab.R06.U
open Go.Ab.R06
open Go.Ab Go.Ab.RB Go.Lib
def Ans {α:Type}(p:Nat→Option α)(r:α):Prop:=∃ N,∀ f,N≤f→p f=some r
theorem ans_c {α:Type}{r:α}:Ans (λ _=>some r) r:=⟨0,λ _ _=>rfl⟩
theorem ans_s {α:Type}{p:Nat→Option α}{r:α}(h:Ans (λ f=>p (f+1)) r):Ans p r:=by
 obtain ⟨N,h⟩:=h
 refine ⟨N+1,λ f hf=>?_⟩
 obtain ⟨g,rfl⟩:∃ g,f=g+1:=⟨f - 1,by omega⟩
 exact h g (by omega)
theorem ans_eq {α:Type}{p q:Nat→Option α}{r:α}(h:∀ f,p f=q f)(k:Ans q r):Ans p r:=by
 obtain ⟨N,k⟩:=k
 exact ⟨N,λ f hf=>(h f).trans (k f hf)⟩
theorem ans_pb {α β:Type}{x:Nat→PR α}{k:Nat→α→List TToken→PR β}{a:α}{l:List TToken}{r:PE⊕(β×List TToken)}(h:Ans x (.inr (a,l)))(g:Ans (λ f=>k f a l) r):Ans (λ f=>pb (x f) (k f)) r:=by
 obtain ⟨N,h⟩:=h; obtain ⟨M,g⟩:=g
 refine ⟨N+M,λ f hf=>?_⟩
 show pb (x f) (k f)=some r
 rw [h f (by omega)]
 exact g f (by omega)
abbrev EQV (x y:aa):Prop:=RE (λ _ _=>True) x y
def toks (L:List TToken):List Tok:=L.map λ t=>(t.fKind,t.fText)
theorem toks_cons {L:List TToken}{a:Tok}{ts:List Tok}(h:toks L=a::ts):∃ t M,L=t::M∧t.fKind=a.1∧t.fText=a.2∧toks M=ts:=by
 cases L with
 | nil=>cases h
 | cons t M =>
  simp only [toks,List.map_cons,List.cons.injEq] at h
  exact ⟨t,M,rfl,congrArg Prod.fst h.1,congrArg Prod.snd h.1,h.2⟩
theorem toks_app {ts us:List Tok}:∀ {L:List TToken},toks L=ts++us→∃ M K,L=M++K∧toks M=ts∧toks K=us:=by
 induction ts with
 | nil=>intro L h; exact ⟨[],L,rfl,rfl,h⟩
 | cons a ts ih =>
  intro L h
  obtain ⟨t,M,rfl,h1,h2,h3⟩:=toks_cons (a:=a) h
  obtain ⟨A,K,rfl,h4,h5⟩:=ih h3
  refine ⟨t::A,K,rfl,?_,h5⟩
  simp only [toks,List.map_cons] at h4 ⊢
  rw [h4,h1,h2]
theorem toks_nil {L:List TToken}(h:toks L=[]):L=[]:=by
 cases L with
 | nil=>rfl
 | cons=>cases h
theorem nf_tok {t:TToken}(h:t.fKind≠5)(b:Bool)(l:List TToken):nf b (t::l)=t::l:=by
 cases b with
 | false=>rfl
 | true=>simp [nf,nlT,h]
theorem hd_tok {t:TToken}(h:t.fKind≠5)(b:Bool)(l:List TToken):hd b (t::l)=t:=by simp [hd,nf_tok h]
theorem tl_tok {t:TToken}(h:t.fKind≠5)(b:Bool)(l:List TToken):tl b (t::l)=l:=by simp [tl,nf_tok h]
theorem sg_tok {t:TToken}(h:t.fKind≠5)(b:Bool)(l:List TToken)(s:Bytes):sgB b (t::l) s=(decide (t.fKind=4)&&decide (t.fText=s)):=by simp [sgB,hd_tok h]
theorem wd_tok {t:TToken}(h:t.fKind≠5)(b:Bool)(l:List TToken)(s:Bytes):wdB b (t::l) s=(decide (t.fKind=1)&&decide (t.fText=s)):=by simp [wdB,hd_tok h]
def opB (s:Bytes)(i:Nat):Option (Bytes×Int):=(opsS i).find? λ p=>decide (s=p.1)
theorem amp_sign {t:TToken}(h:t.fKind=4)(b:Bool)(l:List TToken)(i:Nat):ampS b (t::l) i=opB t.fText i:=by
 unfold ampS opB
 congr 1
 funext p
 rw [sg_tok (by omega),h]; simp
theorem find_none {α:Type}(l:List α):l.find? (λ _=>false)=none:=by induction l with
 | nil=>rfl
 | cons a l ih=>simp [ih]
theorem amp_other {t:TToken}(h:t.fKind≠4)(h5:t.fKind≠5)(b:Bool)(l:List TToken)(i:Nat):ampS b (t::l) i=none:=by
 unfold ampS
 rw [show (λ p:Bytes×Int=>sgB b (t::l) p.1)=λ _=>false from funext λ p=>by rw [sg_tok h5]; simp [h]]
 exact find_none _
structure Stp (j:Nat)(b:Bool)(l:List TToken):Prop where
 o:∀ i,j≤i→i≤5→ampS b l i=none
 d:sgB b l [46]=false
 k:sgB b l [91]=false
 c:sgB b l [40]=false
theorem Stp.mono {j i:Nat}{b:Bool}{l:List TToken}(h:Stp j b l)(hji:j≤i):Stp i b l:=⟨λ k hk h5=>h.o k (by omega) h5,h.d,h.k,h.c⟩
structure StpE (b:Bool)(l:List TToken):Prop where
 s:Stp 0 b l
 q:sgB b l [63]=false
def endB (s:Bytes):Bool:=decide (s∈([[41],[93],[125],[44],[58],[61],[61,62]]:List Bytes))
theorem end_op {s:Bytes}(h:endB s=true)(i:Nat):opB s i=none:=by
 unfold endB at h
 rw [decide_eq_true_eq] at h
 simp only [List.mem_cons,List.not_mem_nil,or_false] at h
 rcases i with _ | _ | _ | _ | _ | i <;> rcases h with rfl | rfl | rfl | rfl | rfl | rfl | rfl <;> rfl
theorem stpE_sign {t:TToken}(h:t.fKind=4)(hs:endB t.fText=true)(b:Bool)(l:List TToken):StpE b (t::l):=by
 have h5:t.fKind≠5:=by omega
 have hd:∀ s:Bytes,endB s=false→sgB b (t::l) s=false:=λ s hn=>by
  rw [sg_tok h5,h]
  simp only [decide_true,Bool.true_and,decide_eq_false_iff_not]
  intro e; rw [e,hn] at hs; cases hs
 exact ⟨⟨λ i _ _=>by rw [amp_sign h]; exact end_op hs i,hd _ (by decide),hd _ (by decide),hd _ (by decide)⟩,hd _ (by decide)⟩
theorem stpE_other {t:TToken}(h:t.fKind≠4)(h5:t.fKind≠5)(b:Bool)(l:List TToken):StpE b (t::l):=by
 have hd:∀ s:Bytes,sgB b (t::l) s=false:=λ s=>by rw [sg_tok h5]; simp [h]
 exact ⟨⟨λ i _ _=>amp_other h h5 b l i,hd _,hd _,hd _⟩,hd _⟩
def C0 (ts:List Tok)(e:aa):Prop:=∀ L,toks L=ts→∃ e',EQV e e'∧∀ b l,StpE b l→Ans (λ f=>exprS f b (L++l)) (.inr (e',l))
def CB (j:Nat)(ts:List Tok)(e:aa):Prop:=∀ L,toks L=ts→∃ e',EQV e e'∧∀ b l r,Stp (j+1) b l→Ans (λ f=>binL f j b e' l) r→Ans (λ f=>binS f j b (L++l)) r
def CF (j:Nat)(ts:List Tok)(e:aa):Prop:=∀ L,toks L=ts→∃ e',EQV e e'∧∀ b l,Stp j b l→Ans (λ f=>binS f j b (L++l)) (.inr (e',l))
def C7 (ts:List Tok)(e:aa):Prop:=∀ L,toks L=ts→∃ e',EQV e e'∧∀ b l,Stp 6 b l→Ans (λ f=>unS f b (L++l)) (.inr (e',l))
def C8 (ts:List Tok)(e:aa):Prop:=∀ L,toks L=ts→∃ e',EQV e e'∧∀ b l r,sgB b l [40]=false→Ans (λ f=>postL f b e' l) r→Ans (λ f=>unS f b (L++l)) r
theorem c8_c7 {ts:List Tok}{e:aa}(h:C8 ts e):C7 ts e:=by
 intro L hL
 obtain ⟨e',h1,h2⟩:=h L hL
 refine ⟨e',h1,λ b l hs=>h2 b l _ hs.c (ans_s ?_)⟩
 simp only [postL,hs.d,hs.k]
 exact ans_c
theorem c7_cf {ts:List Tok}{e:aa}(h:C7 ts e):CF 6 ts e:=by
 intro L hL
 obtain ⟨e',h1,h2⟩:=h L hL
 refine ⟨e',h1,λ b l hs=>ans_s ?_⟩
 simp only [binS]
 exact ans_eq (λ f=>if_pos (by omega)) (h2 b l hs)
theorem cf_cb {j:Nat}(hj:j≤5){ts:List Tok}{e:aa}(h:CF (j+1) ts e):CB j ts e:=by
 intro L hL
 obtain ⟨e',h1,h2⟩:=h L hL
 refine ⟨e',h1,λ b l r hs hr=>ans_s ?_⟩
 simp only [binS]
 exact ans_eq (λ f=>if_neg (by omega)) (ans_pb (h2 b l hs) hr)
theorem cb_cf {j:Nat}(hj:j≤5){ts:List Tok}{e:aa}(h:CB j ts e):CF j ts e:=by
 intro L hL
 obtain ⟨e',h1,h2⟩:=h L hL
 refine ⟨e',h1,λ b l hs=>h2 b l _ (hs.mono (by omega)) (ans_s ?_)⟩
 simp only [binL,hs.o j (Nat.le_refl _) hj]
 exact ans_c
theorem cf_c0 {ts:List Tok}{e:aa}(h:CF 0 ts e):C0 ts e:=by
 intro L hL
 obtain ⟨e',h1,h2⟩:=h L hL
 refine ⟨e',h1,λ b l hs=>ans_s ?_⟩
 simp only [exprS]
 refine ans_pb (h2 b l hs.s) ?_
 simp only [hs.q]
 exact ans_c
def CL:Nat→List Tok→aa→Prop
 | 0=>C0
 | 7=>C7
 | 8=>C8
 | n+1=>CB n
theorem cl_down {ts:List Tok}{e:aa}:∀ {n:Nat},n≤7→CL (n+1) ts e→CL n ts e
 | 0,_,h=>cf_c0 (cb_cf (by omega) h)
 | 1,_,h=>cf_cb (j:=0) (by omega) (cb_cf (j:=1) (by omega) h)
 | 2,_,h=>cf_cb (j:=1) (by omega) (cb_cf (j:=2) (by omega) h)
 | 3,_,h=>cf_cb (j:=2) (by omega) (cb_cf (j:=3) (by omega) h)
 | 4,_,h=>cf_cb (j:=3) (by omega) (cb_cf (j:=4) (by omega) h)
 | 5,_,h=>cf_cb (j:=4) (by omega) (cb_cf (j:=5) (by omega) h)
 | 6,_,h=>cf_cb (j:=5) (by omega) (c7_cf h)
 | 7,_,h=>c8_c7 h
theorem cl_weak {ts:List Tok}{e:aa}:∀ {k n:Nat},n+k≤8→CL (n+k) ts e→CL n ts e
 | 0,_,_,h=>h
 | k+1,n,hn,h=>cl_weak (k:=k) (by omega) (cl_down (by omega) h)
theorem cl_cf {j:Nat}(hj:j≤6){ts:List Tok}{e:aa}(h:CL (j+1) ts e):CF j ts e :=
 match j,hj,h with
 | 0,_,h=>cb_cf (by omega) h
 | 1,_,h=>cb_cf (by omega) h
 | 2,_,h=>cb_cf (by omega) h
 | 3,_,h=>cb_cf (by omega) h
 | 4,_,h=>cb_cf (by omega) h
 | 5,_,h=>cb_cf (by omega) h
 | 6,_,h=>c7_cf h
theorem cl_cb {j:Nat}(hj:j≤5){ts:List Tok}{e:aa}(h:CL (j+1) ts e):CB j ts e :=
 match j,hj,h with
 | 0,_,h=>h
 | 1,_,h=>h
 | 2,_,h=>h
 | 3,_,h=>h
 | 4,_,h=>h
 | 5,_,h=>h
theorem f2r {x y:aa}(h:EQV x y):F2 (RE λ _ _=>True) [x] [y]:=.cons h .nil
theorem eqv_n {k o:Int}{n m:Bytes}{v:ab}{ks ks':List aa}{a a':Int}(h:F2 (RE λ _ _=>True) ks ks')(hc:ks.length≤4000000000):EQV (aa.mk k o n m v ks a) (aa.mk k o n m v ks' a'):=re_n h trivial hc
theorem pb_ok {α β:Type}(a:α)(l:List TToken)(k:α→List TToken→PR β):pb (pok a l) k=k a l:=rfl
def bgT (z:Tok):Bool:=decide (z.1≠5)&&!(decide (z.1=4)&&decide (z.2∈([[41],[93],[125]]:List Bytes)))&&!(decide (z.1=1)&&decide (z.2=[102,111,114]))
def Bgn (ts:List Tok):Prop:=∃ z r,ts=z::r∧bgT z=true
theorem Bgn.app {ts us:List Tok}(h:Bgn ts):Bgn (ts++us):=by
 obtain ⟨z,r,rfl,h⟩:=h
 exact ⟨z,r++us,rfl,h⟩
theorem bgn_end {ts:List Tok}(h:Bgn ts){L:List TToken}(hL:toks L=ts)(l:List TToken){s:Bytes}(hs:s∈([[41],[93],[125]]:List Bytes)):sgB true (L++l) s=false:=by
 obtain ⟨z,r,rfl,h⟩:=h
 obtain ⟨t,M,rfl,h1,h2,-⟩:=toks_cons hL
 unfold bgT at h
 simp only [Bool.and_eq_true,decide_eq_true_eq] at h
 rw [List.cons_append,sg_tok (by rw [h1]; exact h.1.1),h1,h2]
 have:=h.1.2
 cases h4:decide (z.1=4) with
 | false=>rfl
 | true =>
  rw [h4] at this
  simp only [Bool.true_and,Bool.not_eq_true',decide_eq_false_iff_not] at this ⊢
  intro e; rw [e] at this; exact this hs
theorem c8_of {ts:List Tok}{e:aa}(z:Tok)(us:List Tok)(hts:ts=z::us)(h5:z.1≠5)(h33:z≠(4,[33]))(h45:z≠(4,[45]))
  (h:∀ t M,t.fKind=z.1→t.fText=z.2→toks M=us→∃ e',EQV e e'∧∀ b l,sgB b l [40]=false→Ans (λ f=>primS f b (t::(M++l))) (.inr (e',l))):C8 ts e:=by
 subst hts
 intro L hL
 obtain ⟨t,M,rfl,h1,h2,h3⟩:=toks_cons hL
 obtain ⟨e',p,q⟩:=h t M h1 h2 h3
 refine ⟨e',p,λ b l r hc hr=>ans_s ?_⟩
 have ht:t.fKind≠5:=by rw [h1]; exact h5
 have n33:sgB b (t::(M++l)) [33]=false:=by
  rw [sg_tok ht,h1,h2]
  cases hz:decide (z.1=4) with
  | false=>rfl
  | true=>simp only [Bool.true_and,decide_eq_false_iff_not]; intro e; exact h33 (Prod.ext (by simpa using hz) e)
 have n45:sgB b (t::(M++l)) [45]=false:=by
  rw [sg_tok ht,h1,h2]
  cases hz:decide (z.1=4) with
  | false=>rfl
  | true=>simp only [Bool.true_and,decide_eq_false_iff_not]; intro e; exact h45 (Prod.ext (by simpa using hz) e)
 simp only [List.cons_append,unS,n33,n45]
 exact ans_pb (q b l hc) hr
theorem c8_paren {ts:List Tok}{e:aa}(h:C0 ts e):C8 ((4,[40])::(ts++[(4,[41])])) e:=by
 refine c8_of (4,[40]) _ rfl (by decide) (by decide) (by decide) λ t M h1 h2 h3=>?_
 obtain ⟨A,K,rfl,hA,hK⟩:=toks_app h3
 obtain ⟨u,N,rfl,u1,u2,hN⟩:=toks_cons hK
 cases toks_nil hN
 simp only at h1 h2 u1 u2
 obtain ⟨e',p,q⟩:=h A hA
 refine ⟨e',p,λ b l hc=>ans_s ?_⟩
 have ht:t.fKind≠5:=by omega
 have hu:u.fKind≠5:=by omega
 simp only [primS,List.append_assoc,List.cons_append,List.nil_append,hd_tok ht,tl_tok ht,sg_tok ht,h1,h2]
 refine ans_eq (λ f=>rfl) (ans_pb (q true (u::l) (stpE_sign u1 (by rw [u2]; decide) _ _)) ?_)
 simp only [needS,sg_tok hu,tl_tok hu,u1,u2]
 exact ans_c
theorem c8_name {s:Bytes}(hr:resB s=false)(a:Int):C8 [(1,s)] (aa.mk 3 0 s [] v0 [] a):=by
 refine c8_of (1,s) _ rfl (by simp) (by simp) (by simp) λ t M h1 h2 h3=>?_
 cases toks_nil h3
 simp only at h1 h2
 refine ⟨aa.mk 3 0 s [] v0 [] t.fAt,eqv_n .nil (Nat.zero_le _),λ b l hc=>ans_s (ans_s ?_)⟩
 have ht:t.fKind≠5:=by omega
 have r1:s≠[110,117,108,108]:=by rintro rfl; exact absurd hr (by decide)
 have r2:s≠[116,114,117,101]:=by rintro rfl; exact absurd hr (by decide)
 have r3:s≠[102,97,108,115,101]:=by rintro rfl; exact absurd hr (by decide)
 simp only [primS,nameS,List.nil_append,hd_tok ht,tl_tok ht,h1,h2,r1,r2,r3,hr,hc]
 exact ans_c
theorem c8_word {s:Bytes}{v:ab}(a:Int)(h:(s=[110,117,108,108]∧v=v0)∨(s=[116,114,117,101]∧v=ab.mk 1 1 [] [] [])∨(s=[102,97,108,115,101]∧v=ab.mk 1 0 [] [] [])):C8 [(1,s)] (litE v a):=by
 refine c8_of (1,s) _ rfl (by simp) (by simp) (by simp) λ t M h1 h2 h3=>?_
 cases toks_nil h3
 simp only at h1 h2
 refine ⟨litE v t.fAt,eqv_n .nil (Nat.zero_le _),λ b l hc=>ans_s (ans_s ?_)⟩
 have ht:t.fKind≠5:=by omega
 simp only [primS,nameS,List.nil_append,hd_tok ht,tl_tok ht,h1,h2]
 rcases h with ⟨rfl,rfl⟩ | ⟨rfl,rfl⟩ | ⟨rfl,rfl⟩ <;> exact ans_c
theorem c8_num {s:Bytes}{n:Int}(a:Int)(h:pq s=(n,0)):C8 [(2,s)] (litE (ab.mk 2 n [] [] []) a):=by
 refine c8_of (2,s) _ rfl (by simp) (by simp) (by simp) λ t M h1 h2 h3=>?_
 cases toks_nil h3
 simp only at h1 h2
 refine ⟨litE (ab.mk 2 n [] [] []) t.fAt,eqv_n .nil (Nat.zero_le _),λ b l hc=>ans_s ?_⟩
 have ht:t.fKind≠5:=by omega
 simp only [primS,List.nil_append,hd_tok ht,tl_tok ht,h1,h2,h]
 exact ans_c
def TM (s:Bytes)(e:aa):Prop:=∀ at',∃ e',EQV e e'∧Ans (λ f=>tmplS f s at') (.inr e')
theorem strS_of {s:Bytes}{e:aa}(h:TM s e){t:TToken}(h1:t.fKind=3)(h2:t.fText=s):∃ e',EQV e e'∧∀ b l,Ans (λ f=>strS f b (t::l)) (.inr (e',l)):=by
 obtain ⟨e',p,q⟩:=h (t.fAt+1)
 have ht:t.fKind≠5:=by omega
 refine ⟨aa.mk e'.fKind e'.fOp e'.fName e'.fKey e'.fValue e'.fKids t.fAt,?_,λ b l=>ans_s ?_⟩
 ·cases p with
  | mk k o n m v b c l s=>exact .mk k o n m v trivial c l s
 ·obtain ⟨N,q⟩:=q
  refine ⟨N,λ f hf=>?_⟩
  simp only [strS,hd_tok ht,tl_tok ht,h2,q f hf]
  rfl
theorem c8_str {s:Bytes}{e:aa}(h:TM s e):C8 [(3,s)] e:=by
 refine c8_of (3,s) _ rfl (by simp) (by simp) (by simp) λ t M h1 h2 h3=>?_
 cases toks_nil h3
 obtain ⟨e',p,q⟩:=strS_of h h1 h2
 simp only at h1 h2
 refine ⟨e',p,λ b l hc=>ans_s ?_⟩
 have ht:t.fKind≠5:=by omega
 simp only [primS,List.nil_append,hd_tok ht,h1]
 exact q b l
theorem c8_attr {ts:List Tok}{e:aa}(h:C8 ts e)(nm:Bytes)(a:Int):C8 (ts++[(4,[46]),(1,nm)]) (aa.mk 4 0 nm [] v0 [e] a):=by
 intro L hL
 obtain ⟨A,K,rfl,hA,hK⟩:=toks_app hL
 obtain ⟨t,K,rfl,t1,t2,hK⟩:=toks_cons hK
 obtain ⟨u,N,rfl,u1,u2,hN⟩:=toks_cons hK
 cases toks_nil hN
 simp only at t1 t2 u1 u2
 obtain ⟨e',p,q⟩:=h A hA
 have ht:t.fKind≠5:=by omega
 have hu:u.fKind≠5:=by omega
 refine ⟨aa.mk 4 0 nm [] v0 [e'] e'.fAt,eqv_n (f2r p) (by simp),λ b l r hc hr=>?_⟩
 rw [List.append_assoc]
 refine q b _ r (by rw [List.cons_append,sg_tok ht,t1,t2]; rfl) (ans_s ?_)
 simp only [postL,List.cons_append,List.nil_append,sg_tok ht,hd_tok hu,tl_tok ht,tl_tok hu,t1,t2,u1,u2]
 exact hr
theorem c8_idx {ts us:List Tok}{e x:aa}(h:C8 ts e)(g:C0 us x)(a:Int):C8 (ts++(4,[91])::(us++[(4,[93])])) (aa.mk 5 0 [] [] v0 [e,x] a):=by
 intro L hL
 obtain ⟨A,K,rfl,hA,hK⟩:=toks_app hL
 obtain ⟨t,K,rfl,t1,t2,hK⟩:=toks_cons hK
 obtain ⟨B,K,rfl,hB,hK⟩:=toks_app hK
 obtain ⟨u,N,rfl,u1,u2,hN⟩:=toks_cons hK
 cases toks_nil hN
 simp only at t1 t2 u1 u2
 obtain ⟨e',p,q⟩:=h A hA
 obtain ⟨x',p2,q2⟩:=g B hB
 have ht:t.fKind≠5:=by omega
 have hu:u.fKind≠5:=by omega
 refine ⟨aa.mk 5 0 [] [] v0 [e',x'] e'.fAt,eqv_n (.cons p (f2r p2)) (by simp),λ b l r hc hr=>?_⟩
 rw [List.append_assoc]
 refine q b _ r (by rw [List.cons_append,sg_tok ht,t1,t2]; rfl) (ans_s ?_)
 simp only [postL,List.cons_append,List.append_assoc,List.nil_append,sg_tok ht,tl_tok ht,t1,t2]
 refine ans_eq (λ f=>rfl) (ans_pb (q2 true (u::l) (stpE_sign u1 (by rw [u2]; decide) _ _)) ?_)
 simp only [needS,sg_tok hu,tl_tok hu,u1,u2]
 exact hr
theorem c7_un {ts:List Tok}{e:aa}(h:C7 ts e){s:Bytes}{o:Int}(ho:s=[33]∧o=1∨s=[45]∧o=2)(a:Int):C7 ((4,s)::ts) (aa.mk 6 o [] [] v0 [e] a):=by
 intro L hL
 obtain ⟨t,M,rfl,t1,t2,hM⟩:=toks_cons hL
 simp only at t1 t2
 obtain ⟨e',p,q⟩:=h M hM
 have ht:t.fKind≠5:=by omega
 refine ⟨aa.mk 6 o [] [] v0 [e'] t.fAt,eqv_n (f2r p) (by simp),λ b l hs=>ans_s ?_⟩
 simp only [unS,List.cons_append,sg_tok ht,hd_tok ht,tl_tok ht,t1,t2]
 rcases ho with ⟨rfl,rfl⟩ | ⟨rfl,rfl⟩
 ·exact ans_eq (λ f=>rfl) (ans_pb (q b l hs) ans_c)
 ·exact ans_eq (λ f=>rfl) (ans_pb (q b l hs) ans_c)
theorem op_at:∀ j:Fin 6,∀ p∈opsS j.val,opB p.1 j.val=some p∧(∀ i:Fin 6,j.val+1≤i.val→opB p.1 i.val=none)∧p.1≠[46]∧p.1≠[91]∧p.1≠[40]∧p.1≠[63]:=by decide
theorem cb_bin {j:Nat}(hj:j≤5){s:Bytes}{o:Int}(ho:(s,o)∈opsS j){ts us:List Tok}{e x:aa}(h:CB j ts e)(g:CF (j+1) us x)(a:Int):CB j (ts++(4,s)::us) (aa.mk 7 o [] [] v0 [e,x] a):=by
 obtain ⟨o1,o2,o3,o4,o5,-⟩:=op_at ⟨j,by omega⟩ (s,o) ho
 simp only at o1 o2 o3 o4 o5
 intro L hL
 obtain ⟨A,K,rfl,hA,hK⟩:=toks_app hL
 obtain ⟨t,B,rfl,t1,t2,hB⟩:=toks_cons hK
 simp only at t1 t2
 obtain ⟨e',p,q⟩:=h A hA
 obtain ⟨x',p2,q2⟩:=g B hB
 have ht:t.fKind≠5:=by omega
 have sg:∀ (b:Bool) (l:List TToken) (z:Bytes),s≠z→sgB b (t::l) z=false:=λ b l z hz=>by rw [sg_tok ht,t1,t2]; simp [hz]
 refine ⟨aa.mk 7 o [] [] v0 [e',x'] e'.fAt,eqv_n (.cons p (f2r p2)) (by simp),λ b l r hs hr=>?_⟩
 rw [List.append_assoc]
 refine q b _ r ⟨λ i h1 h2=>?_,sg _ _ _ o3,sg _ _ _ o4,sg _ _ _ o5⟩ (ans_s ?_)
 ·rw [List.cons_append,amp_sign t1,t2]; exact o2 ⟨i,by omega⟩ h1
 simp only [binL,List.cons_append,amp_sign t1,t2,o1,tl_tok ht]
 exact ans_pb (q2 b l hs) hr
theorem c0_cond {ts us vs:List Tok}{c x y:aa}(h:CF 0 ts c)(g:C0 us x)(k:C0 vs y)(a:Int):C0 (ts++(4,[63])::(us++(4,[58])::vs)) (aa.mk 8 0 [] [] v0 [c,x,y] a):=by
 intro L hL
 obtain ⟨A,K,rfl,hA,hK⟩:=toks_app hL
 obtain ⟨t,K,rfl,t1,t2,hK⟩:=toks_cons hK
 obtain ⟨B,K,rfl,hB,hK⟩:=toks_app hK
 obtain ⟨u,M,rfl,u1,u2,hM⟩:=toks_cons hK
 simp only at t1 t2 u1 u2
 obtain ⟨c',p,q⟩:=h A hA
 obtain ⟨x',p2,q2⟩:=g B hB
 obtain ⟨y',p3,q3⟩:=k M hM
 have ht:t.fKind≠5:=by omega
 have hu:u.fKind≠5:=by omega
 refine ⟨aa.mk 8 0 [] [] v0 [c',x',y'] c'.fAt,eqv_n (.cons p (.cons p2 (f2r p3))) (by simp),λ b l hs=>ans_s ?_⟩
 have st:Stp 0 b (t::(B++u::(M++l))):=by
  have sg:∀ z:Bytes,[63]≠z→sgB b (t::(B++u::(M++l))) z=false:=λ z hz=>by rw [sg_tok ht,t1,t2]; simp [hz]
  refine ⟨λ i _ h5=>?_,sg _ (by decide),sg _ (by decide),sg _ (by decide)⟩
  rw [amp_sign t1,t2]
  rcases i with _ | _ | _ | _ | _ | i <;> rfl
 simp only [exprS,List.append_assoc,List.cons_append]
 refine ans_pb (q b _ st) ?_
 simp only [sg_tok ht,tl_tok ht,t1,t2]
 refine ans_eq (λ f=>rfl) (ans_pb (q2 b (u::(M++l)) (stpE_sign u1 (by rw [u2]; decide) _ _)) ?_)
 simp only [needS,sg_tok hu,tl_tok hu,u1,u2,decide_true,Bool.and_self,if_true,pb_ok]
 exact ans_pb (q3 b l hs) ans_c
def CI (z:Bytes)(ts:List Tok)(ks:List aa):Prop:=(∃ t r,ts=t::r∧t.1≠5∧t≠(1,[102,111,114]))∧∀ L,toks L=ts→∃ ks',F2 (RE λ _ _=>True) ks ks'∧∀ l,Ans (λ f=>itemsS f z (L++l)) (.inr (ks',l))
theorem bgn_ok {ts:List Tok}(h:Bgn ts):∃ t r,ts=t::r∧t.1≠5∧t≠(1,[102,111,114]):=by
 obtain ⟨z,r,rfl,h⟩:=h
 unfold bgT at h
 simp only [Bool.and_eq_true,decide_eq_true_eq] at h
 refine ⟨z,r,rfl,h.1.1,?_⟩
 rintro rfl
 exact absurd h.2 (by decide)
theorem ci_nil (z:Bytes):CI z [(4,z)] []:=by
 refine ⟨⟨_,_,rfl,by simp,by simp⟩,λ L hL=>⟨[],.nil,λ l=>ans_s ?_⟩⟩
 obtain ⟨t,N,rfl,t1,t2,hN⟩:=toks_cons hL
 cases toks_nil hN
 simp only at t1 t2
 have ht:t.fKind≠5:=by omega
 simp only [itemsS,List.cons_append,List.nil_append,sg_tok ht,tl_tok ht,t1,t2]
 exact ans_eq (λ f=>by simp [pok]) ans_c
theorem ci_cons {z:Bytes}(hz:z∈([[41],[93],[125]]:List Bytes)){ts us:List Tok}{x:aa}{ks:List aa}(hb:Bgn us)(h:C0 us x)(g:CI z ts ks):CI z (us++(4,[44])::ts) (x::ks):=by
 refine ⟨bgn_ok hb.app,λ L hL=>?_⟩
 obtain ⟨A,K,rfl,hA,hK⟩:=toks_app hL
 obtain ⟨t,B,rfl,t1,t2,hB⟩:=toks_cons hK
 simp only at t1 t2
 obtain ⟨x',p,q⟩:=h A hA
 obtain ⟨ks',p2,q2⟩:=g.2 B hB
 have ht:t.fKind≠5:=by omega
 refine ⟨x'::ks',.cons p p2,λ l=>ans_s ?_⟩
 simp only [itemsS,List.append_assoc,bgn_end hb hA _ hz]
 refine ans_eq (λ f=>rfl) (ans_pb (q true _ (by rw [List.cons_append]; exact stpE_sign t1 (by rw [t2]; decide) _ _)) ?_)
 simp only [List.cons_append,sg_tok ht,tl_tok ht,t1,t2]
 exact ans_eq (λ f=>rfl) (ans_pb (q2 l) ans_c)
theorem ci_last {z:Bytes}(hz:z∈([[41],[93],[125]]:List Bytes)){us:List Tok}{x:aa}(hb:Bgn us)(h:C0 us x):CI z (us++[(4,z)]) [x]:=by
 refine ⟨bgn_ok hb.app,λ L hL=>?_⟩
 obtain ⟨A,K,rfl,hA,hK⟩:=toks_app hL
 obtain ⟨t,N,rfl,t1,t2,hN⟩:=toks_cons hK
 cases toks_nil hN
 simp only at t1 t2
 obtain ⟨x',p,q⟩:=h A hA
 have ht:t.fKind≠5:=by omega
 refine ⟨[x'],f2r p,λ l=>ans_s ?_⟩
 have he:endB z=true:=by
  simp only [List.mem_cons,List.not_mem_nil,or_false] at hz
  rcases hz with rfl | rfl | rfl <;> decide
 have hc:z≠[44]:=by
  simp only [List.mem_cons,List.not_mem_nil,or_false] at hz
  rcases hz with rfl | rfl | rfl <;> decide
 simp only [itemsS,List.append_assoc,bgn_end hb hA _ hz]
 refine ans_eq (λ f=>rfl) (ans_pb (q true _ (by rw [List.cons_append]; exact stpE_sign t1 (by rw [t2]; exact he) _ _)) ?_)
 simp only [List.cons_append,List.nil_append,needS,sg_tok ht,tl_tok ht,t1,t2,hc]
 exact ans_eq (λ f=>by simp; rfl) ans_c
theorem c8_call {s:Bytes}(hr:resB s=false){ts:List Tok}{ks:List aa}(h:CI [41] ts ks)(hk:ks.length≤4000000000)(a:Int):C8 ((1,s)::(4,[40])::ts) (aa.mk 9 0 s [] v0 ks a):=by
 refine c8_of (1,s) _ rfl (by simp) (by simp) (by simp) λ t M h1 h2 h3=>?_
 obtain ⟨u,N,rfl,u1,u2,hN⟩:=toks_cons h3
 simp only at h1 h2 u1 u2
 obtain ⟨ks',p,q⟩:=h.2 N hN
 refine ⟨aa.mk 9 0 s [] v0 ks' t.fAt,eqv_n p hk,λ b l hc=>ans_s (ans_s ?_)⟩
 have ht:t.fKind≠5:=by omega
 have hu:u.fKind≠5:=by omega
 have r1:s≠[110,117,108,108]:=by rintro rfl; exact absurd hr (by decide)
 have r2:s≠[116,114,117,101]:=by rintro rfl; exact absurd hr (by decide)
 have r3:s≠[102,97,108,115,101]:=by rintro rfl; exact absurd hr (by decide)
 simp only [primS,nameS,List.cons_append,hd_tok ht,tl_tok ht,sg_tok hu,tl_tok hu,h1,h2,u1,u2,r1,r2,r3,hr]
 exact ans_eq (λ f=>rfl) (ans_pb (q l) ans_c)
theorem c8_list {ts:List Tok}{ks:List aa}(h:CI [93] ts ks)(hk:ks.length≤4000000000)(a:Int):C8 ((4,[91])::ts) (aa.mk 10 0 [] [] v0 ks a):=by
 refine c8_of (4,[91]) _ rfl (by decide) (by decide) (by decide) λ t M h1 h2 h3=>?_
 simp only at h1 h2
 obtain ⟨ks',p,q⟩:=h.2 M h3
 refine ⟨aa.mk 10 0 [] [] v0 ks' t.fAt,eqv_n p hk,λ b l hc=>ans_s ?_⟩
 have ht:t.fKind≠5:=by omega
 have hf:wdB true (M++l) [102,111,114]=false:=by
  obtain ⟨z,r,e,z5,zf⟩:=h.1
  rw [e] at h3
  obtain ⟨u,N,rfl,u1,u2,-⟩:=toks_cons h3
  rw [List.cons_append,wd_tok (by rw [u1]; exact z5),u1,u2]
  cases hd:decide (z.1=1) with
  | false=>rfl
  | true=>simp only [Bool.true_and,decide_eq_false_iff_not]; intro q; exact zf (Prod.ext (by simpa using hd) q)
 simp only [primS,hd_tok ht,tl_tok ht,sg_tok ht,h1,h2,hf]
 exact ans_eq (λ f=>rfl) (ans_pb (q l) ans_c)
def CK (ts:List Tok)(k:aa):Prop:=(∃ t r,ts=t::r∧t.1≠5∧t≠(1,[102,111,114])∧t≠(4,[125]))∧∀ L,toks L=ts→∃ k',EQV k k'∧∀ l,Ans (λ f=>mkeyS f (L++l)) (.inr (k',l))
theorem ck_name {s:Bytes}(hs:s≠[102,111,114])(a:Int):CK [(1,s)] (strE s a):=by
 refine ⟨⟨_,_,rfl,by simp,by simp [hs],by simp⟩,λ L hL=>?_⟩
 obtain ⟨t,N,rfl,t1,t2,hN⟩:=toks_cons hL
 cases toks_nil hN
 simp only at t1 t2
 have ht:t.fKind≠5:=by omega
 refine ⟨strE s t.fAt,eqv_n .nil (Nat.zero_le _),λ l=>ans_s ?_⟩
 simp only [mkeyS,List.cons_append,List.nil_append,hd_tok ht,tl_tok ht,t1,t2,if_true]
 exact ans_c
theorem ck_str {s:Bytes}{e:aa}(h:TM s e):CK [(3,s)] e:=by
 refine ⟨⟨_,_,rfl,by simp,by simp,by simp⟩,λ L hL=>?_⟩
 obtain ⟨t,N,rfl,t1,t2,hN⟩:=toks_cons hL
 cases toks_nil hN
 simp only at t1 t2
 have ht:t.fKind≠5:=by omega
 obtain ⟨e',p,q⟩:=strS_of h t1 t2
 refine ⟨e',p,λ l=>ans_s ?_⟩
 simp only [mkeyS,List.cons_append,List.nil_append,hd_tok ht,t1]
 exact q true l
theorem ck_paren {ts:List Tok}{e:aa}(h:C0 ts e):CK ((4,[40])::(ts++[(4,[41])])) e:=by
 refine ⟨⟨_,_,rfl,by simp,by simp,by simp⟩,λ L hL=>?_⟩
 obtain ⟨t,K,rfl,t1,t2,hK⟩:=toks_cons hL
 obtain ⟨A,K,rfl,hA,hK⟩:=toks_app hK
 obtain ⟨u,N,rfl,u1,u2,hN⟩:=toks_cons hK
 cases toks_nil hN
 simp only at t1 t2 u1 u2
 have ht:t.fKind≠5:=by omega
 have hu:u.fKind≠5:=by omega
 obtain ⟨e',p,q⟩:=h A hA
 refine ⟨e',p,λ l=>ans_s ?_⟩
 simp only [mkeyS,List.cons_append,List.append_assoc,List.nil_append,hd_tok ht,tl_tok ht,sg_tok ht,t1,t2]
 refine ans_eq (λ f=>rfl) (ans_pb (q true (u::l) (stpE_sign u1 (by rw [u2]; decide) _ _)) ?_)
 simp only [needS,sg_tok hu,tl_tok hu,u1,u2]
 exact ans_c
def CN (ts:List Tok)(ks:List aa):Prop:=(∃ t r,ts=t::r∧t.1≠5∧t≠(1,[102,111,114]))∧∀ L,toks L=ts→∃ ks',F2 (RE λ _ _=>True) ks ks'∧∀ l,Ans (λ f=>entS f (L++l)) (.inr (ks',l))
theorem cn_nil:CN [(4,[125])] []:=by
 refine ⟨⟨_,_,rfl,by simp,by simp⟩,λ L hL=>⟨[],.nil,λ l=>ans_s ?_⟩⟩
 obtain ⟨t,N,rfl,t1,t2,hN⟩:=toks_cons hL
 cases toks_nil hN
 simp only at t1 t2
 have ht:t.fKind≠5:=by omega
 simp only [entS,List.cons_append,List.nil_append,sg_tok ht,tl_tok ht,t1,t2]
 exact ans_eq (λ f=>by simp [pok]) ans_c
theorem ck_ok {ts us:List Tok}{k:aa}(h:CK ts k):∃ t r,ts++us=t::r∧t.1≠5∧t≠(1,[102,111,114]):=by
 obtain ⟨z,r,e,h1,h2,-⟩:=h.1
 exact ⟨z,r++us,by rw [e,List.cons_append],h1,h2⟩
theorem ck_end {ts:List Tok}{k:aa}(h:CK ts k){L:List TToken}(hL:toks L=ts)(l:List TToken):sgB true (L++l) [125]=false:=by
 obtain ⟨z,r,e,h1,-,h3⟩:=h.1
 rw [e] at hL
 obtain ⟨u,N,rfl,u1,u2,-⟩:=toks_cons hL
 rw [List.cons_append,sg_tok (by rw [u1]; exact h1),u1,u2]
 cases hd:decide (z.1=4) with
 | false=>rfl
 | true=>simp only [Bool.true_and,decide_eq_false_iff_not]; intro q; exact h3 (Prod.ext (by simpa using hd) q)
theorem cn_cons {us vs ts:List Tok}{k x:aa}{ks:List aa}(h:CK us k)(g:C0 vs x)(n:CN ts ks):CN (us++(4,[61])::(vs++(4,[44])::ts)) (k::x::ks):=by
 refine ⟨ck_ok h,λ L hL=>?_⟩
 obtain ⟨A,K,rfl,hA,hK⟩:=toks_app hL
 obtain ⟨t,K,rfl,t1,t2,hK⟩:=toks_cons hK
 obtain ⟨B,K,rfl,hB,hK⟩:=toks_app hK
 obtain ⟨u,M,rfl,u1,u2,hM⟩:=toks_cons hK
 simp only at t1 t2 u1 u2
 have ht:t.fKind≠5:=by omega
 have hu:u.fKind≠5:=by omega
 obtain ⟨k',p,q⟩:=h.2 A hA
 obtain ⟨x',p2,q2⟩:=g B hB
 obtain ⟨ks',p3,q3⟩:=n.2 M hM
 refine ⟨k'::x'::ks',.cons p (.cons p2 p3),λ l=>ans_s ?_⟩
 simp only [entS,List.append_assoc,ck_end h hA]
 refine ans_eq (λ f=>rfl) (ans_pb (q _) ?_)
 simp only [List.cons_append,List.append_assoc,needS,sg_tok ht,tl_tok ht,t1,t2,decide_true,Bool.and_self,if_true,pb_ok]
 refine ans_pb (q2 true _ (stpE_sign u1 (by rw [u2]; decide) _ _)) ?_
 simp only [sg_tok hu,tl_tok hu,u1,u2,decide_true,Bool.and_self,if_true]
 exact ans_pb (q3 l) ans_c
theorem cn_last {us vs:List Tok}{k x:aa}(h:CK us k)(g:C0 vs x):CN (us++(4,[61])::(vs++[(4,[125])])) [k,x]:=by
 refine ⟨ck_ok h,λ L hL=>?_⟩
 obtain ⟨A,K,rfl,hA,hK⟩:=toks_app hL
 obtain ⟨t,K,rfl,t1,t2,hK⟩:=toks_cons hK
 obtain ⟨B,K,rfl,hB,hK⟩:=toks_app hK
 obtain ⟨u,M,rfl,u1,u2,hM⟩:=toks_cons hK
 cases toks_nil hM
 simp only at t1 t2 u1 u2
 have ht:t.fKind≠5:=by omega
 have hu:u.fKind≠5:=by omega
 obtain ⟨k',p,q⟩:=h.2 A hA
 obtain ⟨x',p2,q2⟩:=g B hB
 refine ⟨[k',x'],.cons p (f2r p2),λ l=>ans_s ?_⟩
 simp only [entS,List.append_assoc,ck_end h hA]
 refine ans_eq (λ f=>rfl) (ans_pb (q _) ?_)
 simp only [List.cons_append,List.append_assoc,List.nil_append,needS,sg_tok ht,tl_tok ht,t1,t2,decide_true,Bool.and_self,if_true,pb_ok]
 refine ans_pb (q2 true _ (stpE_sign u1 (by rw [u2]; decide) _ _)) ?_
 simp only [sg_tok hu,tl_tok hu,u1,u2,decide_true,Bool.and_self,if_true]
 exact ans_eq (λ f=>by simp [pb_ok]; rfl) ans_c
theorem c8_map {ts:List Tok}{ks:List aa}(h:CN ts ks)(hk:ks.length≤4000000000)(a:Int):C8 ((4,[123])::ts) (aa.mk 11 0 [] [] v0 ks a):=by
 refine c8_of (4,[123]) _ rfl (by decide) (by decide) (by decide) λ t M h1 h2 h3=>?_
 simp only at h1 h2
 obtain ⟨ks',p,q⟩:=h.2 M h3
 refine ⟨aa.mk 11 0 [] [] v0 ks' t.fAt,eqv_n p hk,λ b l hc=>ans_s ?_⟩
 have ht:t.fKind≠5:=by omega
 have hf:wdB true (M++l) [102,111,114]=false:=by
  obtain ⟨z,r,e,z5,zf⟩:=h.1
  rw [e] at h3
  obtain ⟨u,N,rfl,u1,u2,-⟩:=toks_cons h3
  rw [List.cons_append,wd_tok (by rw [u1]; exact z5),u1,u2]
  cases hd:decide (z.1=1) with
  | false=>rfl
  | true=>simp only [Bool.true_and,decide_eq_false_iff_not]; intro q; exact zf (Prod.ext (by simpa using hd) q)
 simp only [primS,hd_tok ht,tl_tok ht,sg_tok ht,h1,h2,hf]
 exact ans_eq (λ f=>rfl) (ans_pb (q l) ans_c)
def StT (ts:List Tok):Prop:=∃ z r,ts=z::r∧((z.1=4∧endB z.2=true)∨(z.1≠4∧z.1≠5))
theorem stt_stp {ts:List Tok}(h:StT ts){L:List TToken}(hL:toks L=ts)(b:Bool)(l:List TToken):StpE b (L++l):=by
 obtain ⟨z,r,rfl,h⟩:=h
 obtain ⟨u,N,rfl,u1,u2,-⟩:=toks_cons hL
 rw [List.cons_append]
 rcases h with ⟨h1,h2⟩ | ⟨h1,h2⟩
 ·exact stpE_sign (by rw [u1,h1]) (by rw [u2,h2]) _ _
 ·exact stpE_other (by rw [u1]; exact h1) (by rw [u1]; exact h2) _ _
def LpF (F:List Tok)(fl:List aa):Prop:=(F=[]∧fl=[])∨∃ tf x,F=(1,[105,102])::tf∧fl=[x]∧C0 tf x
def LpD (m:Bool)(D:List Tok)(dl:List aa):Prop:=(m=false∧D=[]∧dl=[])∨∃ td x,m=true∧D=(4,[61,62])::td∧dl=[x]∧C0 td x
def LpK (ky:Bytes)(K:List Tok):Prop:=(ky=[]∧K=[])∨(resB ky=false∧K=[(1,ky),(4,[44])])
def lpE (m:Bool):Bytes:=if m then [125] else [93]
theorem lpE_end (m:Bool):endB (lpE m)=true:=by cases m <;> rfl
theorem lpF_st {m:Bool}{F:List Tok}{fl:List aa}(h:LpF F fl):StT (F++[(4,lpE m)]):=by
 rcases h with ⟨rfl,-⟩ | ⟨tf,x,rfl,-,-⟩
 ·exact ⟨_,_,rfl,.inl ⟨rfl,lpE_end m⟩⟩
 ·exact ⟨_,_,rfl,.inr ⟨by simp,by simp⟩⟩
theorem lpD_st {m:Bool}{D F:List Tok}{dl fl:List aa}(h:LpD m D dl)(g:LpF F fl):StT (D++(F++[(4,lpE m)])):=by
 rcases h with ⟨-,rfl,-⟩ | ⟨td,x,-,rfl,-,-⟩
 ·exact lpF_st g
 ·exact ⟨_,_,rfl,.inl ⟨rfl,by decide⟩⟩
theorem lp_f {m:Bool}{F:List Tok}{fl:List aa}(h:LpF F fl){L:List TToken}(hL:toks L=F++[(4,lpE m)]):∃ fl',F2 (RE λ _ _=>True) fl fl'∧∀ (G:List aa→aa) ks l,Ans (λ f=>pb (if wdB true (L++l) [105,102] then pb (exprS f true (tl true (L++l))) λ e l=>pok (ks++[e]) l else pok ks (L++l)) λ ks l=>pb (needS true (lpE m) l) λ _ l=>pok (G ks) l) (.inr (G (ks++fl'),l)):=by
 rcases h with ⟨rfl,rfl⟩ | ⟨tf,x,rfl,rfl,hx⟩
 ·obtain ⟨u,N,rfl,u1,u2,hN⟩:=toks_cons hL
  cases toks_nil hN
  simp only at u1 u2
  have hu:u.fKind≠5:=by omega
  refine ⟨[],.nil,λ G ks l=>?_⟩
  simp only [List.cons_append,List.nil_append,wd_tok hu,u1,needS,tl_tok hu,u2,List.append_nil]
  exact ans_eq (λ f=>by simp [pb_ok,sg_tok hu,tl_tok hu,u1,u2]; rfl) ans_c
 ·obtain ⟨t,K,rfl,t1,t2,hK⟩:=toks_cons hL
  obtain ⟨A,K,rfl,hA,hK⟩:=toks_app hK
  obtain ⟨u,N,rfl,u1,u2,hN⟩:=toks_cons hK
  cases toks_nil hN
  simp only at t1 t2 u1 u2
  have ht:t.fKind≠5:=by omega
  have hu:u.fKind≠5:=by omega
  obtain ⟨x',p,q⟩:=hx A hA
  refine ⟨[x'],f2r p,λ G ks l=>?_⟩
  simp only [List.cons_append,List.nil_append,List.append_assoc,wd_tok ht,tl_tok ht,t1,t2,decide_true,Bool.and_self,if_true]
  refine ans_pb (l:=u::l) (ans_pb (q true (u::l) (stpE_sign u1 (by rw [u2]; exact lpE_end m) _ _)) ans_c) ?_
  simp only [needS,sg_tok hu,tl_tok hu,u1,u2,decide_true,Bool.and_self,if_true,pb_ok]
  exact ans_c
theorem lp_s {m:Bool}{ky nm:Bytes}(hn:resB nm=false){ta tc K D F:List Tok}{a c:aa}{dl fl:List aa}(hK:LpK ky K)(ha:C0 ta a)(hc:C0 tc c)(hD:LpD m D dl)(hF:LpF F fl){L:List TToken}(hL:toks L=K++(1,nm)::(1,[105,110])::(ta++(4,[58])::(tc++(D++(F++[(4,lpE m)])))))(at':Int) :
  ∃ ks',F2 (RE λ _ _=>True) ([a,c]++dl++fl) ks'∧∀ l,Ans (λ f=>loopS f at' (if m then 13 else 12) (L++l)) (.inr (aa.mk (if m then 13 else 12) 0 nm ky v0 ks' at',l)):=by
 obtain ⟨KL,R,rfl,kl,hR⟩:=toks_app hL
 obtain ⟨n,R,rfl,n1,n2,hR⟩:=toks_cons hR
 obtain ⟨i,R,rfl,i1,i2,hR⟩:=toks_cons hR
 obtain ⟨A,R,rfl,hA,hR⟩:=toks_app hR
 obtain ⟨t,R,rfl,t1,t2,hR⟩:=toks_cons hR
 obtain ⟨C,R,rfl,hC,hR⟩:=toks_app hR
 simp only at n1 n2 i1 i2 t1 t2
 have hn5:n.fKind≠5:=by omega
 have hi5:i.fKind≠5:=by omega
 have ht5:t.fKind≠5:=by omega
 obtain ⟨a',pa,qa⟩:=ha A hA
 obtain ⟨c',pc,qc⟩:=hc C hC
 have stR:=lpD_st hD hF (m:=m)
 -- behind the second colon
 have tail:∃ xs,F2 (RE λ _ _=>True) (dl++fl) xs∧∀ (l:List TToken) (nk:Bytes×Bytes),Ans (λ f=>pb (if (if m then (13:Int) else 12)=13 then pb (needS true [61,62] (R++l)) λ _ l=>pb (exprS f true l) λ d l=>pok [a',c',d] l else pok [a',c'] (R++l)) λ ks l =>
   pb (if wdB true l [105,102] then pb (exprS f true (tl true l)) λ e l=>pok (ks++[e]) l else pok ks l) λ ks l =>
   pb (needS true (if (if m then (13:Int) else 12)=13 then [125] else [93]) l) λ _ l=>pok (aa.mk (if m then 13 else 12) 0 nk.1 nk.2 v0 ks at') l) (.inr (aa.mk (if m then 13 else 12) 0 nk.1 nk.2 v0 ([a',c']++xs) at',l)):=by
  rcases hD with ⟨rfl,rfl,rfl⟩ | ⟨td,d,rfl,rfl,rfl,hd⟩
  ·obtain ⟨fl',p,q⟩:=lp_f (m:=false) hF hR
   refine ⟨fl',p,λ l nk=>?_⟩
   exact ans_eq (λ f=>rfl) (q (λ ks=>aa.mk 12 0 nk.1 nk.2 v0 ks at') [a',c'] l)
  ·obtain ⟨u,R,rfl,u1,u2,hR⟩:=toks_cons hR
   obtain ⟨Dd,R,rfl,hDd,hR⟩:=toks_app hR
   simp only at u1 u2
   have hu:u.fKind≠5:=by omega
   obtain ⟨d',pd,qd⟩:=hd Dd hDd
   obtain ⟨fl',p,q⟩:=lp_f (m:=true) hF hR
   refine ⟨d'::fl',.cons pd p,λ l nk=>?_⟩
   simp only [List.cons_append,List.append_assoc,needS,sg_tok hu,tl_tok hu,u1,u2,decide_true,Bool.and_self,if_true,pb_ok]
   refine ans_pb (l:=R++l) (ans_pb (qd true _ (stt_stp (lpF_st (m:=true) hF) hR _ _)) ans_c) ?_
   exact ans_eq (λ f=>rfl) (q (λ ks=>aa.mk 13 0 nk.1 nk.2 v0 ks at') [a',c',d'] l)
 obtain ⟨xs,px,qx⟩:=tail
 refine ⟨[a',c']++xs,?_,λ l=>?_⟩
 ·rw [List.append_assoc]; exact .cons pa (.cons pc px)
 -- from the name on
 have mid:∀ (l:List TToken) (nk:Bytes×Bytes),Ans (λ f=>pb (keyS true [105,110] (i::(A++t::(C++(R++l))))) λ _ l=>pb (exprS f true l) λ a l=>pb (needS true [58] l) λ _ l=>pb (exprS f true l) λ c l =>
   pb (if (if m then (13:Int) else 12)=13 then pb (needS true [61,62] l) λ _ l=>pb (exprS f true l) λ d l=>pok [a,c,d] l else pok [a,c] l) λ ks l =>
   pb (if wdB true l [105,102] then pb (exprS f true (tl true l)) λ e l=>pok (ks++[e]) l else pok ks l) λ ks l =>
   pb (needS true (if (if m then (13:Int) else 12)=13 then [125] else [93]) l) λ _ l=>pok (aa.mk (if m then 13 else 12) 0 nk.1 nk.2 v0 ks at') l) (.inr (aa.mk (if m then 13 else 12) 0 nk.1 nk.2 v0 ([a',c']++xs) at',l)):=by
  intro l nk
  simp only [keyS,wd_tok hi5,tl_tok hi5,i1,i2,decide_true,Bool.and_self,if_true,pb_ok]
  refine ans_pb (qa true _ (stpE_sign t1 (by rw [t2]; decide) _ _)) ?_
  simp only [needS,sg_tok ht5,tl_tok ht5,t1,t2,decide_true,Bool.and_self,if_true,pb_ok]
  refine ans_pb (qc true _ (stt_stp stR hR _ _)) ?_
  exact qx l nk
 refine ans_s ?_
 rcases hK with ⟨rfl,rfl⟩ | ⟨hk,rfl⟩
 ·cases toks_nil kl
  simp only [loopS,List.nil_append,List.cons_append,List.append_assoc,varS,hd_tok hn5,tl_tok hn5,n1,n2,hn,and_self,if_true,pb_ok,sg_tok hi5,i1]
  exact ans_eq (λ f=>rfl) (mid l (nm,[]))
 ·obtain ⟨k,Q,rfl,k1,k2,kl⟩:=toks_cons kl
  obtain ⟨z,Q,rfl,z1,z2,kl⟩:=toks_cons kl
  cases toks_nil kl
  simp only at k1 k2 z1 z2
  have hk5:k.fKind≠5:=by omega
  have hz5:z.fKind≠5:=by omega
  simp only [loopS,List.nil_append,List.cons_append,List.append_assoc,varS,hd_tok hk5,tl_tok hk5,k1,k2,hk,and_self,if_true,pb_ok,sg_tok hz5,tl_tok hz5,z1,z2,hd_tok hn5,tl_tok hn5,n1,n2,hn,decide_true,Bool.and_self]
  exact mid l (nm,ky)
theorem c8_loop {m:Bool}{ky nm:Bytes}(hn:resB nm=false){ta tc K D F:List Tok}{a c:aa}{dl fl:List aa}(hK:LpK ky K)(ha:C0 ta a)(hc:C0 tc c)(hD:LpD m D dl)(hF:LpF F fl)(at':Int) :
  C8 ((4,if m then [123] else [91])::(1,[102,111,114])::(K++(1,nm)::(1,[105,110])::(ta++(4,[58])::(tc++(D++(F++[(4,lpE m)])))))) (aa.mk (if m then 13 else 12) 0 nm ky v0 ([a,c]++dl++fl) at'):=by
 refine c8_of (4,if m then [123] else [91]) _ rfl (by simp) (by cases m <;> decide) (by cases m <;> decide) λ t M h1 h2 h3=>?_
 obtain ⟨u,N,rfl,u1,u2,hN⟩:=toks_cons h3
 simp only at h1 h2 u1 u2
 have ht:t.fKind≠5:=by omega
 have hu:u.fKind≠5:=by omega
 obtain ⟨ks',p,q⟩:=lp_s (m:=m) hn hK ha hc hD hF hN t.fAt
 have hlen:([a,c]++dl++fl).length≤4000000000:=by
  rcases hD with ⟨-,-,rfl⟩ | ⟨_,_,-,-,rfl,-⟩ <;> rcases hF with ⟨-,rfl⟩ | ⟨_,_,-,rfl,-⟩ <;> simp
 refine ⟨aa.mk (if m then 13 else 12) 0 nm ky v0 ks' t.fAt,eqv_n p hlen,λ b l hc=>ans_s ?_⟩
 cases m
 ·simp only [primS,List.cons_append,hd_tok ht,tl_tok ht,sg_tok ht,wd_tok hu,tl_tok hu,h1,h2,u1,u2]
  exact ans_eq (λ f=>rfl) (q l)
 ·simp only [primS,List.cons_append,hd_tok ht,tl_tok ht,sg_tok ht,wd_tok hu,tl_tok hu,h1,h2,u1,u2]
  exact ans_eq (λ f=>rfl) (q l)
def PX (n D N:Nat)(e:aa)(t:Bytes):Prop:=(∃ b r,t=b::r∧b≠61)∧∃ ts,ts.length≤N∧Bgn ts∧CL n ts e∧∀ y,NoId y→Go D ts (t++y) y
theorem PX.mono {n D N E M:Nat}{e:aa}{t:Bytes}(h:PX n D N e t)(hD:D≤E)(hN:N≤M):PX n E M e t:=by
 obtain ⟨h0,ts,h1,h2,h3,h4⟩:=h
 exact ⟨h0,ts,by omega,h2,h3,λ y hy=>(h4 y hy).mono hD⟩
theorem PX.weak {n m D N:Nat}{e:aa}{t:Bytes}(hn:n≤m)(hm:m≤8)(h:PX m D N e t):PX n D N e t:=by
 obtain ⟨h0,ts,h1,h2,h3,h4⟩:=h
 obtain ⟨k,rfl⟩:∃ k,m=n+k:=⟨m - n,by omega⟩
 exact ⟨h0,ts,h1,h2,cl_weak hm h3,h4⟩
theorem noid_nil:NoId []:=λ z h=>by cases h
theorem noid_cons {b:UInt8}{y:Bytes}(h:idB b=false):NoId (b::y):=λ z hz=>by
 simp only [List.head?_cons,Option.mem_def,Option.some.injEq] at hz
 rw [← hz]; exact h
theorem px_whole {D N:Nat}{e:aa}{t:Bytes}(h:PX 0 D N e t)(hD:D≤32)(hN:N < 16384)(ht:t.length≤1152921504606846976)(base:Int):∃ e',EQV e e'∧Ans (λ f=>wholeS f t base) (.inr e'):=by
 obtain ⟨h0,ts,h1,h2,h3,h4⟩:=h
 have g:=h4 [] noid_nil
 rw [List.append_nil] at g
 obtain ⟨L,E,hs,hk,hL,hE⟩:=scan_whole hD (by omega) ht g
 obtain ⟨u,M,rfl,u1,u2,hM⟩:=toks_cons (L:=E) hE
 cases toks_nil hM
 have hL2:toks (L.map (mvT base))=ts:=by
  rw [← hL]; unfold toks; rw [List.map_map]; rfl
 obtain ⟨e',p,q⟩:=(h3:C0 ts e) _ hL2
 refine ⟨e',p,ans_s ?_⟩
 simp only at u1
 have u5:(mvT base u).fKind≠5:=by show u.fKind≠5; omega
 obtain ⟨F,q⟩:=q true [mvT base u] (stpE_other (by show u.fKind≠4; omega) u5 _ _)
 refine ⟨F,λ f hf=>?_⟩
 simp only [wholeS,hk,hs,List.map_append,List.map_cons,List.map_nil,q f hf,hd_tok u5]
 rw [if_neg (by decide),if_pos (show (mvT base u).fKind=6 from u1)]
theorem noid_brace (y:Bytes):NoId (125::y):=noid_cons (by decide)
theorem wrd_close (D:Nat)(y:Bytes):Wrd D (4,[125]) (125::y) y:=wrd_sign (w:=[]) (by decide) (sign_one (by decide) y)
theorem dol_pfx (r:Bytes)(h:r.head? = some 123):hasPrefix (36::r) [36,36,123]=false∧hasPrefix (36::r) [36,123]=true:=by
 cases r with
 | nil=>cases h
 | cons c r =>
  simp only [List.head?_cons,Option.some.injEq] at h
  subst h
  exact ⟨rfl,rfl⟩
theorem px_clos {D N:Nat}{e:aa}{t:Bytes}(h:PX 0 D N e t)(y:Bytes):closF 1 (t++125::y)=some (some y):=by
 obtain ⟨h0,ts,h1,h2,h3,h4⟩:=h
 have g:=(h4 (125::y) (noid_brace y)).c 0
 rw [g,closF_cons,if_neg (by decide),if_pos (by decide),if_pos rfl]
theorem px_int {D N:Nat}{e:aa}{t:Bytes}(h:PX 0 D N e t)(y:Bytes){k:Nat}(hk:k+D≤32):intF k 1 (t++125::y)=.inr y:=by
 obtain ⟨h0,ts,h1,h2,h3,h4⟩:=h
 have g:=(h4 (125::y) (noid_brace y)).i k 0 hk
 rw [g,(wrd_close D y).int hk,if_pos (by decide),if_pos rfl]
theorem tm_quo {v:Bytes}(hv:validD v=true)(hl:v.length≤4096)(a:Int):TM (quo v) (strE v a)∧∀ D,StrOk D (quo v):=by
 have hu:=valid_uv _ v (Nat.le_refl _) hv
 refine ⟨λ at'=>⟨strE v at',eqv_n .nil (Nat.zero_le _),ans_s ?_⟩,λ D=>⟨λ k y _=>?_,λ y=>?_⟩⟩
 ·have g:=quo_pc _ v [] (Nat.le_refl _) hu (by simp) (λ _=>rfl)
  obtain ⟨j,g⟩:=g.r
  refine ⟨j+1,λ f hf=>?_⟩
  obtain ⟨f,rfl⟩:∃ k,f=(k+1)+j:=⟨f - 1 - j,by omega⟩
  have g:=g (f+1) at' at' [] [] false (by simpa using hl)
  rw [List.append_nil] at g
  simp only [tmplS,g]
  rw [readS]
  have hc:chk (strE v at')=0:=by
   unfold chk
   rw [visE_eq,if_neg (by decide),if_neg (by decide)]
   have:nodeC (strE v at')=0:=by
    unfold nodeC
    rw [if_neg (by rw [show shpE (strE v at')=true from rfl]; decide),if_pos (show (strE v at').fKind=1 from rfl)]
    show valC (ab.mk 3 0 v [] [])=0
    simp [valC,hv,ab.fKind,ab.fNum,ab.fStr,ab.fItems,ab.fKeys]; omega
   rw [if_pos this]
   show (visL 1 2 []).1=0
   rw [visL]
  show some (finS (.inr (strE v at')))=_
  unfold finS
  simp only
  rw [if_pos hc]
 ·have g:=quo_pc _ v (34::y) (Nat.le_refl _) hu (by simp) (λ _=>rfl)
  rw [g.s k,srcF_cons,if_pos (by decide)]
 ·have g:=quo_pc _ v (34::y) (Nat.le_refl _) hu (by simp) (λ _=>rfl)
  rw [g.q,quotF_cons,if_pos (by decide)]
def sgL:List Bytes:=[[124,124],[38,38],[61,61],[33,61],[60],[60,61],[62],[62,61],[43],[45],[42],[47],[37],[61],[61,62]]
theorem sign_sp {s:Bytes}(h:s∈sgL)(y:Bytes):signP (s++32::y)=s:=by
 simp only [sgL,List.mem_cons,List.not_mem_nil,or_false] at h
 rcases h with rfl | rfl | rfl | rfl | rfl | rfl | rfl | rfl | rfl | rfl | rfl | rfl | rfl | rfl | rfl <;> rfl
theorem go_op {D:Nat}{s:Bytes}(h:s∈sgL)(y:Bytes):Go D [(4,s)] (32::(s++32::y)) y:=by
 have hs:=sign_sp h y
 have h2:∃ b w,s=b::w∧(blankB b=false∧b.toNat≠35∧eR b=false∧dZ b=false∧b.toNat≠10∧b.toNat≠34)∧∀ z∈b::w,nbr z=true:=by
  simp only [sgL,List.mem_cons,List.not_mem_nil,or_false] at h
  rcases h with rfl | rfl | rfl | rfl | rfl | rfl | rfl | rfl | rfl | rfl | rfl | rfl | rfl | rfl | rfl <;> exact ⟨_,_,rfl,by decide,by decide⟩
 obtain ⟨b,w,rfl,hb,hn⟩:=h2
 exact (Go.sp (D:=D)).trans ((go_sign hb hs hn).trans Go.sp)
theorem go_not {D:Nat}{y:Bytes}(h:∃ b r,y=b::r∧b≠61):Go D [(4,[33])] (33::y) y:=by
 obtain ⟨b,r,rfl,hb⟩:=h
 refine go_sign (w:=[]) (by decide) ?_ (by decide)
 have e:∀ t∈twos,hasPrefix ((33:UInt8)::([]++b::r)) t=false:=by
  intro t ht
  simp only [twos,List.mem_cons,List.not_mem_nil,or_false] at ht
  rcases ht with rfl | rfl | rfl | rfl | rfl | rfl | rfl
  ·rfl
  ·rfl
  ·have h61:((61:UInt8) == b)=false:=by simpa using λ e=>hb e.symm
   show ((33:UInt8) == 33&&((61:UInt8) == b&&true))=false
   rw [h61]; rfl
  ·rfl
  ·rfl
  ·rfl
  ·rfl
 have f:twos.find? (λ t=>hasPrefix ((33:UInt8)::([]++b::r)) t)=none:=List.find?_eq_none.2 λ t ht=>by rw [e t ht]; decide
 show signP ((33:UInt8)::([]++b::r))=[33]
 unfold signP
 rw [f]
 rfl
theorem hd_let {s:Bytes}(h:aV s=true):∃ b r,s=b::r∧b≠61:=by
 cases s with
 | nil=>cases h
 | cons b r =>
  refine ⟨b,r,rfl,?_⟩
  rintro rfl
  simp only [aV,Bool.and_eq_true] at h
  exact absurd h.1.2 (by decide)
theorem px_atom {D:Nat}{e:aa}{t:Bytes}{z:Tok}(h0:∃ b r,t=b::r∧b≠61)(hz:bgT z=true)(h:C8 [z] e)(hg:∀ y,NoId y→Go D [z] (t++y) y):PX 8 D 1 e t:=⟨h0,[z],Nat.le_refl _,⟨z,[],rfl,hz⟩,h,hg⟩
theorem px_name {s:Bytes}(hi:aV s=true)(hr:resB s=false)(a:Int)(D:Nat):PX 8 D 1 (aa.mk 3 0 s [] v0 [] a) s :=
 px_atom (hd_let hi) (by
  have:s≠[102,111,114]:=by rintro rfl; exact absurd hr (by decide)
  simp [bgT,this]) (c8_name hr a) λ y hy=>go_name hi hy
theorem px_word {s:Bytes}{v:ab}(a:Int)(D:Nat)(h:(s=[110,117,108,108]∧v=v0)∨(s=[116,114,117,101]∧v=ab.mk 1 1 [] [] [])∨(s=[102,97,108,115,101]∧v=ab.mk 1 0 [] [] [])):PX 8 D 1 (litE v a) s:=by
 have hi:aV s=true:=by rcases h with ⟨rfl,-⟩ | ⟨rfl,-⟩ | ⟨rfl,-⟩ <;> decide
 refine px_atom (hd_let hi) ?_ (c8_word a h) λ y hy=>go_name hi hy
 rcases h with ⟨rfl,-⟩ | ⟨rfl,-⟩ | ⟨rfl,-⟩ <;> decide
theorem px_num {s:Bytes}{n:Int}(h0:s≠[])(hs:∀ z∈s,dZ z=true)(h:pq s=(n,0))(a:Int)(D:Nat):PX 8 D 1 (litE (ab.mk 2 n [] [] []) a) s:=by
 refine px_atom ?_ (by simp [bgT]) (c8_num a h) λ y hy=>go_num h0 hs hy
 cases s with
 | nil=>exact absurd rfl h0
 | cons b r=>exact ⟨b,r,rfl,by rintro rfl; exact absurd (hs _ List.mem_cons_self) (by decide)⟩
theorem px_str {s:Bytes}{e:aa}{D:Nat}(h:TM s e)(hs:StrOk D s):PX 8 D 1 e (34::(s++[34])):=by
 refine px_atom ⟨_,_,rfl,by decide⟩ (by simp [bgT]) (c8_str h) λ y hy=>?_
 rw [List.cons_append,List.append_assoc]
 exact go_str hs
theorem px_paren {D N:Nat}{e:aa}{t:Bytes}(h:PX 0 D N e t):PX 8 D (N+2) e (40::(t++[41])):=by
 obtain ⟨-,ts,h1,h2,h3,h4⟩:=h
 refine ⟨⟨_,_,rfl,by decide⟩,(4,[40])::(ts++[(4,[41])]),by simp; omega,⟨_,_,rfl,by decide⟩,c8_paren h3,λ y hy=>?_⟩
 rw [List.cons_append,List.append_assoc]
 exact (go_one (D:=D) (b:=40) (by decide) (by decide) _).trans ((h4 (41::y) (noid_cons (by decide))).trans (go_one (by decide) (by decide) y))
theorem px_attr {D N:Nat}{e:aa}{t nm:Bytes}(h:PX 8 D N e t)(hi:aV nm=true)(a:Int):PX 8 D (N+2) (aa.mk 4 0 nm [] v0 [e] a) (t++46::nm):=by
 obtain ⟨⟨b,r,rfl,hb⟩,ts,h1,h2,h3,h4⟩:=h
 refine ⟨⟨b,_,rfl,hb⟩,ts++[(4,[46]),(1,nm)],by simp; omega,h2.app,c8_attr h3 nm a,λ y hy=>?_⟩
 rw [List.append_assoc,List.cons_append]
 exact (h4 _ (noid_cons (by decide))).trans ((go_one (D:=D) (b:=46) (by decide) (by decide) _).trans (go_name hi hy))
theorem px_idx {D N M:Nat}{e x:aa}{t u:Bytes}(h:PX 8 D N e t)(g:PX 0 D M x u)(a:Int):PX 8 D (N+M+2) (aa.mk 5 0 [] [] v0 [e,x] a) (t++91::(u++[93])):=by
 obtain ⟨⟨b,r,rfl,hb⟩,ts,h1,h2,h3,h4⟩:=h
 obtain ⟨-,us,g1,g2,g3,g4⟩:=g
 refine ⟨⟨b,_,rfl,hb⟩,ts++(4,[91])::(us++[(4,[93])]),by simp; omega,h2.app,c8_idx h3 g3 a,λ y hy=>?_⟩
 simp only [List.append_assoc,List.cons_append,List.nil_append]
 exact (h4 _ (noid_cons (by decide))).trans ((go_one (D:=D) (b:=91) (by decide) (by decide) _).trans ((g4 (93::y) (noid_cons (by decide))).trans (go_one (by decide) (by decide) y)))
theorem px_un {D N:Nat}{e:aa}{t s:Bytes}{o:Int}(h:PX 7 D N e t)(ho:s=[33]∧o=1∨s=[45]∧o=2)(a:Int):PX 7 D (N+1) (aa.mk 6 o [] [] v0 [e] a) (s++t):=by
 obtain ⟨h0,ts,h1,h2,h3,h4⟩:=h
 refine ⟨?_,(4,s)::ts,by simp; omega,?_,c7_un h3 ho a,λ y hy=>?_⟩
 ·rcases ho with ⟨rfl,-⟩ | ⟨rfl,-⟩ <;> exact ⟨_,_,rfl,by decide⟩
 ·rcases ho with ⟨rfl,-⟩ | ⟨rfl,-⟩ <;> exact ⟨_,_,rfl,by decide⟩
 ·rcases ho with ⟨rfl,-⟩ | ⟨rfl,-⟩
  ·have hb:∃ b r,t++y=b::r∧b≠61:=by
    obtain ⟨b,r,rfl,hb⟩:=h0
    exact ⟨b,_,rfl,hb⟩
   exact (go_not (D:=D) hb).trans (h4 y hy)
  ·exact (go_one (D:=D) (b:=45) (by decide) (by decide) _).trans (h4 y hy)
theorem ops_sg:∀ j:Fin 6,∀ p∈opsS j.val,p.1∈sgL:=by decide
theorem px_bin {j D N M:Nat}(hj:j≤5){s:Bytes}{o:Int}(ho:(s,o)∈opsS j){e x:aa}{t u:Bytes}(h:PX (j+1) D N e t)(g:PX (j+2) D M x u)(a:Int):PX (j+1) D (N+M+1) (aa.mk 7 o [] [] v0 [e,x] a) (t++32::(s++32::u)):=by
 obtain ⟨⟨b,r,rfl,hb⟩,ts,h1,h2,h3,h4⟩:=h
 obtain ⟨-,us,g1,g2,g3,g4⟩:=g
 have hs:s∈sgL:=ops_sg ⟨j,by omega⟩ (s,o) ho
 refine ⟨⟨b,_,rfl,hb⟩,ts++(4,s)::us,by simp; omega,h2.app,?_,λ y hy=>?_⟩
 ·have:=cb_bin hj ho (cl_cb hj h3) (cl_cf (by omega) g3) a
  match j,hj,this with
  | 0,_,h=>exact h
  | 1,_,h=>exact h
  | 2,_,h=>exact h
  | 3,_,h=>exact h
  | 4,_,h=>exact h
  | 5,_,h=>exact h
 ·simp only [List.append_assoc,List.cons_append]
  exact (h4 (32::(s++32::(u++y))) (noid_cons (by decide))).trans ((go_op (D:=D) hs _).trans (g4 y hy))
theorem px_cond {D N M K:Nat}{c x w:aa}{t u v:Bytes}(h:PX 1 D N c t)(g:PX 0 D M x u)(k:PX 0 D K w v)(a:Int):PX 0 D (N+M+K+2) (aa.mk 8 0 [] [] v0 [c,x,w] a) (t++32::63::32::(u++32::58::32::v)):=by
 obtain ⟨⟨b,r,rfl,hb⟩,ts,h1,h2,h3,h4⟩:=h
 obtain ⟨-,us,g1,g2,g3,g4⟩:=g
 obtain ⟨-,vs,k1,k2,k3,k4⟩:=k
 refine ⟨⟨b,_,rfl,hb⟩,ts++(4,[63])::(us++(4,[58])::vs),by simp; omega,h2.app,c0_cond (cb_cf (by omega) h3) g3 k3 a,λ y hy=>?_⟩
 simp only [List.append_assoc,List.cons_append]
 refine (h4 _ (noid_cons (by decide))).trans ((Go.sp (D:=D)).trans ((go_one (D:=D) (b:=63) (by decide) (by decide) _).trans ((Go.sp (D:=D)).trans ?_)))
 exact (g4 _ (noid_cons (by decide))).trans ((Go.sp (D:=D)).trans ((go_one (D:=D) (b:=58) (by decide) (by decide) _).trans ((Go.sp (D:=D)).trans (k4 y hy))))
def PI (z:UInt8)(D N:Nat)(ks:List aa)(t:Bytes):Prop:=∃ ts,ts.length≤N∧CI [z] ts ks∧∀ y,Go D ts (t++z::y) y
def clZ (z:UInt8):Bool:=decide (z=41)||decide (z=93)
theorem clZ_mem {z:UInt8}(h:clZ z=true):[z]∈([[41],[93],[125]]:List Bytes)∧one1 z=true∧(z≠123∧z≠125)∧idB z=false:=by
 simp only [clZ,Bool.or_eq_true,decide_eq_true_eq] at h
 rcases h with rfl | rfl <;> decide
theorem PI.mono {z:UInt8}{D N M:Nat}{ks:List aa}{t:Bytes}(h:PI z D N ks t)(hN:N≤M):PI z D M ks t:=by
 obtain ⟨ts,h1,h2,h3⟩:=h
 exact ⟨ts,by omega,h2,h3⟩
theorem pi_nil {z:UInt8}(hz:clZ z=true)(D:Nat):PI z D 1 [] []:=by
 obtain ⟨h1,h2,h3,h4⟩:=clZ_mem hz
 exact ⟨[(4,[z])],Nat.le_refl _,ci_nil [z],λ y=>go_one h2 h3 y⟩
theorem pi_cons {z:UInt8}(hz:clZ z=true){D N M:Nat}{x:aa}{ks:List aa}{t u:Bytes}(h:PX 0 D N x t)(g:PI z D M ks u):PI z D (N+M+1) (x::ks) (t++44::32::u):=by
 obtain ⟨-,ts,h1,h2,h3,h4⟩:=h
 obtain ⟨us,g1,g2,g3⟩:=g
 refine ⟨ts++(4,[44])::us,by simp; omega,ci_cons (clZ_mem hz).1 h2 h3 g2,λ y=>?_⟩
 simp only [List.append_assoc,List.cons_append]
 exact (h4 _ (noid_cons (by decide))).trans ((go_one (D:=D) (b:=44) (by decide) (by decide) _).trans ((Go.sp (D:=D)).trans (g3 y)))
theorem pi_last {z:UInt8}(hz:clZ z=true){D N:Nat}{x:aa}{t:Bytes}(h:PX 0 D N x t):PI z D (N+1) [x] t:=by
 obtain ⟨-,ts,h1,h2,h3,h4⟩:=h
 obtain ⟨z1,z2,z3,z4⟩:=clZ_mem hz
 refine ⟨ts++[(4,[z])],by simp; omega,ci_last z1 h2 h3,λ y=>?_⟩
 exact (h4 _ (noid_cons z4)).trans (go_one z2 z3 y)
theorem px_call {D N:Nat}{s t:Bytes}(hi:aV s=true)(hr:resB s=false){ks:List aa}(h:PI 41 D N ks t)(hk:ks.length≤4000000000)(a:Int):PX 8 D (N+2) (aa.mk 9 0 s [] v0 ks a) (s++40::(t++[41])):=by
 obtain ⟨ts,h1,h2,h3⟩:=h
 obtain ⟨b,r,rfl,hb⟩:=hd_let hi
 refine ⟨⟨b,_,rfl,hb⟩,(1,b::r)::(4,[40])::ts,by simp; omega,⟨_,_,rfl,?_⟩,c8_call hr h2 hk a,λ y hy=>?_⟩
 ·have:b::r≠[102,111,114]:=by intro e; rw [e] at hr; exact absurd hr (by decide)
  simp [bgT,this]
 ·simp only [List.append_assoc,List.cons_append,List.nil_append]
  exact (go_name (D:=D) (t:=b::r) (y:=40::(t++41::y)) hi (noid_cons (by decide))).trans ((go_one (D:=D) (b:=40) (by decide) (by decide) _).trans (h3 y))
theorem px_list {D N:Nat}{t:Bytes}{ks:List aa}(h:PI 93 D N ks t)(hk:ks.length≤4000000000)(a:Int):PX 8 D (N+1) (aa.mk 10 0 [] [] v0 ks a) (91::(t++[93])):=by
 obtain ⟨ts,h1,h2,h3⟩:=h
 refine ⟨⟨_,_,rfl,by decide⟩,(4,[91])::ts,by simp; omega,⟨_,_,rfl,by decide⟩,c8_list h2 hk a,λ y hy=>?_⟩
 simp only [List.append_assoc,List.cons_append,List.nil_append]
 exact (go_one (D:=D) (b:=91) (by decide) (by decide) _).trans (h3 y)
def PK (D N:Nat)(k:aa)(t:Bytes):Prop:=∃ ts,ts.length≤N∧CK ts k∧∀ y,NoId y→Go D ts (t++y) y
theorem pk_name {s:Bytes}(hi:aV s=true)(hs:s≠[102,111,114])(a:Int)(D:Nat):PK D 1 (strE s a) s:=⟨[(1,s)],Nat.le_refl _,ck_name hs a,λ _y hy=>go_name hi hy⟩
theorem pk_str {s:Bytes}{e:aa}{D:Nat}(h:TM s e)(hs:StrOk D s):PK D 1 e (34::(s++[34])):=by
 refine ⟨[(3,s)],Nat.le_refl _,ck_str h,λ y hy=>?_⟩
 rw [List.cons_append,List.append_assoc]
 exact go_str hs
theorem pk_paren {D N:Nat}{e:aa}{t:Bytes}(h:PX 0 D N e t):PK D (N+2) e (40::(t++[41])):=by
 obtain ⟨-,ts,h1,h2,h3,h4⟩:=h
 refine ⟨(4,[40])::(ts++[(4,[41])]),by simp; omega,ck_paren h3,λ y hy=>?_⟩
 rw [List.cons_append,List.append_assoc]
 exact (go_one (D:=D) (b:=40) (by decide) (by decide) _).trans ((h4 (41::y) (noid_cons (by decide))).trans (go_one (by decide) (by decide) y))
def PN (D N:Nat)(ks:List aa)(t:Bytes):Prop:=∃ ts,ts.length≤N∧CN (ts++[(4,[125])]) ks∧∀ y,Go D ts (t++125::y) (125::y)
theorem PN.mono {D N M:Nat}{ks:List aa}{t:Bytes}(h:PN D N ks t)(hN:N≤M):PN D M ks t:=by
 obtain ⟨ts,h1,h2,h3⟩:=h
 exact ⟨ts,by omega,h2,h3⟩
theorem pn_nil (D:Nat):PN D 0 [] []:=⟨[],Nat.le_refl _,cn_nil,λ _=>Go.refl⟩
theorem go_eq {D:Nat}(y:Bytes):Go D [(4,[61])] (32::61::32::y) y:=go_op (s:=[61]) (by decide) y
theorem pn_cons {D N M K:Nat}{k x:aa}{ks:List aa}{t u v:Bytes}(h:PK D N k t)(g:PX 0 D M x u)(n:PN D K ks v):PN D (N+M+K+2) (k::x::ks) (t++32::61::32::(u++44::32::v)):=by
 obtain ⟨ts,h1,h2,h3⟩:=h
 obtain ⟨-,us,g1,g2,g3,g4⟩:=g
 obtain ⟨vs,n1,n2,n3⟩:=n
 refine ⟨ts++(4,[61])::(us++(4,[44])::vs),by simp; omega,?_,λ y=>?_⟩
 ·simpa only [List.append_assoc,List.cons_append] using cn_cons h2 g3 n2
 ·simp only [List.append_assoc,List.cons_append]
  exact (h3 _ (noid_cons (by decide))).trans ((go_eq (D:=D) _).trans ((g4 _ (noid_cons (by decide))).trans ((go_one (D:=D) (b:=44) (by decide) (by decide) _).trans ((Go.sp (D:=D)).trans (n3 y)))))
theorem pn_last {D N M:Nat}{k x:aa}{t u:Bytes}(h:PK D N k t)(g:PX 0 D M x u):PN D (N+M+1) [k,x] (t++32::61::32::u):=by
 obtain ⟨ts,h1,h2,h3⟩:=h
 obtain ⟨-,us,g1,g2,g3,g4⟩:=g
 refine ⟨ts++(4,[61])::us,by simp; omega,?_,λ y=>?_⟩
 ·simpa only [List.append_assoc,List.cons_append] using cn_last h2 g3
 ·simp only [List.append_assoc,List.cons_append]
  exact (h3 _ (noid_cons (by decide))).trans ((go_eq (D:=D) _).trans (g4 _ (noid_cons (by decide))))
theorem px_map {D N:Nat}{t:Bytes}{ks:List aa}(h:PN D N ks t)(hk:ks.length≤4000000000)(a:Int):PX 8 D (N+2) (aa.mk 11 0 [] [] v0 ks a) (123::(t++[125])):=by
 obtain ⟨ts,h1,h2,h3⟩:=h
 refine ⟨⟨_,_,rfl,by decide⟩,(4,[123])::(ts++[(4,[125])]),by simp; omega,⟨_,_,rfl,by decide⟩,c8_map h2 hk a,λ y hy=>?_⟩
 simp only [List.append_assoc,List.cons_append,List.nil_append]
 exact go_brace (h3 y)
def TkK (K:Bytes)(ky:Bytes):Prop:=(ky=[]∧K=[])∨(aV ky=true∧resB ky=false∧K=ky++[44,32])
def TkD (m:Bool)(D N:Nat)(dl:List aa)(t:Bytes):Prop:=(m=false∧t=[]∧dl=[])∨∃ u x,m=true∧t=32::61::62::32::u∧dl=[x]∧PX 0 D N x u
def TkF (D N:Nat)(fl:List aa)(t:Bytes):Prop:=(t=[]∧fl=[])∨∃ u x,t=32::105::102::32::u∧fl=[x]∧PX 0 D N x u
theorem noid_app {t y:Bytes}(h:t=[]∨∃ b r,t=b::r∧idB b=false)(hy:NoId y):NoId (t++y):=by
 rcases h with rfl | ⟨b,r,rfl,hb⟩
 ·exact hy
 ·exact noid_cons hb
theorem tkD_noid {m:Bool}{D N:Nat}{dl:List aa}{t:Bytes}(h:TkD m D N dl t):t=[]∨∃ b r,t=b::r∧idB b=false:=by
 rcases h with ⟨-,rfl,-⟩ | ⟨u,x,-,rfl,-,-⟩
 ·exact .inl rfl
 ·exact .inr ⟨_,_,rfl,by decide⟩
theorem tkF_noid {D N:Nat}{fl:List aa}{t:Bytes}(h:TkF D N fl t):t=[]∨∃ b r,t=b::r∧idB b=false:=by
 rcases h with ⟨rfl,-⟩ | ⟨u,x,rfl,-,-⟩
 ·exact .inl rfl
 ·exact .inr ⟨_,_,rfl,by decide⟩
theorem lp_go {m:Bool}{D N1 N2 N3 N4:Nat}{ky nm K ta tc td tf:Bytes}{a c:aa}{dl fl:List aa}(hnm:aV nm=true)(hK:TkK K ky)(ha:PX 0 D N1 a ta)(hc:PX 0 D N2 c tc)(hd:TkD m D N3 dl td)(hf:TkF D N4 fl tf) :
  ∃ KT A C DT FT,LpK ky KT∧C0 A a∧C0 C c∧LpD m DT dl∧LpF FT fl∧KT.length≤2∧A.length≤N1∧C.length≤N2∧DT.length≤N3+1∧FT.length≤N4+1 ∧
   ∀ y,NoId y→Go D ((1,[102,111,114])::(KT++(1,nm)::(1,[105,110])::(A++(4,[58])::(C++(DT++FT))))) (102::111::114::32::(K++(nm++32::105::110::32::(ta++32::58::32::(tc++(td++(tf++y))))))) y:=by
 obtain ⟨-,A,a1,a2,a3,a4⟩:=ha
 obtain ⟨-,C,c1,c2,c3,c4⟩:=hc
 have k:∃ KT:List Tok,LpK ky KT∧KT.length≤2∧∀ y,Go D KT (K++y) y:=by
  rcases hK with ⟨rfl,rfl⟩ | ⟨h1,h2,rfl⟩
  ·exact ⟨[],.inl ⟨rfl,rfl⟩,by simp,λ y=>Go.refl⟩
  ·refine ⟨[(1,ky),(4,[44])],.inr ⟨h2,rfl⟩,by simp,λ y=>?_⟩
   rw [List.append_assoc]
   exact (go_name (D:=D) h1 (noid_cons (by decide))).trans ((go_one (D:=D) (b:=44) (by decide) (by decide) _).trans Go.sp)
 have d:∃ DT:List Tok,LpD m DT dl∧DT.length≤N3+1∧∀ y,NoId y→Go D DT (td++y) y:=by
  rcases hd with ⟨rfl,rfl,rfl⟩ | ⟨u,x,rfl,rfl,rfl,-,U,u1,u2,u3,u4⟩
  ·exact ⟨[],.inl ⟨rfl,rfl,rfl⟩,by simp,λ y _=>Go.refl⟩
  ·exact ⟨(4,[61,62])::U,.inr ⟨U,x,rfl,rfl,rfl,u3⟩,by simp; omega,λ y hy=>(go_op (D:=D) (s:=[61,62]) (by decide) (u++y)).trans (u4 y hy)⟩
 have f:∃ FT:List Tok,LpF FT fl∧FT.length≤N4+1∧∀ y,NoId y→Go D FT (tf++y) y:=by
  rcases hf with ⟨rfl,rfl⟩ | ⟨u,x,rfl,rfl,-,U,u1,u2,u3,u4⟩
  ·exact ⟨[],.inl ⟨rfl,rfl⟩,by simp,λ y _=>Go.refl⟩
  ·exact ⟨(1,[105,102])::U,.inr ⟨U,x,rfl,rfl,u3⟩,by simp; omega,λ y hy=>(Go.sp (D:=D)).trans ((go_name (D:=D) (t:=[105,102]) (y:=32::(u++y)) (by decide) (noid_cons (by decide))).trans ((Go.sp (D:=D)).trans (u4 y hy)))⟩
 obtain ⟨KT,k1,k2,k3⟩:=k
 obtain ⟨DT,d1,d2,d3⟩:=d
 obtain ⟨FT,f1,f2,f3⟩:=f
 refine ⟨KT,A,C,DT,FT,k1,a3,c3,d1,f1,k2,a1,c1,d2,f2,λ y hy=>?_⟩
 have nf:=noid_app (tkF_noid hf) hy
 have nd:=noid_app (tkD_noid hd) nf
 refine (go_name (D:=D) (t:=[102,111,114]) (y:=32::(K++(nm++32::105::110::32::(ta++32::58::32::(tc++(td++(tf++y))))))) (by decide) (noid_cons (by decide))).trans ((Go.sp (D:=D)).trans ((k3 _).trans ?_))
 refine (go_name (D:=D) (t:=nm) hnm (noid_cons (by decide))).trans ((Go.sp (D:=D)).trans ((go_name (D:=D) (t:=[105,110]) (y:=32::(ta++32::58::32::(tc++(td++(tf++y))))) (by decide) (noid_cons (by decide))).trans ((Go.sp (D:=D)).trans ?_)))
 refine (a4 _ (noid_cons (by decide))).trans ((Go.sp (D:=D)).trans ((go_one (D:=D) (b:=58) (by decide) (by decide) _).trans ((Go.sp (D:=D)).trans ?_)))
 exact (c4 _ nd).trans ((d3 _ nf).trans (f3 y hy))
theorem px_loop {m:Bool}{D N1 N2 N3 N4:Nat}{ky nm K ta tc td tf:Bytes}{a c:aa}{dl fl:List aa}(hnm:aV nm=true)(hr:resB nm=false)(hK:TkK K ky)(ha:PX 0 D N1 a ta)(hc:PX 0 D N2 c tc)(hd:TkD m D N3 dl td)(hf:TkF D N4 fl tf)(at':Int) :
  PX 8 D (N1+N2+N3+N4+10) (aa.mk (if m then 13 else 12) 0 nm ky v0 ([a,c]++dl++fl) at') ((if m then 123 else 91)::102::111::114::32::(K++(nm++32::105::110::32::(ta++32::58::32::(tc++(td++(tf++[if m then 125 else 93]))))))):=by
 obtain ⟨KT,A,C,DT,FT,h1,h2,h3,h4,h5,l1,l2,l3,l4,l5,g⟩:=lp_go hnm hK ha hc hd hf
 refine ⟨⟨_,_,rfl,by cases m <;> decide⟩,_,?_,⟨_,_,rfl,by cases m <;> simp [bgT]⟩,c8_loop (m:=m) hr h1 h2 h3 h4 h5 at',λ y hy=>?_⟩
 ·simp; omega
 ·simp only [List.append_assoc,List.cons_append,List.nil_append]
  cases m with
  | false =>
   have:=(go_one (D:=D) (b:=91) (by decide) (by decide) (102::111::114::32::(K++(nm++32::105::110::32::(ta++32::58::32::(tc++(td++(tf++93::y)))))))).trans ((g (93::y) (noid_cons (by decide))).trans (go_one (D:=D) (b:=93) (by decide) (by decide) y))
   simpa [lpE] using this
  | true =>
   have:=go_brace (g (125::y) (noid_cons (by decide)))
   simpa [lpE] using this
inductive LitV:ab→Prop where
 | null:LitV v0
 | bool (n:Int) (h:n=0∨n=1):LitV (ab.mk 1 n [] [] [])
 | num (n:Int) (h0:0≤n) (h:n≤eN):LitV (ab.mk 2 n [] [] [])
 | str (s:Bytes) (h:validD s=true) (hl:s.length≤4096):LitV (ab.mk 3 0 s [] [])
inductive Shp:aa→Prop where
 | lit (v:ab) (a:Int) (h:LitV v):Shp (litE v a)
 | tmpl (l:List aa) (a:Int) (h:l≠[]):Shp (aa.mk 2 0 [] [] v0 l a)
 | name (s:Bytes) (a:Int) (hi:aV s=true) (hr:resB s=false):Shp (aa.mk 3 0 s [] v0 [] a)
 | attr (s:Bytes) (x:aa) (a:Int) (hi:aV s=true):Shp (aa.mk 4 0 s [] v0 [x] a)
 | idx (x y:aa) (a:Int):Shp (aa.mk 5 0 [] [] v0 [x,y] a)
 | un (o:Int) (x:aa) (a:Int) (h:o=1∨o=2):Shp (aa.mk 6 o [] [] v0 [x] a)
 | bin (o:Int) (x y:aa) (a:Int) (h:3≤o∧o≤15):Shp (aa.mk 7 o [] [] v0 [x,y] a)
 | cond (x y z:aa) (a:Int):Shp (aa.mk 8 0 [] [] v0 [x,y,z] a)
 | call (s:Bytes) (l:List aa) (a:Int) (hi:aV s=true) (hr:resB s=false):Shp (aa.mk 9 0 s [] v0 l a)
 | list (l:List aa) (a:Int):Shp (aa.mk 10 0 [] [] v0 l a)
 | map (l:List aa) (a:Int) (h:l.length % 2=0):Shp (aa.mk 11 0 [] [] v0 l a)
 | loop (m:Bool) (s y:Bytes) (x c:aa) (dl fl:List aa) (a:Int) (hi:aV s=true) (hr:resB s=false) (hy:y=[]∨aV y=true∧resB y=false) (hd:m=false∧dl=[]∨m=true∧∃ d,dl=[d]) (hf:fl=[]∨∃ f,fl=[f]):Shp (aa.mk (if m then 13 else 12) 0 s y v0 ([x,c]++dl++fl) a)
def sgnL:List Bytes:=[[],[33],[45],[124,124],[38,38],[61,61],[33,61],[60],[60,61],[62],[62,61],[43],[45],[42],[47],[37]]
def opX (o:Int):Bytes:=lat sgnL o
def lvX (e:aa):Nat:=if e.fKind=8 then 0 else if e.fKind=6 then 7 else if e.fKind≠7 then 8
 else if e.fOp=3 then 1 else if e.fOp=4 then 2 else if e.fOp=5∨e.fOp=6 then 3 else if e.fOp=7∨e.fOp=8∨e.fOp=9∨e.fOp=10 then 4 else if e.fOp=11∨e.fOp=12 then 5 else 6
def prt (all:Bool)(n:Nat)(x:aa)(t:Bytes):Bytes:=if all=true∨lvX x < n then 40::(t++[41]) else t
def litX (v:ab):Bytes :=
 if v.fKind=1 then (if v.fNum=1 then [116,114,117,101] else [102,97,108,115,101])
 else if v.fKind=2 then itoa v.fNum
 else if v.fKind=3 then 34::(quo v.fStr++[34])
 else [110,117,108,108]
def itmX (all:Bool):List aa→List Bytes→Bytes
 | x::l,t::ts=>prt all 0 x t++44::32::itmX all l ts
 | _,_=>[]
def pX (all:Bool)(n:Nat)(ks:List aa)(ts:List Bytes)(i:Nat):Bytes:=prt all n (ks.getD i e0) (ts.getD i [])
def lpX (all:Bool)(m:Bool)(nm ky:Bytes)(ks:List aa)(ts:List Bytes):Bytes :=
 102::111::114::32::((if ky=[] then [] else ky++[44,32])++(nm++32::105::110::32::(pX all 0 ks ts 0++32::58::32::(pX all 0 ks ts 1 ++
  ((if m then 32::61::62::32::pX all 0 ks ts 2 else [])++((if (if m then 3 else 2) < ks.length then 32::105::102::32::pX all 0 ks ts (if m then 3 else 2) else [])++[if m then 125 else 93]))))))
inductive VE:Nat→aa→Prop where
 | mk {lv:Nat} {e:aa} (h:lv≤32) (s:Shp e) (c:chk e=0) (b:e.fKids.length≤4000000000) (k:∀ x∈e.fKids,VE (lv+1) x):VE lv e
theorem px_prt {all:Bool}{n D N:Nat}{x:aa}{t:Bytes}(hn:n≤8)(h:PX (lvX x) D N x t)(hl:lvX x≤8):PX n D (N+2) x (prt all n x t):=by
 unfold prt
 split
 ·exact (px_paren (h.weak (Nat.zero_le _) hl)).weak hn (by omega)
 ·rename_i q
  exact (h.weak (by omega) hl).mono (Nat.le_refl _) (by omega)
theorem lvX_le (e:aa):lvX e≤8:=by
 unfold lvX
 repeat' split
 all_goals omega
theorem itoa_digs {v:Int}(h0:0≤v):itoa v≠[]∧∀ z∈itoa v,dZ z=true:=by
 obtain ⟨u,rfl⟩:∃ u:Nat,v=u:=⟨v.toNat,by omega⟩
 have e:itoa (u:Int)=decDigits u:=by unfold itoa; rw [if_neg (by omega)]; simp
 obtain ⟨a1,a2,a3,a4,a5⟩:=p6 (u+1) u (by omega)
 rw [e]
 exact ⟨a3,λ z hz=>by rw [List.all_eq_true] at a2; exact a2 z hz⟩
theorem px_lit {v:ab}(h:LitV v)(a:Int)(D:Nat):PX 8 D 1 (litE v a) (litX v):=by
 cases h with
 | null=>exact px_word a D (.inl ⟨rfl,rfl⟩)
 | bool n hn =>
  rcases hn with rfl | rfl
  ·exact px_word a D (.inr (.inr ⟨rfl,rfl⟩))
  ·exact px_word a D (.inr (.inl ⟨rfl,rfl⟩))
 | num n h0 h1=>exact px_num (itoa_digs h0).1 (itoa_digs h0).2 (rr n h0 h1) a D
 | str s hs hl=>exact px_str (tm_quo hs hl a).1 ((tm_quo hs hl a).2 D)
theorem prt_len (all:Bool)(n:Nat)(x:aa)(t:Bytes):t.length≤(prt all n x t).length:=by
 unfold prt
 split
 ·simp; omega
 ·exact Nat.le_refl _
theorem itmX_len {all:Bool}{x:aa}{f:aa→Bytes}:∀ {l:List aa},x∈l→(f x).length≤(itmX all l (l.map f)).length
 | y::l,h=>by
  simp only [List.map_cons,itmX,List.length_cons,List.length_append]
  rcases List.mem_cons.1 h with rfl | h
  ·have:=prt_len all 0 x (f x); omega
  ·have:=itmX_len (all:=all) (f:=f) h; omega
theorem nodesE_pos (e:aa):1≤nodesE e:=by rw [nodesE_eq]; omega
theorem nodes_mem {x:aa}:∀ {l:List aa},x∈l→nodesE x≤nodesL l
 | y::l,h=>by
  simp only [nodesL]
  rcases List.mem_cons.1 h with rfl | h
  ·omega
  ·have:=nodes_mem h; omega
theorem sum_w (l:List aa):(l.map λ x=>20*nodesE x - 5+3).sum≤20*nodesL l:=by
 induction l with
 | nil=>simp
 | cons x l ih =>
  have:=nodesE_pos x
  simp only [List.map_cons,List.sum_cons,nodesL]; omega
theorem px_any {n D N M:Nat}{e:aa}{t:Bytes}(h:PX n D N e t)(hN:N≤M):PX n D M e t:=h.mono (Nat.le_refl _) hN
theorem ops_at:∀ o:Fin 16,3≤o.val→∃ j,j≤5∧lvX (aa.mk 7 (o.val:Int) [] [] v0 [] 0)=j+1∧(opX (o.val:Int),(o.val:Int))∈opsS j:=by decide +kernel
theorem uv_dollar {v:Bytes}(h:UV v):∀ w,v=w++[36]→UV w:=by
 induction h with
 | nil=>intro w e; cases w <;> cases e
 | @lo b r hb hr ih =>
  intro w e
  cases w with
  | nil=>exact .nil
  | cons c w =>
   rw [List.cons_append] at e
   injection e with e1 e2
   subst e1
   exact .lo hb (ih w e2)
 | @hi u r c hu ha hd hc hn hr ih =>
  intro w e
  rcases List.eq_nil_or_concat r with rfl | ⟨r',z,rfl⟩
  ·rw [List.append_nil] at e
   have:=ha 36 (by rw [e]; simp)
   exact absurd this (by decide)
  ·rw [List.concat_eq_append] at e ih
   rw [← List.append_assoc] at e
   obtain ⟨e1,e2⟩:=List.append_inj' e rfl
   have hz:z=36:=by injection e2
   subst hz
   rw [← e1]
   exact .hi hu ha hd hc hn (ih r' rfl)
theorem pc_u24 (y:Bytes):Pc [36] (92::117::123::50::52::125::y) y:=by
 have hp:=src_plain y [123,50,52,125] (by decide)
 have hd:=decodeL_ascii 117 (123::50::52::125::y) (by decide)
 refine ⟨λ k=>?_,?_,by simp only [List.length_cons]; omega,1,λ f frm pos text parts opn hl=>?_⟩
 ·rw [srcF_cons,if_neg (by decide),if_neg (by rw [pfx36 (by decide)]; decide),if_neg (by rw [pfx36 (by decide)]; decide),if_pos (by decide)]
  simp only [hd]
  rw [if_neg (by unfold km; decide)]
  exact hp.1 k
 ·rw [quotF_cons,if_neg (by decide),if_pos (by decide)]
  exact hp.2
 ·have hi:itemS (92::117::123::50::52::125::y)=.inr ([36],6):=by
   have hx:mA (50::52::125::y)=(36,3,0):=oL 36 (by decide) y
   have hr:kg (117::123::50::52::125::y)=(36,5,0):=by
    rw [jQ,if_neg (by decide),if_neg (by decide),if_neg (by decide),if_neg (by decide),if_pos (by decide)]
    simp only
    rw [if_pos (by decide),hx]; rfl
   rw [item_cons,if_pos (by decide),hr,if_pos rfl]; rfl
  have e1:(92::117::123::50::52::125::y).length - y.length=6:=by simp only [List.length_cons]; omega
  rw [rd_cons,if_neg (by rw [pfx36 (by decide)]; decide),if_neg (by rw [pfx36 (by decide)]; decide),hi]
  simp only
  rw [if_neg (by simp only [List.length_cons,List.length_nil] at hl ⊢; omega),e1]
  rfl
def partF (v:Bytes)(last:Bool):Bytes:=if last=false∧v.getLast? = some 36 then quo v.dropLast++[92,117,123,50,52,125] else quo v
theorem pc_part {v:Bytes}(hv:UV v)(last:Bool){y:Bytes}(hy:y.head?≠some 123)(hl:last=true→hasPrefix y [36,123]=false):Pc v (partF v last++y) y:=by
 unfold partF
 split
 ·rename_i q
  obtain ⟨w,rfl⟩:∃ w,v=w++[36]:=by
   rcases List.eq_nil_or_concat v with rfl | ⟨w,z,rfl⟩
   ·simp at q
   ·have:=q.2
    rw [List.concat_eq_append] at this ⊢
    simp at this
    subst this; exact ⟨w,rfl⟩
  have hw:=uv_dollar hv w rfl
  have e:(w++[36]).dropLast=w:=by simp
  rw [e,List.append_assoc]
  exact (quo_pc _ w (92::117::123::50::52::125::y) (Nat.le_refl _) hw (by simp) (λ _=>rfl)).trans (pc_u24 y)
 ·rename_i q
  refine quo_pc _ v y (Nat.le_refl _) hv hy λ h=>?_
  cases last with
  | true=>exact hl rfl
  | false=>exact absurd ⟨rfl,h⟩ q
def isPlF (e:aa):Bool:=decide (e.fKind=1)&&decide (e.fValue.fKind=3)&&!decide (e.fValue.fStr=[])
def tmF (big:Bool):List (aa×Bytes)→Bool→Bytes
 | [],_=>[]
 | p::r,b=>if (isPlF p.1&&!b&&big)=true then partF p.1.fValue.fStr r.isEmpty++tmF big r true else 36::123::(p.2++125::tmF big r false)
theorem tmF_next (big:Bool)(r:List (aa×Bytes))(y:Bytes):(r=[]∧tmF big r true++y=y)∨(r≠[]∧∃ z,tmF big r true++y=36::123::z):=by
 cases r with
 | nil=>exact .inl ⟨rfl,rfl⟩
 | cons p r =>
  refine .inr ⟨by simp,p.2++125::tmF big r false++y,?_⟩
  simp [tmF]
def PtOk (D N:Nat)(p:aa×Bytes):Prop:=PX 0 D N p.1 p.2∧(isPlF p.1=true→p.1=strE p.1.fValue.fStr p.1.fAt∧UV p.1.fValue.fStr∧p.1.fValue.fStr.length≤4096)
theorem tmF_str {D N:Nat}(big:Bool):∀ (l:List (aa×Bytes)) (b:Bool),(∀ p∈l,PtOk D N p)→StrOk (D+1) (tmF big l b)
 | [],_,_=>⟨λ k y _=>by rw [show tmF big [] _=[] from rfl,List.nil_append,srcF_cons,if_pos (by decide)],λ y=>by rw [show tmF big [] _=[] from rfl,List.nil_append,quotF_cons,if_pos (by decide)]⟩
 | p::l,b,h=>by
  have hp:=h p List.mem_cons_self
  have hl:∀ q∈l,PtOk D N q:=λ q hq=>h q (List.mem_cons_of_mem _ hq)
  unfold tmF
  by_cases q:(isPlF p.1&&!b&&big)=true
  ·rw [if_pos q]
   obtain ⟨-,hv,-⟩:=hp.2 (by simp only [Bool.and_eq_true] at q; exact q.1.1)
   obtain ⟨i1,i2⟩:=tmF_str big l true hl
   have hpc:∀ y,Pc p.1.fValue.fStr (partF p.1.fValue.fStr l.isEmpty++(tmF big l true++34::y)) (tmF big l true++34::y):=λ y=>by
    refine pc_part hv _ ?_ ?_
    ·rcases tmF_next big l (34::y) with ⟨rfl,e⟩ | ⟨-,z,e⟩ <;> rw [e] <;> simp
    ·intro hl
     rcases tmF_next big l (34::y) with ⟨rfl,e⟩ | ⟨hn,-⟩
     ·rw [e]; rfl
     ·cases l with
      | nil=>exact absurd rfl hn
      | cons=>cases hl
   refine ⟨λ k y hk=>?_,λ y=>?_⟩
   ·rw [List.append_assoc,(hpc y).s k]; exact i1 k y hk
   ·rw [List.append_assoc,(hpc y).q]; exact i2 y
  ·rw [if_neg q]
   obtain ⟨i1,i2⟩:=tmF_str big l false hl
   refine ⟨λ k y hk=>?_,λ y=>?_⟩
   ·obtain ⟨d1,d2⟩:=dol_pfx (123::(p.2++125::tmF big l false++34::y)) rfl
    simp only [List.cons_append,List.append_assoc] at d1 d2 ⊢
    rw [srcF_cons,if_neg (by decide),if_neg (by rw [d1]; decide),if_pos d2,if_neg (by omega)]
    show (match intF (k+1) 1 (p.2++125::(tmF big l false++34::y)) with | .inl e=>(.inl e:SE⊕Bytes) | .inr l=>srcF k l)=_
    rw [px_int hp.1 _ (by omega)]
    exact i1 k y hk
   ·obtain ⟨d1,d2⟩:=dol_pfx (123::(p.2++125::tmF big l false++34::y)) rfl
    simp only [List.cons_append,List.append_assoc] at d1 d2 ⊢
    rw [quotF_cons,if_neg (by decide),if_neg (by decide),if_neg (by rw [d1]; decide),if_pos d2]
    show (match closF 1 (p.2++125::(tmF big l false++34::y)) with | none=>none | some none=>some none | some (some r')=>quotF r')=_
    rw [px_clos hp.1]
    exact i2 y
theorem ans_shift {α:Type}{p q:Nat→Option α}{r:α}{j:Nat}(h:∀ f,q (f+j)=p f)(k:Ans p r):Ans q r:=by
 obtain ⟨N,k⟩:=k
 refine ⟨N+j,λ f hf=>?_⟩
 obtain ⟨g,rfl⟩:∃ g,f=g+j:=⟨f - j,by omega⟩
 rw [h]; exact k g (by omega)
theorem quo_ne {v:Bytes}(h:v≠[]):quo v≠[]:=by
 cases v with
 | nil=>exact absurd rfl h
 | cons b r =>
  rw [quo_cons]
  split
  ·simp
  ·rcases esc_head b with ⟨e,-⟩ | ⟨c,rest,e⟩ <;> rw [e] <;> simp
theorem partF_ne {v:Bytes}(h:v≠[])(last:Bool):partF v last≠[]:=by
 unfold partF
 split
 ·simp
 ·exact quo_ne h
def hasI (big:Bool):List (aa×Bytes)→Bool→Bool
 | [],_=>false
 | p::r,b=>if (isPlF p.1&&!b&&big)=true then hasI big r true else true
theorem hasI_true {big:Bool}{l:List (aa×Bytes)}(hl:l≠[])(hb:big=true→1 < l.length):hasI big l false=true:=by
 cases l with
 | nil=>exact absurd rfl hl
 | cons p r =>
  unfold hasI
  split
  ·rename_i q
   simp only [Bool.and_eq_true] at q
   have:=hb q.2
   cases r with
   | nil=>simp at this
   | cons p2 r2=>simp [hasI]
  ·rfl
theorem tmF_read {D N:Nat}(hD:D≤32)(hN:N < 16384)(big:Bool):∀ (l:List (aa×Bytes)) (b:Bool),(∀ p∈l,PtOk D N p∧p.2.length≤1152921504606846976)→∀ (frm pos:Int) (text:Bytes),(b=true→frm < pos)→(b=false→text=[]∧frm=pos) →
  ∃ es',F2 (RE λ _ _=>True) (l.map (·.1)) es'∧∀ parts opn,∃ frm' pos' text' parts',Ans (λ f=>readS f frm pos text parts opn (tmF big l b)) (.inr (frm',pos',text',parts',opn||hasI big l b))∧flS frm' pos' text' parts'=flS frm pos text parts++es'
 | [],b,_,frm,pos,text,_,_=>⟨[],.nil,λ parts opn=>⟨frm,pos,text,parts,ans_s ⟨0,λ f _=>by show readS (f+1) frm pos text parts opn []=_; rw [readS]; simp [hasI]⟩,by simp⟩⟩
 | p::l,b,h,frm,pos,text,hb1,hb2=>by
  obtain ⟨hp,hpl⟩:=h p List.mem_cons_self
  have hl:∀ q∈l,PtOk D N q∧q.2.length≤1152921504606846976:=λ q hq=>h q (List.mem_cons_of_mem _ hq)
  unfold tmF hasI
  by_cases q:(isPlF p.1&&!b&&big)=true
  ·rw [if_pos q,if_pos q]
   simp only [Bool.and_eq_true,Bool.not_eq_true'] at q
   obtain ⟨⟨q1,q2⟩,q3⟩:=q
   subst q2
   obtain ⟨rfl,rfl⟩:=hb2 rfl
   obtain ⟨he,hv,hvl⟩:=hp.2 q1
   have hne:p.1.fValue.fStr≠[]:=by
    unfold isPlF at q1
    simp only [Bool.and_eq_true,Bool.not_eq_true',decide_eq_false_iff_not] at q1
    exact q1.2
   have hpc:Pc p.1.fValue.fStr (partF p.1.fValue.fStr l.isEmpty++tmF big l true) (tmF big l true):=by
    have hnx:=tmF_next big l []
    rw [List.append_nil] at hnx
    refine pc_part hv _ ?_ ?_
    ·rcases hnx with ⟨rfl,e⟩ | ⟨-,z,e⟩ <;> rw [e] <;> simp
    ·intro hl
     rcases hnx with ⟨rfl,e⟩ | ⟨hn,-⟩
     ·rw [e]; rfl
     ·cases l with
      | nil=>exact absurd rfl hn
      | cons=>cases hl
   obtain ⟨j,hr⟩:=hpc.r
   have hlt:0 < (partF p.1.fValue.fStr l.isEmpty++tmF big l true).length - (tmF big l true).length:=by
    have:=List.length_pos_iff.2 (partF_ne hne l.isEmpty)
    rw [List.length_append]; omega
   generalize hn:(partF p.1.fValue.fStr l.isEmpty++tmF big l true).length - (tmF big l true).length=n at hr hlt
   obtain ⟨es',e1,e2⟩:=tmF_read hD hN big l true hl frm (frm+(n:Int)) p.1.fValue.fStr (λ _=>by omega) (λ h=>by cases h)
   have h2:EQV (strE p.1.fValue.fStr p.1.fAt) (strE p.1.fValue.fStr frm):=eqv_n .nil (Nat.zero_le _)
   rw [← he] at h2
   refine ⟨strE p.1.fValue.fStr frm::es',.cons h2 e1,λ parts opn=>?_⟩
   obtain ⟨f',p',t',ps',a1,a2⟩:=e2 parts opn
   refine ⟨f',p',t',ps',ans_shift (j:=j) (λ f=>?_) a1,?_⟩
   ·have:=hr f frm frm [] parts opn (by simpa using hvl)
    rw [List.nil_append] at this
    exact this
   ·rw [a2,show flS frm frm [] parts=parts from if_neg (by omega),show flS frm (frm+(n:Int)) p.1.fValue.fStr parts=parts++[strE p.1.fValue.fStr frm] from if_pos (by omega)]
    simp
  ·rw [if_neg q,if_neg q]
   obtain ⟨e',q1,Fw,q2⟩:=px_whole hp.1 hD hN hpl (pos+2)
   generalize hy:tmF big l false=y
   obtain ⟨es',p1,p2⟩:=tmF_read hD hN big l false hl (pos+(((36:UInt8)::123::(p.2++125::y)).length - y.length:Nat)) (pos+(((36:UInt8)::123::(p.2++125::y)).length - y.length:Nat)) [] (λ h=>by cases h) (λ _=>⟨rfl,rfl⟩)
   rw [hy] at p2
   refine ⟨e'::es',.cons q1 p1,λ parts opn=>?_⟩
   obtain ⟨f',p',t',ps',⟨F,a1⟩,a2⟩:=p2 (flS frm pos text parts++[e']) true
   refine ⟨f',p',t',ps',ans_s ⟨F+Fw+(p.2++125::y).length+1,λ f hf=>?_⟩,?_⟩
   ·obtain ⟨d1,d2⟩:=dol_pfx (123::(p.2++125::y)) rfl
    show readS (f+1) frm pos text parts opn (36::123::(p.2++125::y))=_
    rw [rd_cons,if_neg (by rw [d1]; decide),if_pos d2]
    show (match closS f 1 (p.2++125::y) with
     | none=>none
     | some none=>some (.inl (40,pos))
     | some (some r')=>match wholeS f ((p.2++125::y).take ((p.2++125::y).length - r'.length - 1)) (pos+2) with
      | none=>none
      | some (.inl e)=>some (.inl e)
      | some (.inr e)=>readS f (pos+(((36:UInt8)::123::(p.2++125::y)).length - r'.length:Nat)) (pos+(((36:UInt8)::123::(p.2++125::y)).length - r'.length:Nat)) [] (flS frm pos text parts++[e]) true r':Option (PE⊕(Int×Int×Bytes×List aa×Bool)))=_
    rw [closF_at (by omega),px_clos hp.1]
    simp only
    rw [show (p.2++125::y).take ((p.2++125::y).length - y.length - 1)=p.2 by
     rw [show (p.2++125::y).length - y.length - 1=p.2.length by simp only [List.length_append,List.length_cons]; omega,List.take_left],show wholeS f p.2 (pos+2)=_ from q2 f (by omega)]
    simp only
    refine (a1 f (by omega)).trans ?_
    simp
   ·rw [a2,show ∀ x X,flS x x [] X=X from λ x X=>if_neg (by omega)]
    simp
theorem tmF_tmpl {D N:Nat}(hD:D≤32)(hN:N < 16384){big:Bool}{l:List (aa×Bytes)}(hl:l≠[])(hb:big=true→1 < l.length)(h:∀ p∈l,PtOk D N p∧p.2.length≤1152921504606846976){a:Int}(hlen:l.length≤4000000000)(hc:chk (aa.mk 2 0 [] [] v0 (l.map (·.1)) a)=0):TM (tmF big l false) (aa.mk 2 0 [] [] v0 (l.map (·.1)) a):=by
 intro at'
 obtain ⟨es',p1,p2⟩:=tmF_read hD hN big l false h at' at' [] (λ h=>by cases h) (λ _=>⟨rfl,rfl⟩)
 have hq:EQV (aa.mk 2 0 [] [] v0 (l.map (·.1)) a) (aa.mk 2 0 [] [] v0 es' at'):=eqv_n p1 (by simpa using hlen)
 refine ⟨_,hq,ans_s ?_⟩
 obtain ⟨f',p',t',ps',⟨F,a1⟩,a2⟩:=p2 [] false
 refine ⟨F,λ f hf=>?_⟩
 have a1:=a1 f hf
 rw [hasI_true hl hb] at a1
 simp only [tmplS,a1,Bool.false_or]
 have:tmplE at' (f',p',t',ps',true)=aa.mk 2 0 [] [] v0 es' at':=by
  unfold tmplE
  simp only [if_true]
  rw [a2,show flS at' at' [] []=[] from if_neg (by omega)]; rfl
 rw [this]
 unfold finS
 simp only
 rw [if_pos (by rw [chk2 hq]; exact hc)]
def itF:List Bytes→Bytes
 | []=>[]
 | [t]=>t
 | t::u::r=>t++44::32::itF (u::r)
def keyF (k:aa)(t:Bytes):Bytes:=if k.fKind=1∧k.fValue.fKind=3 then (if aV k.fValue.fStr=true∧resB k.fValue.fStr=false then k.fValue.fStr else t) else if k.fKind=2 then t else 40::(t++[41])
def enF:List aa→List Bytes→Bytes
 | [k,_],[t,u]=>keyF k t++32::61::32::u
 | k::_::r,t::u::q=>keyF k t++32::61::32::(u++44::32::enF r q)
 | _,_=>[]
def cmbF (e:aa)(ts:List Bytes):Bytes :=
 if e.fKind=1 then litX e.fValue
 else if e.fKind=2 then 34::(tmF (decide (1 < e.fKids.length)) (e.fKids.zip ts) false++[34])
 else if e.fKind=3 then e.fName
 else if e.fKind=4 then pX false 8 e.fKids ts 0++46::e.fName
 else if e.fKind=5 then pX false 8 e.fKids ts 0++91::(pX false 0 e.fKids ts 1++[93])
 else if e.fKind=6 then opX e.fOp++pX false 7 e.fKids ts 0
 else if e.fKind=7 then pX false (lvX e) e.fKids ts 0++32::(opX e.fOp++32::pX false (lvX e+1) e.fKids ts 1)
 else if e.fKind=8 then pX false 1 e.fKids ts 0++32::63::32::(pX false 0 e.fKids ts 1++32::58::32::pX false 0 e.fKids ts 2)
 else if e.fKind=9 then e.fName++40::(itF ts++[41])
 else if e.fKind=10 then 91::(itF ts++[93])
 else if e.fKind=11 then 123::(enF e.fKids ts++[125])
 else if e.fKind=12 then 91::lpX false false e.fName e.fKey e.fKids ts
 else 123::lpX false true e.fName e.fKey e.fKids ts
mutual
def txtF:aa→Bytes
 | .mk k o n y v l a=>cmbF (.mk k o n y v l a) (txtFL l)
def txtFL:List aa→List Bytes
 | []=>[]
 | x::r=>txtF x::txtFL r
end
theorem txtFL_eq:∀ l,txtFL l=l.map txtF
 | []=>by rw [txtFL]; rfl
 | x::r=>by rw [txtFL,txtFL_eq r]; rfl
theorem txtF_eq (e:aa):txtF e=cmbF e (e.fKids.map txtF):=by
 cases e
 rw [txtF,txtFL_eq]; rfl
theorem zipF (l:List aa):l.zip (l.map txtF)=l.map λ x=>(x,txtF x):=by
 induction l with
 | nil=>rfl
 | cons x r ih=>simp only [List.map_cons,List.zip_cons_cons]; rw [ih]
def QK (D:Nat)(e:aa)(t:Bytes):Prop:=e.fKind=2→∃ s,t=34::(s++[34])∧TM s e∧StrOk D s
theorem StrOk.mono {D E:Nat}{s:Bytes}(h:StrOk D s)(hD:D≤E):StrOk E s:=⟨λ k y hk=>h.1 k y (by omega),h.2⟩
theorem QK.mono {D E:Nat}{e:aa}{t:Bytes}(h:QK D e t)(hD:D≤E):QK E e t:=λ k=>by
 obtain ⟨s,h1,h2,h3⟩:=h k
 exact ⟨s,h1,h2,h3.mono hD⟩
theorem pl_str {x:aa}(hs:Shp x)(q:isPlF x=true):∃ s a,x=strE s a∧validD s=true∧s.length≤4096:=by
 simp only [isPlF,Bool.and_eq_true,decide_eq_true_eq] at q
 cases hs with
 | lit v a hv =>
  cases hv with
  | str s hs hl=>exact ⟨s,a,rfl,hs,hl⟩
  | null=>exact absurd (show (0:Int)=3 from q.1.2) (by decide)
  | bool n hn=>exact absurd (show (1:Int)=3 from q.1.2) (by decide)
  | num n h0 h1=>exact absurd (show (2:Int)=3 from q.1.2) (by decide)
 | loop m=>cases m <;> exact absurd q.1.1 (by simp [aa.fKind])
 | _=>exact absurd q.1.1 (by simp [aa.fKind])
theorem pl_ok {x:aa}(hs:Shp x)(q:isPlF x=true):x=strE x.fValue.fStr x.fAt∧UV x.fValue.fStr∧x.fValue.fStr.length≤4096:=by
 obtain ⟨s,a,rfl,h1,h2⟩:=pl_str hs q
 exact ⟨rfl,valid_uv _ s (Nat.le_refl _) h1,h2⟩
theorem escD_le:∀ s:Bytes,(escD s).length≤2*s.length
 | []=>by simp [escD]
 | b::r=>by
  have:=escD_le r
  simp only [escD,List.length_append,List.length_cons]
  split <;> simp <;> omega
theorem pl_len {x:aa}(hs:Shp x)(q:isPlF x=true):(litX x.fValue).length≤50000:=by
 obtain ⟨s,a,rfl,h1,h2⟩:=pl_str hs q
 have h3:=escD_le s
 have h4:=ix (escD s)
 show (34::(quo s++[34])).length≤50000
 unfold quo
 simp only [List.length_cons,List.length_append,List.length_nil]; omega
theorem tmF_len {big:Bool}{x:aa}{f:aa→Bytes}(hq:isPlF x=false):∀ {l:List aa} {b:Bool},x∈l→(f x).length≤(tmF big (l.map λ x=>(x,f x)) b).length
 | y::l,b,h=>by
  simp only [List.map_cons,tmF]
  rcases List.mem_cons.1 h with rfl | h
  ·rw [if_neg (by simp [hq])]
   simp only [List.length_cons,List.length_append]; omega
  ·split
   ·have:=tmF_len (big:=big) (f:=f) hq (b:=true) h
    simp only [List.length_append]; omega
   ·have:=tmF_len (big:=big) (f:=f) hq (b:=false) h
    simp only [List.length_cons,List.length_append]; omega
theorem itF_len {x:aa}{f:aa→Bytes}:∀ {l:List aa},x∈l→(f x).length≤(itF (l.map f)).length
 | [y],h=>by
  rw [List.mem_singleton.1 h]; exact Nat.le_refl _
 | y::z::l,h=>by
  simp only [List.map_cons,itF,List.length_cons,List.length_append]
  rcases List.mem_cons.1 h with rfl | h
  ·omega
  ·have:=itF_len (f:=f) h
   simp only [List.map_cons] at this; omega
theorem pi_itF {z:UInt8}(hz:clZ z=true){D:Nat}{f:aa→Bytes}{w:aa→Nat}:∀ {l:List aa},(∀ x∈l,PX 0 D (w x) x (f x))→PI z D ((l.map λ x=>w x+3).sum+1) l (itF (l.map f))
 | [],_=>pi_nil hz D
 | [x],h=>(pi_last hz (h x List.mem_cons_self)).mono (by simp)
 | x::y::l,h=>by
  have h2:=pi_itF hz (l:=y::l) (λ y hy=>h y (List.mem_cons_of_mem _ hy))
  exact (pi_cons hz (h x List.mem_cons_self) h2).mono (by simp only [List.map_cons,List.sum_cons]; omega)
theorem pk_keyF {D N:Nat}{k:aa}(hs:Shp k)(h:PX (lvX k) D N k (txtF k))(hq:QK D k (txtF k)):PK D (N+2) k (keyF k (txtF k)):=by
 have up:∀ {t:Bytes},PK D 1 k t→PK D (N+2) k t:=λ {t} hp=>by
  obtain ⟨ts,h1,h2,h3⟩:=hp
  exact ⟨ts,by omega,h2,h3⟩
 unfold keyF
 by_cases q:k.fKind=1∧k.fValue.fKind=3
 ·rw [if_pos q]
  cases hs with
  | lit v a hv =>
   cases hv with
   | str s hs hl =>
    split
    ·rename_i r
     exact up (pk_name (s:=s) r.1 (by rintro rfl; exact absurd (show resB [102,111,114]=false from r.2) (by decide)) a D)
    ·have e:txtF (litE (ab.mk 3 0 s [] []) a)=34::(quo s++[34]):=by rw [txtF_eq]; rfl
     rw [e]
     exact up (pk_str (tm_quo hs hl a).1 ((tm_quo hs hl a).2 D))
   | null=>exact absurd (show (0:Int)=3 from q.2) (by decide)
   | bool n hn=>exact absurd (show (1:Int)=3 from q.2) (by decide)
   | num n h0 h1=>exact absurd (show (2:Int)=3 from q.2) (by decide)
  | loop m=>cases m <;> exact absurd q.1 (by simp [aa.fKind])
  | _=>exact absurd q.1 (by simp [aa.fKind])
 ·rw [if_neg q]
  split
  ·rename_i r
   obtain ⟨s,e,h1,h2⟩:=hq r
   rw [e]
   exact up (pk_str h1 h2)
  ·exact pk_paren (h.weak (Nat.zero_le _) (lvX_le k))
theorem keyF_len {k:aa}(hs:Shp k):(txtF k).length≤(keyF k (txtF k)).length∨(txtF k).length≤50000:=by
 unfold keyF
 by_cases q:k.fKind=1∧k.fValue.fKind=3
 ·refine .inr ?_
  cases hs with
  | lit v a hv =>
   cases hv with
   | str s hs hl =>
    have e:txtF (litE (ab.mk 3 0 s [] []) a)=34::(quo s++[34]):=by rw [txtF_eq]; rfl
    have h3:=escD_le s
    have h4:=ix (escD s)
    rw [e]; unfold quo
    simp only [List.length_cons,List.length_append,List.length_nil]; omega
   | null=>exact absurd (show (0:Int)=3 from q.2) (by decide)
   | bool n hn=>exact absurd (show (1:Int)=3 from q.2) (by decide)
   | num n h0 h1=>exact absurd (show (2:Int)=3 from q.2) (by decide)
  | loop m=>cases m <;> exact absurd q.1 (by simp [aa.fKind])
  | _=>exact absurd q.1 (by simp [aa.fKind])
 ·refine .inl ?_
  rw [if_neg q]
  split
  ·exact Nat.le_refl _
  ·simp only [List.length_cons,List.length_append,List.length_nil]; omega
theorem pn_enF {D:Nat}{w:aa→Nat}:∀ (l:List aa),l.length % 2=0→(∀ x∈l,Shp x)→(enF l (l.map txtF)).length≤1152921504606846976→(∀ x∈l,(txtF x).length≤1152921504606846976→Shp x∧PX (lvX x) D (w x) x (txtF x)∧QK D x (txtF x))→PN D ((l.map λ x=>w x+3).sum) l (enF l (l.map txtF))
 | [],_,_,_,_=>pn_nil D
 | [_],h,_,_,_=>by simp at h
 | [k,x],_,hs,hl,h=>by
  simp only [List.map_cons,List.map_nil,enF,List.length_append,List.length_cons] at hl ⊢
  have hkl:(txtF k).length≤1152921504606846976:=by rcases keyF_len (hs k (by simp)) with q | q <;> omega
  obtain ⟨k1,k2,k3⟩:=h k (by simp) hkl
  obtain ⟨x1,x2,x3⟩:=h x (by simp) (by omega)
  exact (pn_last (pk_keyF k1 k2 k3) (x2.weak (Nat.zero_le _) (lvX_le x))).mono (by simp only [List.sum_cons,List.sum_nil]; omega)
 | k::x::y::l,he,hs,hl,h=>by
  simp only [List.map_cons,enF,List.length_append,List.length_cons] at hl ⊢
  have hkl:(txtF k).length≤1152921504606846976:=by rcases keyF_len (hs k (by simp)) with q | q <;> omega
  obtain ⟨k1,k2,k3⟩:=h k (by simp) hkl
  obtain ⟨x1,x2,x3⟩:=h x (by simp) (by omega)
  have h2:=pn_enF (w:=w) (y::l) (by simp only [List.length_cons] at he ⊢; omega) (λ z hz=>hs z (List.mem_cons_of_mem _ (List.mem_cons_of_mem _ hz))) (by simp only [List.map_cons]; omega) (λ z hz=>h z (List.mem_cons_of_mem _ (List.mem_cons_of_mem _ hz)))
  simp only [List.map_cons,List.sum_cons] at h2 ⊢
  exact (pn_cons (pk_keyF k1 k2 k3) (x2.weak (Nat.zero_le _) (lvX_le x)) h2).mono (by omega)
theorem px_txtF:∀ (lv:Nat) (e:aa),VE lv e→nodesE e≤800→(txtF e).length≤1152921504606846976→PX (lvX e) (32 - lv) (20*nodesE e - 5) e (txtF e)∧QK (32 - lv) e (txtF e):=by
 intro lv e h
 induction h with
 | @mk lv e h hs hc hb hk ih =>
  intro hn hlen
  rw [txtF_eq] at hlen ⊢
  rw [nodesE_eq] at hn ⊢
  have IH:∀ x∈e.fKids,(txtF x).length≤1152921504606846976→PX (lvX x) (32 - lv) (20*nodesE x - 5) x (txtF x):=λ x hx hl=>(ih x hx (by have:=nodes_mem hx; omega) hl).1.mono (show 32 - (lv+1)≤32 - lv by omega) (Nat.le_refl _)
  have IQ:∀ x∈e.fKids,(txtF x).length≤1152921504606846976→QK (32 - lv) x (txtF x):=λ x hx hl=>((ih x hx (by have:=nodes_mem hx; omega) hl).2).mono (show 32 - (lv+1)≤32 - lv by omega)
  have IP:∀ n,n≤8→∀ x∈e.fKids,(prt false n x (txtF x)).length≤1152921504606846976→PX n (32 - lv) (20*nodesE x - 5+2) x (prt false n x (txtF x)):=λ n hn x hx hl=>px_prt (all:=false) hn (IH x hx (Nat.le_trans (prt_len false n x _) hl)) (lvX_le x)
  cases hs with
  | lit v a hv=>exact ⟨px_any (px_lit hv a _) (by omega),λ h=>absurd (show (1:Int)=2 from h) (by decide)⟩
  | tmpl l a hne =>
   have hl:(aa.mk 2 0 [] [] v0 l a).fKids=l:=rfl
   rw [hl] at hlen hn hk hb ih ⊢
   have hlv:lv+1≤32:=by
    obtain ⟨x,r,rfl⟩:∃ x r,l=x::r:=by cases l with
     | nil=>exact absurd rfl hne
     | cons x r=>exact ⟨x,r,rfl⟩
    have:=hk x List.mem_cons_self
    cases this with
    | mk h _ _ _ _=>exact h
   have hz:=zipF l
   have h1:(l.map λ x=>(x,txtF x)).map (·.1)=l:=by rw [List.map_map]; exact List.map_id _
   have hcm:cmbF (aa.mk 2 0 [] [] v0 l a) (l.map txtF)=34::(tmF (decide (1 < l.length)) (l.map λ x=>(x,txtF x)) false++[34]):=by
    rw [← hz]; rfl
   rw [hcm] at hlen ⊢
   have hp:∀ p∈l.map (λ x=>(x,txtF x)),PtOk (32 - (lv+1)) (20*nodesL l) p∧p.2.length≤1152921504606846976:=by
    intro p hp
    obtain ⟨x,hx,rfl⟩:=List.mem_map.1 hp
    have hsx:Shp x:=by
     cases hk x hx with
     | mk _ s _ _ _=>exact s
    have h3:(txtF x).length≤1152921504606846976:=by
     by_cases q:isPlF x=true
     ·have:=pl_len hsx q
      have e2:txtF x=litX x.fValue:=by
       rw [txtF_eq]; unfold cmbF
       simp only [isPlF,Bool.and_eq_true,decide_eq_true_eq] at q
       rw [if_pos q.1.1]
      rw [e2]; omega
     ·have:=tmF_len (big:=decide (1 < l.length)) (x:=x) (f:=txtF) (b:=false) (by simpa using q) hx
      simp only [List.length_cons,List.length_append] at hlen; omega
    have h4:=nodes_mem hx
    have h5:=nodesE_pos x
    refine ⟨⟨px_any (((ih x hx (by omega) h3).1).weak (Nat.zero_le _) (lvX_le x)) (by omega),λ q=>pl_ok hsx q⟩,h3⟩
   have st:=tmF_str (decide (1 < l.length)) (l.map λ x=>(x,txtF x)) false λ p hpp=>(hp p hpp).1
   have tm:=tmF_tmpl (D:=32 - (lv+1)) (N:=20*nodesL l) (a:=a) (big:=decide (1 < l.length)) (by omega) (by omega) (l:=l.map λ x=>(x,txtF x)) (by simpa using hne) (by simp) hp (by simpa using hb) (by rw [h1]; exact hc)
   rw [h1] at tm
   have st:StrOk (32 - lv) (tmF (decide (1 < l.length)) (l.map λ x=>(x,txtF x)) false):=by rw [show 32 - lv=32 - (lv+1)+1 by omega]; exact st
   exact ⟨px_any (px_str tm st) (by omega),λ _=>⟨_,rfl,tm,st⟩⟩
  | name s a hi hr=>exact ⟨px_any (px_name hi hr a _) (by omega),λ h=>absurd (show (3:Int)=2 from h) (by decide)⟩
  | attr s x a hi =>
   have e:cmbF (aa.mk 4 0 s [] v0 [x] a) ([x].map txtF)=prt false 8 x (txtF x)++46::s:=rfl
   have hl:(aa.mk 4 0 s [] v0 [x] a).fKids=[x]:=rfl
   rw [hl] at hlen hn IP ⊢
   rw [e] at hlen ⊢
   have:=nodesE_pos x
   exact ⟨px_any (px_attr (IP 8 (by omega) x (by simp) (by simp only [List.length_append] at hlen; omega)) hi a) (by simp only [nodesL]; omega),λ h=>absurd (show (4:Int)=2 from h) (by decide)⟩
  | idx x y a =>
   have e:cmbF (aa.mk 5 0 [] [] v0 [x,y] a) ([x,y].map txtF)=prt false 8 x (txtF x)++91::(prt false 0 y (txtF y)++[93]):=rfl
   have hl:(aa.mk 5 0 [] [] v0 [x,y] a).fKids=[x,y]:=rfl
   rw [hl] at hlen hn IP ⊢
   rw [e] at hlen ⊢
   simp only [List.length_append,List.length_cons] at hlen
   have:=nodesE_pos x; have:=nodesE_pos y
   exact ⟨px_any (px_idx (IP 8 (by omega) x (by simp) (by omega)) (IP 0 (by omega) y (by simp) (by omega)) a) (by simp only [nodesL]; omega),λ h=>absurd (show (5:Int)=2 from h) (by decide)⟩
  | un o x a ho =>
   have e:cmbF (aa.mk 6 o [] [] v0 [x] a) ([x].map txtF)=opX o++prt false 7 x (txtF x):=rfl
   have hl:(aa.mk 6 o [] [] v0 [x] a).fKids=[x]:=rfl
   rw [hl] at hlen hn IP ⊢
   rw [e] at hlen ⊢
   simp only [List.length_append] at hlen
   have:=nodesE_pos x
   have hx:=IP 7 (by omega) x (by simp) (by omega)
   have hs:opX o=[33]∧o=1∨opX o=[45]∧o=2:=by
    rcases ho with rfl | rfl
    ·exact .inl ⟨rfl,rfl⟩
    ·exact .inr ⟨rfl,rfl⟩
   exact ⟨px_any (px_un hx hs a) (by simp only [nodesL]; omega),λ h=>absurd (show (6:Int)=2 from h) (by decide)⟩
  | bin o x y a ho =>
   obtain ⟨j,hj,h1,h2⟩:=ops_at ⟨o.toNat,by omega⟩ (by show 3≤o.toNat; omega)
   rw [show (((⟨o.toNat,by omega⟩:Fin 16).val:Nat):Int)=o by show ((o.toNat:Nat):Int)=o; omega] at h1 h2
   have hlv:lvX (aa.mk 7 o [] [] v0 [x,y] a)=j+1:=h1
   have e:cmbF (aa.mk 7 o [] [] v0 [x,y] a) ([x,y].map txtF)=prt false (lvX (aa.mk 7 o [] [] v0 [x,y] a)) x (txtF x)++32::(opX o++32::prt false (lvX (aa.mk 7 o [] [] v0 [x,y] a)+1) y (txtF y)):=rfl
   have hl:(aa.mk 7 o [] [] v0 [x,y] a).fKids=[x,y]:=rfl
   rw [hl] at hlen hn IP ⊢
   rw [e] at hlen ⊢
   rw [hlv] at hlen ⊢
   simp only [List.length_append,List.length_cons] at hlen
   have:=nodesE_pos x; have:=nodesE_pos y
   exact ⟨px_any (px_bin hj h2 (IP (j+1) (by omega) x (by simp) (by omega)) (IP (j+1+1) (by omega) y (by simp) (by omega)) a) (by simp only [nodesL]; omega),λ h=>absurd (show (7:Int)=2 from h) (by decide)⟩
  | cond x y z a =>
   have e:cmbF (aa.mk 8 0 [] [] v0 [x,y,z] a) ([x,y,z].map txtF)=prt false 1 x (txtF x)++32::63::32::(prt false 0 y (txtF y)++32::58::32::prt false 0 z (txtF z)):=rfl
   have hl:(aa.mk 8 0 [] [] v0 [x,y,z] a).fKids=[x,y,z]:=rfl
   rw [hl] at hlen hn IP ⊢
   rw [e] at hlen ⊢
   simp only [List.length_append,List.length_cons] at hlen
   have:=nodesE_pos x; have:=nodesE_pos y; have:=nodesE_pos z
   exact ⟨px_any (px_cond (IP 1 (by omega) x (by simp) (by omega)) (IP 0 (by omega) y (by simp) (by omega)) (IP 0 (by omega) z (by simp) (by omega)) a) (by simp only [nodesL]; omega),λ h=>absurd (show (8:Int)=2 from h) (by decide)⟩
  | call s l a hi hr =>
   have e:cmbF (aa.mk 9 0 s [] v0 l a) (l.map txtF)=s++40::(itF (l.map txtF)++[41]):=rfl
   have hl:(aa.mk 9 0 s [] v0 l a).fKids=l:=rfl
   rw [hl] at hlen hn IH hb ⊢
   rw [e] at hlen ⊢
   simp only [List.length_append,List.length_cons] at hlen
   have:=sum_w l
   exact ⟨px_any (px_call hi hr (pi_itF (z:=41) rfl (w:=λ x=>20*nodesE x - 5) λ x hx=>(IH x hx (by have:=itF_len (f:=txtF) hx; omega)).weak (Nat.zero_le _) (lvX_le x)) hb a) (by omega),λ h=>absurd (show (9:Int)=2 from h) (by decide)⟩
  | list l a =>
   have e:cmbF (aa.mk 10 0 [] [] v0 l a) (l.map txtF)=91::(itF (l.map txtF)++[93]):=rfl
   have hl:(aa.mk 10 0 [] [] v0 l a).fKids=l:=rfl
   rw [hl] at hlen hn IH hb ⊢
   rw [e] at hlen ⊢
   simp only [List.length_append,List.length_cons] at hlen
   have:=sum_w l
   exact ⟨px_any (px_list (pi_itF (z:=93) rfl (w:=λ x=>20*nodesE x - 5) λ x hx=>(IH x hx (by have:=itF_len (f:=txtF) hx; omega)).weak (Nat.zero_le _) (lvX_le x)) hb a) (by omega),λ h=>absurd (show (10:Int)=2 from h) (by decide)⟩
  | map l a hm =>
   have e:cmbF (aa.mk 11 0 [] [] v0 l a) (l.map txtF)=123::(enF l (l.map txtF)++[125]):=rfl
   have hl:(aa.mk 11 0 [] [] v0 l a).fKids=l:=rfl
   rw [hl] at hlen hn IH IQ hb hk ⊢
   rw [e] at hlen ⊢
   simp only [List.length_append,List.length_cons] at hlen
   have:=sum_w l
   have hsh:∀ x∈l,Shp x:=λ x hx=>by
    cases hk x hx with
    | mk _ s _ _ _=>exact s
   have hx:∀ x∈l,(txtF x).length≤1152921504606846976→Shp x∧PX (lvX x) (32 - lv) (20*nodesE x - 5) x (txtF x)∧QK (32 - lv) x (txtF x):=λ x hx hl=>⟨hsh x hx,IH x hx hl,IQ x hx hl⟩
   exact ⟨px_any (px_map (pn_enF (w:=λ x=>20*nodesE x - 5) l hm hsh (by omega) hx) hb a) (by omega),λ h=>absurd (show (11:Int)=2 from h) (by decide)⟩
  | loop m s y x c dl fl a hi hr hy hd hf =>
   have hK:TkK (if y=[] then [] else y++[44,32]) y:=by
    rcases hy with rfl | hy
    ·exact .inl ⟨rfl,rfl⟩
    ·by_cases y0:y=[]
     ·exact .inl ⟨y0,if_pos y0⟩
     ·exact .inr ⟨hy.1,hy.2,if_neg y0⟩
   have n1:=nodesE_pos x; have n2:=nodesE_pos c
   rcases hd with ⟨rfl,rfl⟩ | ⟨rfl,d,rfl⟩ <;> rcases hf with rfl | ⟨f,rfl⟩
   ·have e:cmbF (aa.mk 12 0 s y v0 [x,c] a) ([x,c].map txtF)=91::102::111::114::32::((if y=[] then [] else y++[44,32])++(s++32::105::110::32::(prt false 0 x (txtF x)++32::58::32::(prt false 0 c (txtF c)++([]++([]++[93])))))):=rfl
    have hl:(aa.mk (if false=true then 13 else 12) 0 s y v0 ([x,c]++[]++[]) a).fKids=[x,c]:=rfl
    rw [hl] at hlen hn IP ⊢
    change (cmbF (aa.mk 12 0 s y v0 [x,c] a) ([x,c].map txtF)).length≤1152921504606846976 at hlen
    change PX 8 (32 - lv) _ (aa.mk 12 0 s y v0 [x,c] a) (cmbF (aa.mk 12 0 s y v0 [x,c] a) ([x,c].map txtF))∧QK (32 - lv) (aa.mk 12 0 s y v0 [x,c] a) (cmbF (aa.mk 12 0 s y v0 [x,c] a) ([x,c].map txtF))
    rw [e] at hlen ⊢
    simp only [List.length_append,List.length_cons] at hlen
    exact ⟨px_any (px_loop (m:=false) (N3:=0) (N4:=0) hi hr hK (IP 0 (by omega) x (by simp) (by omega)) (IP 0 (by omega) c (by simp) (by omega)) (.inl ⟨rfl,rfl,rfl⟩) (.inl ⟨rfl,rfl⟩) a) (by simp only [nodesL]; omega),λ h=>absurd (show (12:Int)=2 from h) (by decide)⟩
   ·have n3:=nodesE_pos f
    have e:cmbF (aa.mk 12 0 s y v0 [x,c,f] a) ([x,c,f].map txtF)=91::102::111::114::32::((if y=[] then [] else y++[44,32])++(s++32::105::110::32::(prt false 0 x (txtF x)++32::58::32::(prt false 0 c (txtF c)++([]++(32::105::102::32::prt false 0 f (txtF f)++[93])))))):=rfl
    have hl:(aa.mk (if false=true then 13 else 12) 0 s y v0 ([x,c]++[]++[f]) a).fKids=[x,c,f]:=rfl
    rw [hl] at hlen hn IP ⊢
    change (cmbF (aa.mk 12 0 s y v0 [x,c,f] a) ([x,c,f].map txtF)).length≤1152921504606846976 at hlen
    change PX 8 (32 - lv) _ (aa.mk 12 0 s y v0 [x,c,f] a) (cmbF (aa.mk 12 0 s y v0 [x,c,f] a) ([x,c,f].map txtF))∧QK (32 - lv) (aa.mk 12 0 s y v0 [x,c,f] a) (cmbF (aa.mk 12 0 s y v0 [x,c,f] a) ([x,c,f].map txtF))
    rw [e] at hlen ⊢
    simp only [List.length_append,List.length_cons] at hlen
    exact ⟨px_any (px_loop (m:=false) (N3:=0) hi hr hK (IP 0 (by omega) x (by simp) (by omega)) (IP 0 (by omega) c (by simp) (by omega)) (.inl ⟨rfl,rfl,rfl⟩) (.inr ⟨_,f,rfl,rfl,IP 0 (by omega) f (by simp) (by omega)⟩) a) (by simp only [nodesL]; omega),λ h=>absurd (show (12:Int)=2 from h) (by decide)⟩
   ·have n3:=nodesE_pos d
    have e:cmbF (aa.mk 13 0 s y v0 [x,c,d] a) ([x,c,d].map txtF)=123::102::111::114::32::((if y=[] then [] else y++[44,32])++(s++32::105::110::32::(prt false 0 x (txtF x)++32::58::32::(prt false 0 c (txtF c)++(32::61::62::32::prt false 0 d (txtF d)++([]++[125])))))):=rfl
    have hl:(aa.mk (if true=true then 13 else 12) 0 s y v0 ([x,c]++[d]++[]) a).fKids=[x,c,d]:=rfl
    rw [hl] at hlen hn IP ⊢
    change (cmbF (aa.mk 13 0 s y v0 [x,c,d] a) ([x,c,d].map txtF)).length≤1152921504606846976 at hlen
    change PX 8 (32 - lv) _ (aa.mk 13 0 s y v0 [x,c,d] a) (cmbF (aa.mk 13 0 s y v0 [x,c,d] a) ([x,c,d].map txtF))∧QK (32 - lv) (aa.mk 13 0 s y v0 [x,c,d] a) (cmbF (aa.mk 13 0 s y v0 [x,c,d] a) ([x,c,d].map txtF))
    rw [e] at hlen ⊢
    simp only [List.length_append,List.length_cons] at hlen
    exact ⟨px_any (px_loop (m:=true) (N4:=0) hi hr hK (IP 0 (by omega) x (by simp) (by omega)) (IP 0 (by omega) c (by simp) (by omega)) (.inr ⟨_,d,rfl,rfl,rfl,IP 0 (by omega) d (by simp) (by omega)⟩) (.inl ⟨rfl,rfl⟩) a) (by simp only [nodesL]; omega),λ h=>absurd (show (13:Int)=2 from h) (by decide)⟩
   ·have n3:=nodesE_pos d; have n4:=nodesE_pos f
    have e:cmbF (aa.mk 13 0 s y v0 [x,c,d,f] a) ([x,c,d,f].map txtF)=123::102::111::114::32::((if y=[] then [] else y++[44,32])++(s++32::105::110::32::(prt false 0 x (txtF x)++32::58::32::(prt false 0 c (txtF c)++(32::61::62::32::prt false 0 d (txtF d)++(32::105::102::32::prt false 0 f (txtF f)++[125])))))):=rfl
    have hl:(aa.mk (if true=true then 13 else 12) 0 s y v0 ([x,c]++[d]++[f]) a).fKids=[x,c,d,f]:=rfl
    rw [hl] at hlen hn IP ⊢
    change (cmbF (aa.mk 13 0 s y v0 [x,c,d,f] a) ([x,c,d,f].map txtF)).length≤1152921504606846976 at hlen
    change PX 8 (32 - lv) _ (aa.mk 13 0 s y v0 [x,c,d,f] a) (cmbF (aa.mk 13 0 s y v0 [x,c,d,f] a) ([x,c,d,f].map txtF))∧QK (32 - lv) (aa.mk 13 0 s y v0 [x,c,d,f] a) (cmbF (aa.mk 13 0 s y v0 [x,c,d,f] a) ([x,c,d,f].map txtF))
    rw [e] at hlen ⊢
    simp only [List.length_append,List.length_cons] at hlen
    exact ⟨px_any (px_loop (m:=true) hi hr hK (IP 0 (by omega) x (by simp) (by omega)) (IP 0 (by omega) c (by simp) (by omega)) (.inr ⟨_,d,rfl,rfl,rfl,IP 0 (by omega) d (by simp) (by omega)⟩) (.inr ⟨_,f,rfl,rfl,IP 0 (by omega) f (by simp) (by omega)⟩) a) (by simp only [nodesL]; omega),λ h=>absurd (show (13:Int)=2 from h) (by decide)⟩
theorem ans_det {α:Type}{p:Nat→Option α}{r s:α}(h:Ans p r)(g:Ans p s):r=s:=by
 obtain ⟨N,h⟩:=h; obtain ⟨M,g⟩:=g
 have:=(h (N+M) (by omega)).symm.trans (g (N+M) (by omega))
 injection this
theorem zip_swap {α β:Type}:∀ {a:List α} {b:List β} {p:α×β},p∈a.zip b→(p.2,p.1)∈b.zip a
 | [],_,_,h=>by simp at h
 | _::_,[],_,h=>by simp at h
 | x::a,y::b,p,h=>by
  rw [List.zip_cons_cons] at h ⊢
  rcases List.mem_cons.1 h with rfl | h
  ·exact List.mem_cons_self
  ·exact List.mem_cons_of_mem _ (zip_swap h)
theorem eqv_symm {x y:aa}(h:EQV x y):EQV y x:=by
 induction h with
 | mk k o n m v a c l s ih=>exact .mk k.symm o.symm n.symm m.symm v.symm trivial (by omega) l.symm λ p hp=>ih (p.2,p.1) (zip_swap hp)
theorem zip_mid {α β γ:Type}:∀ {a:List α} {b:List β} {c:List γ} {p:α×γ},p∈a.zip c→b.length=a.length→∃ y,(p.1,y)∈a.zip b∧(y,p.2)∈b.zip c
 | [],_,_,_,h,_=>by simp at h
 | _::_,_,[],_,h,_=>by simp at h
 | _::_,[],_::_,_,_,h=>by simp at h
 | x::a,y::b,z::c,p,h,hl=>by
  rw [List.zip_cons_cons] at h
  rcases List.mem_cons.1 h with rfl | h
  ·exact ⟨y,by simp,by simp⟩
  ·obtain ⟨w,h1,h2⟩:=zip_mid (b:=b) h (by simpa using hl)
   exact ⟨w,by rw [List.zip_cons_cons]; exact List.mem_cons_of_mem _ h1,by rw [List.zip_cons_cons]; exact List.mem_cons_of_mem _ h2⟩
theorem eqv_trans {x y:aa}(h:EQV x y):∀ z,EQV y z→EQV x z:=by
 induction h with
 | mk k o n m v a c l s ih =>
  intro z g
  cases g with
  | mk k2 o2 n2 m2 v2 a2 c2 l2 s2 =>
   refine .mk (k2.trans k) (o2.trans o) (n2.trans n) (m2.trans m) (v2.trans v) trivial c (l2.trans l) λ p hp=>?_
   obtain ⟨w,h1,h2⟩:=zip_mid hp l
   exact ih _ h1 _ (s2 _ h2)
theorem txtF_inj {a b:aa}(ha:VE 1 a)(hb:VE 1 b)(na:nodesE a≤800)(nb:nodesE b≤800)(hl:(txtF a).length≤1152921504606846976)(h:txtF a=txtF b):EQV a b:=by
 have pa:=((px_txtF 1 a ha na hl).1).weak (Nat.zero_le _) (lvX_le a)
 have pb':=((px_txtF 1 b hb nb (by rw [← h]; exact hl)).1).weak (Nat.zero_le _) (lvX_le b)
 obtain ⟨a',a1,a2⟩:=px_whole pa (by omega) (by omega) hl 0
 obtain ⟨b',b1,b2⟩:=px_whole pb' (by omega) (by omega) (by rw [← h]; exact hl) 0
 rw [← h] at b2
 have e:=ans_det a2 b2
 injection e with e
 subst e
 exact eqv_trans a1 b (eqv_symm b1)
end Go.Ab.R06.U
end
end
