/- Texts of the proof, one behind the other. No statement is proved here. -/
import Derived.Lib.MapLaws
import Derived.Lib.ValidLaws
import Derived.Lib.ParseIntB
import Derived.Lib.IndexLaws
import Derived.Lib.Bytes2
import Derived.Test.YtmpmphkpplgbkaaGreatDoorZ17Za
import Derived.Test.YtmpmphkpplgbkaaGreatDoorZ17Zb
import Derived.Test.YtmpmphkpplgbkaaGreatDoorZ17Zc
import Derived.Test.YtmpmphkpplgbkaaGreatDoorZ17Zd
import Derived.Test.YtmpmphkpplgbkaaGreatDoorZ17Ze
set_option maxHeartbeats 4000000
section
namespace Go.Ab.R06
open Go.Ab Go.Ab.RB
section
variable {α β:Type} {P:α->Prop}
theorem ao {g:Nat->Nat->Option β}{k:Nat->Nat->β->Option α}(x:β)(h:Ev2 g (·=x))(hk:Ev2 (λ n m=>k n m x) P):Ev2 (λ n m=>(g n m).bind (k n m)) P :=
 ag (·=x) h λ y hy=>by subst hy; exact hk
end
def ko (b:UInt8):Bool:=(decide (97<=b.toNat)&&decide (b.toNat<=122))||(decide (65<=b.toNat)&&decide (b.toNat<=90))||decide (b.toNat=95)
def iP (b:UInt8):Bool:=decide (48<=b.toNat)&&decide (b.toNat<=57)
def idB (b:UInt8):Bool:=ko b||iP b
def bH:Bytes->Bool
 | []=>false
 | b::r=>decide ((b::r).length<=64)&&ko b&&r.all idB
def xN (s:Bytes)(i:Nat):Bool:=ko (s.getD i 0)||(decide (i≠0)&&iP (s.getD i 0))
def oX (p:Nat->Bool):Nat->Nat->Bool
 | _,0=>true
 | i,k+1=>p i&&oX p (i+1) k
theorem pq (p:Nat->Bool):∀ (k i:Nat),oX p i k=true↔∀ j,i<=j->j < i+k->p j=true
 | 0,i=>by simp [oX]; intro j h1 h2; omega
 | k+1,i=>by
  rw [oX,ro,pq p k (i+1)];constructor
  ·rintro ⟨h1,h2⟩ j h3 h4;by_cases e:j=i
   ·rw [e]; exact h1
   ·exact h2 j O O
  ·intro h;exact ⟨h i O O,λ j h1 h2=>h j O O⟩
theorem or32:(List.range 256).all (λ n=>(decide ((97:Int)<=iOr .u8 (n:Int) 32)&&decide (iOr .u8 (n:Int) 32<=122)) == ((decide (97<=n)&&decide (n<=122))||(decide (65<=n)&&decide (n<=90))))=true:=by kernel_rfl
theorem G1 (b:UInt8):(97<=iOr .u8 ((b.toNat:Nat):Int) 32/\iOr .u8 ((b.toNat:Nat):Int) 32<=122)↔((97<=b.toNat/\b.toNat<=122)\/(65<=b.toNat/\b.toNat<=90)):=by
 have h:=rg.1 or32 b.toNat (List.mem_range.2 b.toNat_lt);have h:=eq_of_beq h;rw [Bool.eq_iff_iff] at h;simpa using h
theorem nS (b:UInt8):ko b=true↔(97<=b.toNat/\b.toNat<=122)\/(65<=b.toNat/\b.toNat<=90)\/b.toNat=95:=by
 simp [ko,or_assoc]
theorem nO (b:UInt8):iP b=true↔48<=b.toNat/\b.toNat<=57:=by simp [iP]
theorem eqB {a b:Bool}(h:a=true↔b=true):a=b:=Bool.eq_iff_iff.2 h
theorem mu (s:Bytes)(i:Nat):xN s i=true↔ko (s.getD i 0)=true\/(i≠0/\iP (s.getD i 0)=true):=by simp [xN]
theorem uu (s:Bytes):bH s=true↔s≠[]/\s.length<=64/\oX (xN s) 0 s.length=true:=by
 rw [pq]
 cases s with
 | nil=>simp [bH]
 | cons b r =>
  simp only [bH,ro,decide_eq_true_eq,rg];constructor
  ·rintro ⟨⟨h1,h2⟩,h3⟩;refine ⟨by simp,h1,λ j _ hj=>?_⟩;rw [mu]
   cases j with
   | zero=>exact .inl h2
   | succ j =>
    have hm:r.getD j 0∈r:=by
     rw [List.getD_eq_getElem?_getD,List.getElem?_eq_getElem (by simp at hj; omega)];exact List.getElem_mem _
    have:=h3 _ hm;simp only [idB,Bool.or_eq_true] at this;rcases this with h | h
    ·exact .inl h
    ·exact .inr ⟨by omega,h⟩
  ·rintro ⟨_,h1,h2⟩;refine ⟨⟨h1,?_⟩,λ x hx=>?_⟩
   ·have:=(mu _ _).1 (h2 0 O G);simpa using this
   ·obtain ⟨j,hj,rfl⟩:=List.getElem_of_mem hx;have:=(mu _ _).1 (h2 (j+1) O (by simp; omega));rw [show (b::r).getD (j+1) 0=r[j] by simp [hj]] at this;simp only [idB,Bool.or_eq_true];rcases this with h | h
    ·exact .inl h
    ·exact .inr h.2
theorem xQ (s:Bytes):bH s=true↔s≠[]/\s.length<=64/\ko (s.getD 0 0)=true/\oX (λ j=>idB (s.getD j 0)) 0 s.length=true:=by
 rw [uu,pq,pq];constructor
 ·rintro ⟨h1,h2,h3⟩;have hl:0 < s.length:=List.length_pos_iff.2 h1;refine ⟨h1,h2,?_,λ j _ hj=>?_⟩
  ·have:=(mu s 0).1 (h3 0 O O);simpa using this
  ·have:=(mu s j).1 (h3 j O hj);simp only [idB,Bool.or_eq_true];rcases this with h | h
   ·exact .inl h
   ·exact .inr h.2
 ·rintro ⟨h1,h2,h3,h4⟩;refine ⟨h1,h2,λ j _ hj=>(mu s j).2 ?_⟩;have:=h4 j O hj;simp only [idB,Bool.or_eq_true] at this;by_cases e:j=0
  ·subst e; exact .inl h3
  ·rcases this with h | h
   ·exact .inl h
   ·exact .inr ⟨e,h⟩
end Go.Ab.R06
namespace Go.Ab.R06
open Go.Ab Go.Ab.RB Go.Lib
def nK (acc:Nat)(l:Bytes):Nat:=l.foldl (λ a b=>a*10+(b.toNat - 48)) acc
theorem xg (a:Nat):nK a []=a:=rfl
theorem vB (a:Nat)(b:UInt8)(l:Bytes):nK a (b::l)=nK (a*10+(b.toNat - 48)) l:=by simp only [nK,List.foldl_cons]
theorem Ak:∀ (l:Bytes) (a:Nat),a<=nK a l
 | [],a=>Nat.le_of_eq (xg a).symm
 | b::r,a=>by
  rw [vB];have:=Ak r (a*10+(b.toNat - 48));generalize nK (a*10+(b.toNat - 48)) r=v at this ⊢;omega
theorem zL {l:Bytes}(h:l.all iP=true){b:UInt8}(hb:b∈l):48<=b.toNat/\b.toNat<=57:=(nO b).1 (rg.1 h b hb)
theorem CI:∀ (l:Bytes) (acc:Nat),l.all iP=true->(nK acc l<=18446744073709551615->parseUintM 18446744073709551615 acc l=.ok (nK acc l))/\(18446744073709551615 < nK acc l->acc<=18446744073709551615->parseUintM 18446744073709551615 acc l=.range)
 | [],acc,_=>by
  rw [xg];exact ⟨λ _=>rfl,λ h h'=>by omega⟩
 | b::r,acc,h=>by
  have hb:=zL h List.mem_cons_self;have hr:r.all iP=true:=by simp only [List.all_cons,ro] at h; exact h.2
  rw [parseUintM,if_pos hb,vB];have hg:=Ak r (acc*10+(b.toNat - 48));have ih:=CI r (acc*10+(b.toNat - 48)) hr;generalize nK (acc*10+(b.toNat - 48)) r=v at hg ih ⊢;by_cases h1:1844674407370955162<=acc
  ·rw [if_pos h1];exact ⟨λ h2=>by omega,λ _ _=>rfl⟩
  ·rw [if_neg h1];by_cases h2:18446744073709551615 < acc*10+(b.toNat - 48)
   ·rw [if_pos h2];exact ⟨λ h3=>by omega,λ _ _=>rfl⟩
   ·rw [if_neg h2];exact ⟨ih.1,λ h3 _=>ih.2 h3 O⟩
theorem Gu (l:Bytes)(Iw:l≠[])(h:l.all iP=true):parseUintB 64 l=if nK 0 l<=18446744073709551615 then .ok (nK 0 l) else .range:=by
 rw [parseUintB,if_neg Iw];show parseUintM (2 ^ 64 - 1) 0 l=_;rw [show (2 ^ 64 - 1:Nat)=18446744073709551615 from rfl];have:=CI l 0 h;generalize nK 0 l=v at this ⊢;by_cases q:v<=18446744073709551615
 ·rw [if_pos q]; exact this.1 q
 ·rw [if_neg q]; exact this.2 O O
def zo (l:Bytes):Bool:=!l.isEmpty&&l.all iP&&(decide (l.getD 0 0≠48)||decide (l.length=1))
theorem xJ (l:Bytes):zo l=true↔l≠[]/\l.all iP=true/\(l.getD 0 0≠48\/l.length=1):=by
 simp [zo,and_assoc]
def rp (s:Bytes):Bool:=decide (0 < s.length)&&decide (s.getD 0 0=45)
def digits (s:Bytes):Bytes:=if rp s=true then s.drop 1 else s
def uz (s:Bytes):Bool:=!(rp s&&decide (s.drop 1=[48]))&&zo (digits s)
def rI (s:Bytes):Int:=if rp s=true then -(nK 0 (digits s):Int) else (nK 0 (digits s):Int)
def jK:Int:=9007199254740992
def xk (s:Bytes):Int×Int:=if uz s=true then (if -jK<=rI s/\rI s<=jK then (rI s,0) else (0,5)) else (0,2)
theorem C1 (s:Bytes)(hs:s.length<=1000000000):∀ (k i:Nat),i+k=s.length->Ev2 (λ _ m=>cP s m (i:Int)) (·=if oX (λ j=>iP (s.getD j 0)) i k then .inl () else .inr false):=by
 intro k
 induction k with
 | zero =>
  intro i hi;refine aY ?_;simp only [cP];refine ak O (aa rfl)
 | succ k ih =>
  intro i hi;refine aY ?_;simp only [cP];refine am O ?_;have hb:byt s i=((s.getD i 0).toNat:Int):=gD s i;rw [hb];refine ao (!iP (s.getD i 0)) ?_ ?_
  ·have h:=nO (s.getD i 0);generalize s.getD i 0=b at h ⊢;refine aw O (aI (λ h1=>aa ?_) (λ h1=>aw O (aa ?_)))
   ·have:iP b=false:=by rw [<- Bool.not_eq_true,h]; omega
    simp [this]
   ·refine eqB ?_;rw [decide_eq_true_eq,Bool.not_eq_true',<- Bool.not_eq_true,h];omega
  ·cases hk:iP (s.getD i 0) with
   | false=>exact am Z (aa (by simp only [oX,hk,Bool.false_and]; rfl))
   | true =>
    refine ak G (aw (aK O O) ?_);have:=ih (i+1) O;rw [Int.natCast_add,Int.natCast_one] at this;simp only [oX,hk,Bool.true_and];exact this
theorem Cq (s:Bytes)(p:UInt8->Bool):oX (λ j=>p (s.getD j 0)) 0 s.length=s.all p:=by
 refine eqB ?_;rw [pq,rg];constructor
 ·intro h x hx;obtain ⟨j,hj,rfl⟩:=List.getElem_of_mem hx;have:=h j O O;simpa [hj] using this
 ·intro h j _ hj;have hj:j < s.length:=by omega
  have:=h s[j] (List.getElem_mem hj);simpa [hj] using this
theorem wz (s:Bytes)(hs:s.length<=1000000000):Ev2 (λ n _=>gO n s) (·=uz s):=by
 simp only [gO];have hb:byt s 0=((s.getD 0 0).toNat:Int):=gD s 0;have hneg:rp s=true↔0 < s.length/\s.getD 0 0=45:=by simp [rp]
 have h45:(s.getD 0 0).toNat=45↔s.getD 0 0=45:=⟨λ h=>UInt8.toNat_inj.1 h,λ h=>by rw [h]; rfl⟩
 have body:∀ t:Bytes,t.length<=1000000000->Ev2 (λ n m=>jn (cP t n 0) λ JX =>
   ((if t=([]:Bytes) then some false else ck ((0:Int)<=0/\0 < (t.length:Int)) <| if byt t 0=48 then some (decide ((t.length:Int)=1)) else some true):Option Bool).bind λ Oq=>some Oq) (·=zo t):=by
  intro t ht;have l:=C1 t ht t.length 0 O;rw [Cq] at l;have hc:=xJ t;have hb':byt t 0=((t.getD 0 0).toNat:Int):=gD t 0;have h48:(t.getD 0 0).toNat=48↔t.getD 0 0=48:=⟨λ h=>UInt8.toNat_inj.1 h,λ h=>by rw [h]; rfl⟩
  cases ha:t.all iP with
  | false =>
   rw [ha] at l hc;refine kH false (bU l) (eqB ?_);rw [hc]; simp
  | true =>
   rw [ha] at l hc;refine ia () (bU l) (ag (·=zo t) ?_ (λ x hx=>aa hx));refine aI (λ h=>aa (eqB ?_)) (λ h=>aw ?_ ?_)
   ·rw [hc]; simp [h]
   ·have:=List.length_pos_iff.2 h; omega
   ·rw [hb'];refine aI (λ h1=>aa (eqB ?_)) (λ h1=>aa (eqB ?_))
    ·have h2:=h48.1 O;rw [hc,decide_eq_true_eq];constructor
     ·intro q; exact ⟨h,by simp,.inr O⟩
     ·rintro ⟨_,_,q | q⟩
      ·exact absurd h2 q
      ·omega
    ·rw [hc]; simp only [true_iff];exact ⟨h,by simp,.inl λ q=>h1 (by have:=h48.2 q; omega)⟩
 refine eC (ao (rp s) ?_ ?_)
 ·refine aI (λ h=>aw O (aa (eqB ?_))) (λ h=>aa (eqB ?_))
  ·rw [hneg,hb,decide_eq_true_eq];constructor
   ·intro q; exact ⟨by omega,h45.1 O⟩
   ·rintro ⟨_,q⟩; have:=h45.2 q; omega
  ·rw [hneg];constructor
   ·intro q; cases q
   ·rintro ⟨q,_⟩; omega
 ·rw [km];show Ev2 (λ n m=>if rp s=true then ck _ (if s.drop 1=[48] then some (Sum.inr false) else some (Sum.inl (s.drop 1))) else some (Sum.inl s)) _;refine aI (λ h=>aw ?_ (aI (λ h1=>aa ?_) (λ h1=>aa ?_))) (λ h=>aa ?_)
  ·have:=hneg.1 h; omega
  ·simp [uz,h,h1]
  ·have e:uz s=zo (s.drop 1):=by unfold uz digits; rw [if_pos h,decide_eq_false h1]; simp
   rw [e];exact body _ (by simp; omega)
  ·have e:uz s=zo s:=by simp [uz,h,digits]
   rw [e];exact body _ hs
theorem wx (v:Int):jg v=some (decide (-jK<=v/\v<=jK)):=by
 simp only [jg];by_cases h:(-9007199254740992:Int)<=v
 ·rw [if_pos h];by_cases h2:v<=9007199254740992
  ·simp [h2,jK,h]
  ·simp [h2,jK]
 ·rw [if_neg h,py];refine congrArg some (eqB ?_);rw [decide_eq_true_eq]; unfold jK;constructor
  ·intro q; cases q
  ·intro q; exact absurd q.1 h
theorem xW {s:Bytes}(h:uz s=true):digits s≠[]/\(digits s).all iP=true:=by
 simp only [uz,ro] at h;have:=(xJ _).1 h.2;exact ⟨this.1,this.2.1⟩
theorem GO (s:Bytes)(h:uz s=true):parseIntB 64 s=if (if rp s=true then 9223372036854775808 < nK 0 (digits s) else 9223372036854775808<=nK 0 (digits s)) then .range else .ok (rI s):=by
 obtain ⟨h1,h2⟩:=xW h
 cases s with
 | nil=>exact absurd (by simp [digits,rp]) h1
 | cons c r =>
  have NU:c.toNat=45↔c=45:=⟨λ h=>UInt8.toNat_inj.1 h,λ h=>by rw [h]; rfl⟩
  have hneg:rp (c::r)=decide (c=45):=by simp [rp]
  have hd:(if c.toNat=43\/c.toNat=45 then r else c::r)=digits (c::r):=by
   unfold digits;rw [hneg];by_cases q:c=45
   ·rw [if_pos (.inr (NU.2 q)),if_pos (by simp [q])]; rfl
   ·have e:digits (c::r)=c::r:=by unfold digits; rw [hneg,if_neg (by simp [q])]
    have e2:(if decide (c=45)=true then List.drop 1 (c::r) else c::r)=c::r:=if_neg (by simp [q]);rw [e2,if_neg];rintro (k | k)
    ·rw [e] at h2;have:=zL h2 List.mem_cons_self;omega
    ·exact q (NU.1 k)
  have hp:=Gu _ h1 h2;unfold parseIntB;simp only [hd,hp];rw [hneg];unfold rI;rw [hneg];generalize nK 0 (digits (c::r))=v;by_cases q:c=45
  ·subst q;by_cases hv:v<=18446744073709551615
   ·simp only [hv,if_true];by_cases hw:9223372036854775808 < v
    ·simp [hw]
    ·simp [hw]
   ·simp only [hv,if_false];rw [if_pos]; simp; omega
  ·have q':¬ c.toNat=45:=λ k=>q (NU.1 k);by_cases hv:v<=18446744073709551615
   ·simp only [hv,if_true];by_cases hw:9223372036854775808<=v
    ·simp [q,q',hw]
    ·simp [q,q',hw]
   ·simp only [hv,if_false];rw [if_pos]; simp [q]; omega
theorem yu (s:Bytes)(hs:s.length<=1000000000):Ev2 (λ n _=>kg n s) (·=xk s):=by
 simp only [kg];refine ao _ (wz s hs) ?_
 cases hc:uz s with
 | false=>exact am Z (aa (by simp [xk,hc]))
 | true =>
  refine ak G ?_
  have hp:iZ s 10 64=some (match parseIntB 64 s with | .ok v=>(v,false) | .range=>(intSat 64 s,true) | _=>(0,true)):=by
   unfold iZ;exact bI ⟨Z,Z,by omega⟩
  rw [GO s hc] at hp;have e:xk s=(if -jK<=rI s/\rI s<=jK then (rI s,0) else (0,5)):=by simp [xk,hc]
  rw [e];by_cases hr:(if rp s=true then 9223372036854775808 < nK 0 (digits s) else 9223372036854775808<=nK 0 (digits s))
  ·rw [if_pos hr] at hp;refine ao _ (ar hp rfl) ?_;refine ao true (am rfl (aa rfl)) (am rfl (aa ?_));rw [if_neg];unfold rI jK
   cases hn:rp s with
   | true=>rw [hn,if_pos rfl] at hr; rw [if_pos rfl]; omega
   | false=>rw [hn,if_neg G] at hr; rw [if_neg G]; omega
  ·rw [if_neg hr] at hp;refine ao _ (ar hp rfl) ?_;refine ao (!decide (-jK<=rI s/\rI s<=jK)) ?_ ?_
   ·exact ak G (ao _ (ar (wx _) Z) (aa Z))
   ·by_cases q:-jK<=rI s/\rI s<=jK
    ·rw [if_pos q];exact ak (by simp [q]) (aa rfl)
    ·rw [if_neg q];exact am (by simp only [q,decide_false,Bool.not_false]) (aa rfl)
end Go.Ab.R06
namespace Go.Ab.R06
open Go.Ab Go.Ab.RB Go.Lib
theorem xt (x:Int):IntKind.wrap .u8 x=x % 256:=by simp [IntKind.wrap,IntKind.bits,IntKind.signed]
theorem wrap32 (x:Int):IntKind.wrap .u32 x=x % 4294967296:=by simp [IntKind.wrap,IntKind.bits,IntKind.signed]
theorem shr6 (x:Int):gN .i32 x 6=x / 64:=by
 show x.fdiv (2 ^ 6)=x / 64;rw [Int.fdiv_eq_ediv_of_nonneg _ (by decide)]; rfl
theorem HF (x:Int):gN .i32 x 12=x / 4096:=by
 show x.fdiv (2 ^ 12)=x / 4096;rw [Int.fdiv_eq_ediv_of_nonneg _ (by decide)]; rfl
theorem Hl (x:Int):gN .i32 x 18=x / 262144:=by
 show x.fdiv (2 ^ 18)=x / 262144;rw [Int.fdiv_eq_ediv_of_nonneg _ (by decide)]; rfl
theorem t63:(List.range 256).all (λ n=>cQ .u8 (n:Int) 63 == ((n % 64:Nat):Int))=true:=by kernel_rfl
theorem t128:(List.range 64).all (λ n=>iOr .u8 128 (n:Int) == ((128+n:Nat):Int))=true:=by kernel_rfl
theorem t192:(List.range 32).all (λ n=>iOr .u8 192 (n:Int) == ((192+n:Nat):Int))=true:=by kernel_rfl
theorem t224:(List.range 16).all (λ n=>iOr .u8 224 (n:Int) == ((224+n:Nat):Int))=true:=by kernel_rfl
theorem t240:(List.range 8).all (λ n=>iOr .u8 240 (n:Int) == ((240+n:Nat):Int))=true:=by kernel_rfl
theorem tab {f g:Nat->Int}{m:Nat}(h:(List.range m).all (λ n=>f n == g n)=true)(n:Nat)(hn:n < m):f n=g n:=eq_of_beq (rg.1 h n (List.mem_range.2 hn))
theorem DN (x:Int):cQ .u8 (IntKind.wrap .u8 x) 63=x % 64:=by
 rw [xt];obtain ⟨n,hn⟩:∃ n:Nat,x % 256=n:=⟨(x % 256).toNat,by omega⟩
 rw [hn,tab t63 n O]; omega
theorem BR {x:Int}(h0:0<=x)(h1:x < 64):iOr .u8 128 x=128+x:=by
 obtain ⟨n,rfl⟩:∃ n:Nat,x=n:=⟨x.toNat,by omega⟩
 rw [tab t128 n O]; omega
theorem Hj {x:Int}(h0:0<=x)(h1:x < 32):iOr .u8 192 x=192+x:=by
 obtain ⟨n,rfl⟩:∃ n:Nat,x=n:=⟨x.toNat,by omega⟩
 rw [tab t192 n O]; omega
theorem HJ {x:Int}(h0:0<=x)(h1:x < 16):iOr .u8 224 x=224+x:=by
 obtain ⟨n,rfl⟩:∃ n:Nat,x=n:=⟨x.toNat,by omega⟩
 rw [tab t224 n O]; omega
theorem Hf {x:Int}(h0:0<=x)(h1:x < 8):iOr .u8 240 x=240+x:=by
 obtain ⟨n,rfl⟩:∃ n:Nat,x=n:=⟨x.toNat,by omega⟩
 rw [tab t240 n O]; omega
def ib (r:Int):Prop:=(0<=r/\r < 55296)\/(57343 < r/\r<=1114111)
theorem xX (p:Bytes)(r:Int)(h:ib r)(hp:p.length<=100000000000):ec p r=some (p++encodeRune r):=by
 have h0:0<=r/\r<=1114111:=by unfold ib at h; omega
 have hw:IntKind.wrap .u32 r=r:=by rw [wrap32]; omega
 unfold ec;rw [hw];by_cases h1:r<=127
 ·have hw8:IntKind.wrap .u8 r=r:=by rw [xt]; omega
  rw [if_pos h1,hw8,bI O,bI (by simp; omega)];simp only [encodeRune,encodeRuneZ,if_pos (show 0<=r/\r<=127 from ⟨h0.1,h1⟩),bx,ld,u8]
 rw [if_neg h1];unfold dx;rw [hw,DN,shr6,HF,Hl,DN,DN];have o1:iOr .u8 128 (r % 64)=128+r % 64:=BR O O;have o2:iOr .u8 128 (r / 64 % 64)=128+r / 64 % 64:=BR O O;have o3:iOr .u8 128 (r / 4096 % 64)=128+r / 4096 % 64:=BR O O;rw [o1,o2,o3];have n1:¬ (0<=r/\r<=127):=by omega
 by_cases h2:r<=2047
 ·have hw8:IntKind.wrap .u8 (r / 64)=r / 64:=by rw [xt]; omega
  rw [if_pos h2,hw8,Hj O O,bI O,bI O,bI O,bI (by simp; omega)];simp only [encodeRune,encodeRuneZ,if_neg n1,if_pos (show 128<=r/\r<=2047 by omega),bx,ld,u8,py]
 rw [if_neg h2];have n2:¬ (128<=r/\r<=2047):=by omega
 by_cases h3:r < 55296\/(57343 < r/\r<=65535)
 ·have hw8:IntKind.wrap .u8 (r / 4096)=r / 4096:=by rw [xt]; omega
  have e:((if r < 55296 then some true else if 57343 < r then some (decide (r<=65535)) else some false):Option Bool)=some true:=by
   rcases h3 with q | q
   ·rw [if_pos q]
   ·rw [if_neg O,if_pos q.1]; simp [q.2]
  rw [e,py,if_pos rfl,hw8,HJ O O,bI O,bI O,bI O,bI O,bI O,bI (by simp; omega)];simp only [encodeRune,encodeRuneZ,if_neg n1,if_neg n2,if_pos (show (2048<=r/\r < 55296)\/(57343 < r/\r<=65535) by omega),bx,ld,u8,py]
 ·have h4:65535 < r:=by unfold ib at h; omega
  have hw8:IntKind.wrap .u8 (r / 262144)=r / 262144:=by rw [xt]; omega
  have e:((if r < 55296 then some true else if 57343 < r then some (decide (r<=65535)) else some false):Option Bool)=some false:=by
   rw [if_neg O,if_pos O]; simp; omega
  have e2:((if 65535 < r then some (decide (r<=1114111)) else some false):Option Bool)=some true:=by rw [if_pos h4]; simp; omega
  rw [e,py,if_neg G,e2,py,if_pos rfl,hw8,Hf O O,bI O,bI O,bI O,bI O,bI O,bI O,bI O,bI (by simp; omega)];simp only [encodeRune,encodeRuneZ,if_neg n1,if_neg n2,if_neg (show ¬ ((2048<=r/\r < 55296)\/(57343 < r/\r<=65535)) by omega),if_pos (show 65536<=r/\r<=1114111 by omega),bx,ld,u8,py]
theorem jB (l:Bytes)(h:l≠[]):decodeGo (str l)=decodeL l:=by
 unfold decodeGo;rw [if_neg]
 ·rfl
 ·rw [jw]; intro q; exact h (List.length_eq_zero_iff.1 q)
theorem nu (r:Int)(_h:ib r):1<=(encodeRune r).length/\(encodeRune r).length<=4:=by
 unfold encodeRune encodeRuneZ;rw [n7]
 repeat' split
 all_goals simp
theorem Ay (r:Int)(h:ib r)(t:Bytes):decodeL (encodeRune r++t)=(r.toNat,(encodeRune r).length):=by
 have h0:0<=r/\r<=1114111:=by unfold ib at h; omega
 have hb:∀ x:Int,0<=x->x < 256->(x.toNat.toUInt8).toNat=x.toNat:=λ x a b=>by
  show (UInt8.ofNat x.toNat).toNat=_;rw [UInt8.toNat_ofNat']; omega
 rw [decodeL_N];by_cases h1:r<=127
 ·have e:encodeRune r=[r.toNat.toUInt8]:=by simp only [encodeRune,encodeRuneZ,if_pos (show 0<=r/\r<=127 from ⟨h0.1,h1⟩),bx,ld]
  rw [e];have b0:=hb r O O;simp only [List.cons_append,List.getD_cons_zero,b0];unfold decodeN;rw [if_pos O]; rfl
 have n1:¬ (0<=r/\r<=127):=by omega
 by_cases h2:r<=2047
 ·have e:encodeRune r=[(192+r / 64).toNat.toUInt8,(128+r % 64).toNat.toUInt8]:=by
   simp only [encodeRune,encodeRuneZ,if_neg n1,if_pos (show 128<=r/\r<=2047 by omega),bx,ld]
  rw [e];have b0:=hb (192+r / 64) O O;have b1:=hb (128+r % 64) O O;simp only [List.cons_append,List.getD_cons_zero,List.getD_cons_succ,b0,b1,aq,List.nil_append];unfold decodeN;rw [if_neg O,if_pos O,if_pos O];refine Prod.ext ?_ rfl;show _=r.toNat;simp only; omega
 have n2:¬ (128<=r/\r<=2047):=by omega
 by_cases h3:r < 55296\/(57343 < r/\r<=65535)
 ·have e:encodeRune r=[(224+r / 4096).toNat.toUInt8,(128+r / 64 % 64).toNat.toUInt8,(128+r % 64).toNat.toUInt8]:=by
   simp only [encodeRune,encodeRuneZ,if_neg n1,if_neg n2,if_pos (show (2048<=r/\r < 55296)\/(57343 < r/\r<=65535) by omega),bx,ld]
  rw [e];have b0:=hb (224+r / 4096) O O;have b1:=hb (128+r / 64 % 64) O O;have b2:=hb (128+r % 64) O O;simp only [List.cons_append,List.getD_cons_zero,List.getD_cons_succ,b0,b1,b2,aq,List.nil_append];unfold decodeN;rw [if_neg O,if_neg O,if_pos O,if_pos O];refine Prod.ext ?_ rfl;show _=r.toNat;simp only; omega
 ·have h4:65535 < r:=by unfold ib at h; omega
  have e:encodeRune r=[(240+r / 262144).toNat.toUInt8,(128+r / 4096 % 64).toNat.toUInt8,(128+r / 64 % 64).toNat.toUInt8,(128+r % 64).toNat.toUInt8]:=by
   simp only [encodeRune,encodeRuneZ,if_neg n1,if_neg n2,if_neg (show ¬ ((2048<=r/\r < 55296)\/(57343 < r/\r<=65535)) by omega),if_pos (show 65536<=r/\r<=1114111 by omega),bx,ld]
  rw [e];have b0:=hb (240+r / 262144) O O;have b1:=hb (128+r / 4096 % 64) O O;have b2:=hb (128+r / 64 % 64) O O;have b3:=hb (128+r % 64) O O;simp only [List.cons_append,List.getD_cons_zero,List.getD_cons_succ,b0,b1,b2,b3,aq,List.nil_append];unfold decodeN;rw [if_neg O,if_neg O,if_neg O,if_pos O,if_pos O];refine Prod.ext ?_ rfl;show _=r.toNat;simp only; omega
theorem vV (r:Int)(h:ib r)(t:Bytes):validD (encodeRune r++t)=validD t:=by
 have hl:=nu r h
 have Iw:encodeRune r++t≠[]:=by
  intro q; rw [List.append_eq_nil_iff] at q; rw [q.1] at hl; simp at hl
 rw [validD_step _ Iw,Ay r h t,if_neg]
 ·simp
 ·rintro ⟨a,b⟩;have hr:r=65533:=by omega
  subst hr;simp [encodeRune,encodeRuneZ] at b
theorem kK (l:Bytes)(h:l≠[]):1<=(decodeL l).2/\(decodeL l).2<=l.length/\(¬ ((decodeL l).1=65533/\(decodeL l).2=1)->ib ((decodeL l).1:Int)/\encodeRune ((decodeL l).1:Int)=l.take (decodeL l).2):=by
 have hl:0 < l.length:=List.length_pos_iff.2 h;have hd:=decN l.length (l.getD 0 0).toNat (l.getD 1 0).toNat (l.getD 2 0).toNat (l.getD 3 0).toNat O (UInt8.toNat_lt _);rw [<- decodeL_N] at hd;refine ⟨hd.1,hd.2.1,λ q=>⟨?_,encode_decode l h q⟩⟩;have:=hd.2.2.2.2.2;unfold ib; omega
theorem ze (l:Bytes)(h:l≠[]):validD l=true↔¬ ((decodeL l).1=65533/\(decodeL l).2=1)/\validD (l.drop (decodeL l).2)=true:=by
 rw [validD_step l h];by_cases q:(decodeL l).1=65533/\(decodeL l).2=1
 ·simp [q]
 ·simp [q]
end Go.Ab.R06
namespace Go.Ab.R06
open Go.Ab Go.Ab.RB Go.Lib
theorem FV (f:Bytes)(r:Int)(hr:ib r)(h:f.length<=10000000000):dJ (cw.mk f) r=some (((encodeRune r).length:Int),false,cw.mk (f++encodeRune r)):=by
 have hl:=nu r hr;unfold dJ gb;rw [py,xX f r hr O,py];have e:((f++encodeRune r).length:Int) - (f.length:Int)=(encodeRune r).length:=by rw [dg]; omega
 rw [e,bI (aK O O)]
theorem bstr (f:Bytes)(h:f.length<=1000000000000):fu (cw.mk f)=some (f,cw.mk f):=by
 unfold fu;rw [bI (by simp only; omega)]
theorem G2 (s:Bytes):j9 s=some (decide (s.length<=4096)&&validD s):=by
 unfold j9;by_cases h:(s.length:Int)<=4096
 ·have hv:eT s=some (validD s):=by unfold eT; exact bI O
  rw [if_pos h,hv];simp; omega
 ·rw [if_neg h];simp; intro q; omega
end Go.Ab.R06
namespace Go.Ab.R06
open Go.Ab Go.Ab.RB Go.Lib
def rj (b:UInt8):Option Nat:=if 48<=b.toNat/\b.toNat<=57 then some (b.toNat - 48) else if 97<=b.toNat/\b.toNat<=102 then some (b.toNat - 87) else none
def CV:Bytes:=[48,49,50,51,52,53,54,55,56,57,97,98,99,100,101,102]
theorem hexT:(List.range 256).all (λ n=>indexByte CV (UInt8.ofNat n) == (match rj (UInt8.ofNat n) with | some d=>(d:Int) | none=>-1))=true:=by kernel_rfl
theorem wi (b:UInt8):indexByte CV b=match rj b with | some d=>(d:Int) | none=>-1:=by
 have:=eq_of_beq (rg.1 hexT b.toNat (List.mem_range.2 b.toNat_lt));simpa using this
theorem EY {b:UInt8}{d:Nat}(h:rj b=some d):d < 16:=by
 unfold rj at h;split at h
 ·cases h; omega
 ·split at h
  ·cases h; omega
  ·cases h
def cD:Nat->Bytes->Nat->Nat×Nat
 | 0,_,a=>(a,0)
 | _+1,[],a=>(a,0)
 | k+1,b::r,a=>match rj b with
  | some d=>((cD k r (16*a+d)).1,(cD k r (16*a+d)).2+1)
  | none=>(a,0)
theorem pZ:∀ (k:Nat) (l:Bytes) (a:Nat),(cD k l a).2<=k/\(cD k l a).2<=l.length
 | 0,_,_=>⟨n6 _,rd _⟩
 | _+1,[],_=>⟨rd _,n6 _⟩
 | k+1,b::r,a=>by
  unfold cD
  cases rj b with
  | none=>exact ⟨rd _,rd _⟩
  | some d=>have:=pZ k r (16*a+d); simp only [aq]; omega
theorem pV (n:Int)(h0:0<=n)(h1:n < 2147483648):IntKind.wrap .i32 n=n:=by
 simp [IntKind.wrap,IntKind.bits,IntKind.signed];omega
theorem GV (s:Bytes)(_hs:s.length<=1000000000):∀ (k i a:Nat),i+k=6->i<=s.length->a < 16 ^ i->Ev2 (λ _ m=>cO s m (a:Int) (i:Int))
  (·=(((cD k (s.drop i) a).1:Int),((i+(cD k (s.drop i) a).2:Nat):Int))):=by
 intro k
 induction k with
 | zero =>
  intro i a hi hl ha;refine aY ?_;simp only [cO];refine ao false ?_ (ak G (aa (by simp [cD])));exact aI (λ h=>aa (by simp; omega)) (λ h=>aa rfl)
 | succ k ih =>
  intro i a hi hl ha;refine aY ?_;simp only [cO];by_cases h:i < s.length
  ·refine ao true (am O (aa (by simp; omega))) (am Z (aw O ?_));have hb:byt s i=((s.getD i 0).toNat:Int):=gD s i;rw [hb]
   have hd:s.drop i=s.getD i 0::s.drop (i+1):=by
    rw [List.getD_eq_getElem?_getD,List.getElem?_eq_getElem h,sm];exact List.drop_eq_getElem_cons h
   rw [hd];generalize s.getD i 0=b
   have hx:strings_IndexByte ([48,49,50,51,52,53,54,55,56,57,97,98,99,100,101,102]:Bytes) (b.toNat:Int)=some (indexByte CV b):=by
    unfold strings_IndexByte;have:((b.toNat:Int).toNat.toUInt8)=b:=by simp
    rw [this]; rfl
   refine ao _ (ar hx Z) ?_;rw [wi];unfold cD
   cases hh:rj b with
   | none=>exact am (by decide) (aa G)
   | some d =>
    have hlt:=EY hh;have hp:16 ^ i<=16 ^ 5:=Nat.pow_le_pow_right (by decide) O;have hp5:(16:Nat) ^ 5=1048576:=rfl;refine ak G (aw (aK O O) ?_);have e1:IntKind.wrap .i32 (16*(a:Int))=16*(a:Int):=pV _ O O;have e2:IntKind.wrap .i32 (d:Int)=(d:Int):=pV _ O O
    have e3:IntKind.wrap .i32 (16*(a:Int)+(d:Int))=((16*a+d:Nat):Int):=by
     rw [pV _ O O]; omega
    rw [e1,e2,e3];have:=ih (i+1) (16*a+d) O O  (by rw [Nat.pow_succ]; omega);rw [show (((i+1:Nat)):Int)=(i:Int)+1 by omega] at this;refine b7 this λ r hr=>?_;rw [hr];refine Prod.ext rfl ?_;show ((i+1+_:Nat):Int)=((i+(_+1):Nat):Int);omega
  ·refine ao false (ak O (aa Z)) (ak G (aa ?_));rw [List.drop_of_length_le O];simp [cD]
def ga (s:Bytes):Int×Int×Int :=
 let h:=cD 6 s 0
 if h.2=s.length then (0,0,40)
 else if s.getD h.2 0≠125\/h.2=0\/(1 < h.2/\s.getD 0 0=48)\/validRune (h.1:Int)=false then (0,0,2)
 else ((h.1:Int),((h.2+1:Nat):Int),0)
theorem xy {b:UInt8}{n:Nat}(hn:n < 256):b.toNat=n↔b=UInt8.ofNat n:=by
 constructor
 ·intro h; apply UInt8.toNat_inj.1; rw [h,UInt8.toNat_ofNat']; omega
 ·intro h; rw [h,UInt8.toNat_ofNat']; omega
theorem EA {s:Bytes}{v c:Nat}(h:cD 6 s 0=(v,c)):ga s=if c=s.length then (0,0,40) else if s.getD c 0≠125\/c=0\/(1 < c/\s.getD 0 0=48)\/validRune (v:Int)=false then (0,0,2) else ((v:Int),((c+1:Nat):Int),0):=by
 unfold ga; rw [h]
theorem EN (s:Bytes)(hs:s.length<=1000000000):Ev2 (λ n _=>eN n s) (·=ga s):=by
 simp only [eN];have l:=GV s hs 6 0 0 rfl (rd _) (by decide);rw [List.drop_zero,Nat.zero_add] at l;have hle:=pZ 6 s 0;refine ao _ (bU l) ?_;obtain ⟨v,c,hh⟩:∃ v c,cD 6 s 0=(v,c):=⟨_,_,rfl⟩
 have hP:=EA hh;rw [hh] at hle ⊢;simp only at hle ⊢;refine aI (λ h=>aa ?_) (λ h=>?_)
 ·rw [hP,if_pos O]
 rw [if_neg (show ¬ c=s.length by omega)] at hP;have hb:byt s c=((s.getD c 0).toNat:Int):=gD s c;have hb0:byt s 0=((s.getD 0 0).toNat:Int):=gD s 0;have h125:(s.getD c 0).toNat=125↔s.getD c 0=125:=xy (by decide);have h48:(s.getD 0 0).toNat=48↔s.getD 0 0=48:=xy (by decide);have hv:dG (v:Int)=some (validRune (v:Int)):=rfl
 have key:Ev2 (λ _ _=>(ck ((0:Int)<=(c:Int)/\(c:Int) < (s.length:Int)) <|
  if byt s c=125 then
   if (c:Int)=0 then some true
   else
   if 1 < (c:Int) then
    ck ((0:Int)<=0/\0 < (s.length:Int)) <|
    if byt s 0=48 then some true
    else (dG (v:Int)).bind λ J1=>some (!J1)
   else (dG (v:Int)).bind λ It=>some (!It)
  else some true:Option Bool)) (·=decide (s.getD c 0≠125\/c=0\/(1 < c/\s.getD 0 0=48)\/validRune (v:Int)=false)):=by
  refine aw O ?_;rw [hb,hb0];refine aI (λ h1=>aI (λ h2=>aa ?_) (λ h2=>aI (λ h3=>aw O (aI (λ h4=>aa ?_) (λ h4=>?_))) (λ h3=>?_))) (λ h1=>aa ?_)
  ·symm; rw [decide_eq_true_eq]; right; left; omega
  ·symm; rw [decide_eq_true_eq]; right; right; left; exact ⟨by omega,h48.1 O⟩
  ·have q1:¬ s.getD c 0≠125:=λ q=>q (h125.1 O);have q2:¬ (1 < c/\s.getD 0 0=48):=λ q=>h4 (by have:=h48.2 q.2; omega);refine ao _ (ar hv Z) (aa (eqB ?_));rw [decide_eq_true_eq];have:¬ c=0:=by omega
   simp only [q1,q2,false_or,this,Bool.not_eq_true']
  ·have q1:¬ s.getD c 0≠125:=λ q=>q (h125.1 O);refine ao _ (ar hv Z) (aa (eqB ?_));rw [decide_eq_true_eq];have a1:¬ c=0:=by omega
   have a2:¬ 1 < c:=by omega
   simp only [q1,a1,a2,false_or,false_and,Bool.not_eq_true']
  ·symm; rw [decide_eq_true_eq]; left; intro q; exact h1 (by have:=h125.2 q; omega)
 refine ao _ key ?_;refine aI (λ h1=>aa ?_) (λ h1=>aw (aK O O) (aa ?_))
 ·rw [hP,if_pos (of_decide_eq_true h1)]
 ·rw [hP,if_neg (λ q=>h1 (decide_eq_true q))];refine Prod.ext rfl (Prod.ext ?_ rfl);show (c:Int)+1=((c+1:Nat):Int);omega
def d5 (s:Bytes):Int×Int×Int:=match s with
 | []=>(0,0,40)
 | b::r=>if b.toNat=110 then (10,1,0) else if b.toNat=114 then (13,1,0) else if b.toNat=116 then (9,1,0)
  else if b.toNat=34\/b.toNat=92 then ((b.toNat:Int),1,0)
  else if b.toNat=117 then (match r with
   | []=>(0,0,40)
   | c::t=>if c.toNat=123 then ((ga t).1,(ga t).2.1+2,(ga t).2.2) else (0,0,2))
  else (0,0,2)
theorem rn (b:UInt8)(r:Bytes):d5 (b::r)=if b.toNat=110 then (10,1,0) else if b.toNat=114 then (13,1,0) else if b.toNat=116 then (9,1,0)
  else if b.toNat=34\/b.toNat=92 then ((b.toNat:Int),1,0)
  else if b.toNat=117 then (match r with
   | []=>(0,0,40)
   | c::t=>if c.toNat=123 then ((ga t).1,(ga t).2.1+2,(ga t).2.2) else (0,0,2))
  else (0,0,2):=rfl
theorem Ad (s:Bytes):0<=(ga s).2.1/\(ga s).2.1<=s.length/\((ga s).2.2=0->ib (ga s).1)/\0<=(ga s).2.2:=by
 have hle:=pZ 6 s 0;unfold ga;generalize cD 6 s 0=h at hle ⊢;obtain ⟨v,c⟩:=h;simp only at hle ⊢;split
 ·simp <;> omega
 ·split
  ·simp <;> omega
  ·rename_i h1 h2;refine ⟨by simp only; omega,by simp only; omega,λ _=>?_,by simp⟩
   have:validRune (v:Int)=true:=by
    cases hv:validRune (v:Int) with
    | true=>rfl
    | false=>exact absurd (.inr (.inr (.inr hv))) h2
   simp only [validRune,decide_eq_true_eq] at this;unfold ib; simp only; omega
theorem ra (s:Bytes):0<=(d5 s).2.1/\(d5 s).2.1<=s.length+1/\((d5 s).2.2=0->ib (d5 s).1/\(d5 s).2.1<=s.length)/\0<=(d5 s).2.2:=by
 unfold d5;split
 ·simp
 ·rename_i b r;have hb:=b.toNat_lt;split
  ·simp [ib] <;> omega
  split
  ·simp [ib] <;> omega
  split
  ·simp [ib] <;> omega
  split
  ·simp [ib] <;> omega
  split
  ·split
   ·simp
   ·rename_i c t;have:=Ad t;split
    ·refine ⟨by simp only; omega,by simp only [aq]; omega,λ q=>⟨this.2.2.1 q,by simp only [aq]; omega⟩,this.2.2.2⟩
    ·simp <;> omega
  ·simp <;> omega
theorem Fb (s:Bytes)(hs:s.length<=1000000000):Ev2 (λ n _=>ju n s) (·=d5 s):=by
 simp only [ju]
 cases s with
 | nil=>exact am Z (aa Z)
 | cons b r =>
  have hl:((b::r).length:Int)=(r.length:Int)+1:=by simp
  refine ak G (aw O ?_);have hb:byt (b::r) 0=(b.toNat:Int):=rfl;have hbl:=b.toNat_lt;rw [hb];have hP:=rn b r;refine aI (λ h=>aa (by rw [hP,if_pos O])) (λ h1=>?_);rw [if_neg (show ¬ b.toNat=110 by omega)] at hP;refine aI (λ h=>aa (by rw [hP,if_pos O])) (λ h2=>?_);rw [if_neg (show ¬ b.toNat=114 by omega)] at hP;refine aI (λ h=>aa (by rw [hP,if_pos O])) (λ h3=>?_);rw [if_neg (show ¬ b.toNat=116 by omega)] at hP;refine ao (decide (b.toNat=34\/b.toNat=92)) ?_ ?_
  ·by_cases h:b.toNat=34
   ·exact am O (aa (by simp [h]))
   ·exact ak O (aa (eqB (by rw [decide_eq_true_eq,decide_eq_true_eq]; omega)))
  by_cases h4:b.toNat=34\/b.toNat=92
  ·rw [if_pos h4] at hP;rw [hP];refine am (by simp [h4]) (aw O (aa ?_));rw [pV _ O O]
  rw [if_neg h4] at hP;refine ak (by simp only [decide_eq_true_eq]; exact h4) ?_;refine aI (λ h5=>?_) (λ h5=>aa (by rw [hP,if_neg O]));rw [if_pos (show b.toNat=117 by omega)] at hP;rw [hP]
  cases r with
  | nil=>exact am G (aa Z)
  | cons c t =>
   have hl2:((b::c::t).length:Int)=(t.length:Int)+2:=by simp <;> omega
   refine ak O (aw O ?_);have hc:byt (b::c::t) 1=(c.toNat:Int):=rfl;rw [hc];refine aI (λ h6=>aw O ?_) (λ h6=>aa (by show _=if c.toNat=123 then _ else _; rw [if_neg O]));have e6:(if c.toNat=123 then ((ga t).1,(ga t).2.1+2,(ga t).2.2) else ((0,0,2):Int×Int×Int))=((ga t).1,(ga t).2.1+2,(ga t).2.2):=if_pos O;show Ev2 _ (·=if c.toNat=123 then ((ga t).1,(ga t).2.1+2,(ga t).2.2) else ((0,0,2):Int×Int×Int));rw [e6,km];show Ev2 (λ n m=>(eN n t).bind _) _;have hle:=Ad t;have htl:t.length<=1000000000:=by simp at hs; omega
   exact ao _ (EN t htl) (aw (aK O O) (aa Z))
end Go.Ab.R06
namespace Go.Ab.R06
open Go.Ab Go.Ab.RB Go.Lib
def nW (c:Nat×Nat):Prop:=(c.1=65533/\c.2=1)\/c.1 < 32\/c.1=127
instance (c:Nat×Nat):Decidable (nW c):=inferInstanceAs (Decidable (_\/_))
def pJ:Nat->Bytes->Nat->Bytes->(Int×Bytes)⊕(Bytes×Int×Int)
 | 0,_,at',acc=>.inl ((at':Int),acc)
 | _+1,[],at',acc=>.inl ((at':Int),acc)
 | n+1,b::r,at',acc=>if b.toNat=34 then .inl ((at':Int),acc)
  else if (decodeL (b::r)).1=92 then
   (if (d5 r).2.2=0 then pJ n (r.drop (d5 r).2.1.toNat) (at'+((d5 r).2.1.toNat+1)) (acc++encodeRune (d5 r).1) else .inr ([],0,(d5 r).2.2))
  else if nW (decodeL (b::r)) then .inr ([],0,2)
  else pJ n ((b::r).drop (decodeL (b::r)).2) (at'+(decodeL (b::r)).2) (acc++encodeRune ((decodeL (b::r)).1:Int))
theorem pX (n:Nat)(b:UInt8)(r:Bytes)(at':Nat)(acc:Bytes):pJ (n+1) (b::r) at' acc=if b.toNat=34 then .inl ((at':Int),acc)
  else if (decodeL (b::r)).1=92 then
   (if (d5 r).2.2=0 then pJ n (r.drop (d5 r).2.1.toNat) (at'+((d5 r).2.1.toNat+1)) (acc++encodeRune (d5 r).1) else .inr ([],0,(d5 r).2.2))
  else if nW (decodeL (b::r)) then .inr ([],0,2)
  else pJ n ((b::r).drop (decodeL (b::r)).2) (at'+(decodeL (b::r)).2) (acc++encodeRune ((decodeL (b::r)).1:Int)):=by rw [pJ]
theorem GB (s:Bytes)(hs:s.length<=1000000000):∀ (k:Nat) (l:Bytes) (i:Nat) (f:Bytes),l.length < k->s.drop i=l->i+l.length=s.length->f.length<=4*i->Ev2 (λ n m=>ew n s m (i:Int) f) (·=pJ k l i f):=by
 intro k
 induction k with
 | zero=>intro l i f h; omega
 | succ k ih =>
  intro l i f hk hl hi hf;refine aY ?_;simp only [ew]
  cases l with
  | nil =>
   simp only [cl] at hi;refine ao false (ak O (aa rfl)) (ak G (aa ?_));rw [pJ]
  | cons b r =>
   have hil:i < s.length:=by simp only [aq] at hi; omega
   have hb:byt s i=(b.toNat:Int):=by
    rw [gD]
    have:s.getD i 0=b:=by
     have:=List.drop_eq_getElem_cons hil;rw [hl] at this;rw [List.getD_eq_getElem?_getD,List.getElem?_eq_getElem hil];exact (List.cons.inj this).1.symm
    rw [this]
   have hr:s.drop (i+1)=r:=by
    have:=List.drop_eq_getElem_cons hil;rw [hl] at this;exact (List.cons.inj this).2.symm
   have hlr:r.length+i+1=s.length:=by simp only [aq] at hi; omega
   have hU:=pX k b r i f;rw [hb];by_cases h34:b.toNat=34
   ·rw [if_pos h34] at hU;exact ao false (am O (aw O (aa (by simp; omega)))) (ak G (aa hU.symm))
   rw [if_neg h34] at hU;refine ao true (am O (aw O (aa (by simp; omega)))) (am rfl (aw O ?_));rw [km,Int.toNat_natCast,hl]
   have hd:bg (b::r)=some (((decodeL (b::r)).1:Int),((decodeL (b::r)).2:Int)):=by
    unfold bg;rw [jB _ G]
   refine ao _ (ar hd rfl) ?_;have hdf:=kK (b::r) G;generalize hD:decodeL (b::r)=D at hU hdf ⊢;obtain ⟨c,w⟩:=D;simp only at hU hdf ⊢;by_cases h92:c=92
   ·rw [if_pos h92] at hU;have hes:=ra r;have Ij:=Fb r O
    have sub1:sub s ((i:Int)+1) (s.length:Int)=r:=by
     rw [km,show ((i:Int)+1).toNat=i+1 by omega,hr]
    generalize d5 r=E at hU hes Ij;obtain ⟨x,y,z⟩:=E;simp only at hU hes Ij;by_cases hz:z=0
    ·rw [if_pos hz] at hU;refine eC (am O (aw (aK O O) (aw O ?_)));rw [sub1];obtain ⟨e1,e2⟩:=hes.2.2.1 hz;obtain ⟨y',rfl⟩:∃ y':Nat,y=y':=⟨y.toNat,by omega⟩
     rw [Int.toNat_natCast] at hU;refine ao _ Ij (am hz (aw (aK (by dsimp only; omega) (by dsimp only; omega)) (aa ?_)));refine ao _ (ar (FV f x e1 O) rfl) (aw (aK (by dsimp only; omega) (by dsimp only; omega)) ?_);have hle:=nu x e1;have:=ih (r.drop y') (i+(y'+1)) (f++encodeRune x) (by rw [n8]; simp only [aq] at hk; omega) (by rw [<- hr,List.drop_drop]; congr 1; omega) (by rw [n8]; omega) (by rw [dg]; omega);rw [<- hU] at this;rw [show ((i+(y'+1):Nat):Int)=(i:Int)+((y':Int)+1) by omega] at this;exact this
    ·rw [if_neg hz] at hU;refine eC (am O (aw (aK O O) (aw O ?_)));rw [sub1];refine ao _ Ij (ak hz (aa ?_));exact hU.symm
   ·rw [if_neg h92] at hU
    have hbad:Ev2 (λ _ _=>(if (c:Int)=65533 then if (w:Int)=1 then some true else if (c:Int) < 32 then some true else some (decide ((c:Int)=127)) else if (c:Int) < 32 then some true else some (decide ((c:Int)=127)):Option Bool)) (·=decide (nW (c,w))):=by
     refine aI (λ h1=>aI (λ h2=>aa ?_) (λ h2=>aI (λ h3=>aa ?_) (λ h3=>aa (eqB ?_)))) (λ h1=>aI (λ h3=>aa ?_) (λ h3=>aa (eqB ?_)))
     ·symm; rw [decide_eq_true_eq]; left; simp only; omega
     ·symm; rw [decide_eq_true_eq]; right; left; simp only; omega
     ·rw [decide_eq_true_eq,decide_eq_true_eq]; unfold nW; simp only; omega
     ·symm; rw [decide_eq_true_eq]; right; left; simp only; omega
     ·rw [decide_eq_true_eq,decide_eq_true_eq]; unfold nW; simp only; omega
    by_cases hbd:nW (c,w)
    ·rw [if_pos hbd] at hU;refine eC (ak O (ao _ hbad (am (by simp only [decide_eq_true_eq]; exact hbd) (aa ?_))));exact hU.symm
    ·rw [if_neg hbd] at hU;refine eC (ak O (ao _ hbad (ak (by simp only [decide_eq_true_eq]; exact hbd) (aa ?_))));have hgood:=hdf.2.2 (λ q=>hbd (.inl q));refine ao _ (ar (FV f c hgood.1 O) rfl) (aw (aK (by simp only [aq] at hdf; omega) (by simp only [aq] at hdf; omega)) ?_);have hle:=nu c hgood.1;have hw:w<=r.length+1:=by simpa using hdf.2.1
     have hw1:=hdf.1;have:=ih ((b::r).drop w) (i+w) (f++encodeRune (c:Int)) (by rw [n8]; simp only [aq] at hk ⊢; omega) (by rw [<- hl,List.drop_drop]) (by rw [n8]; simp only [aq]; omega) (by rw [dg]; omega);rw [<- hU] at this;rw [show ((i+w:Nat):Int)=(i:Int)+(w:Int) by omega] at this;exact this
def Da:Bytes->Bytes×Int×Int
 | []=>([],0,40)
 | b::r=>if b.toNat=34 then (match pJ (r.length+1) r 1 [] with
   | .inl q=>if q.1=((r.length+1:Nat):Int) then ([],0,40) else if 4096 < q.2.length then ([],0,3) else (q.2,q.1+1,0)
   | .inr e=>e)
  else ([],0,2)
theorem vC (b:UInt8)(r:Bytes):Da (b::r)=if b.toNat=34 then (match pJ (r.length+1) r 1 [] with
   | .inl q=>if q.1=((r.length+1:Nat):Int) then ([],0,40) else if 4096 < q.2.length then ([],0,3) else (q.2,q.1+1,0)
   | .inr e=>e)
  else ([],0,2):=rfl
theorem Ei:∀ (k:Nat) (l:Bytes) (i:Nat) (f:Bytes),(∀ a g,pJ k l i f=.inl (a,g)->(i:Int)<=a/\a<=((i+l.length:Nat):Int)/\g.length<=f.length+4*l.length/\((∀ t,validD (f++t)=validD t)->∀ t,validD (g++t)=validD t))/\(∀ x,pJ k l i f=.inr x->x.1=[]/\x.2.1=0/\x.2.2≠0):=by
 intro k
 induction k with
 | zero =>
  intro l i f;refine ⟨λ a g h=>?_,λ x h=>(by rw [pJ] at h; cases h)⟩;rw [pJ] at h; cases h;exact ⟨by omega,by omega,by omega,λ q=>q⟩
 | succ k ih =>
  intro l i f
  cases l with
  | nil =>
   refine ⟨λ a g h=>?_,λ x h=>(by rw [pJ] at h; cases h)⟩;rw [pJ] at h; cases h;exact ⟨by omega,by simp,by simp,λ q=>q⟩
  | cons b r =>
   rw [pX];have hdf:=kK (b::r) G;have hes:=ra r;split
   ·refine ⟨λ a g h=>?_,λ x h=>(by cases h)⟩
    cases h
    exact ⟨by omega,by simp only [aq]; omega,by omega,λ q=>q⟩
   split
   ·split
    ·rename_i hz;obtain ⟨e1,e2⟩:=hes.2.2.1 hz;have hle:=nu _ e1;have hi:=ih (r.drop (d5 r).2.1.toNat) (i+((d5 r).2.1.toNat+1)) (f++encodeRune (d5 r).1);refine ⟨λ a g h=>?_,hi.2⟩;have:=hi.1 a g h;rw [n8,dg] at this;refine ⟨by omega,by simp only [aq]; omega,by simp only [aq]; omega,λ q=>this.2.2.2 λ t=>?_⟩;rw [List.append_assoc,q,vV _ e1]
    ·rename_i hz;refine ⟨λ a g h=>(by cases h),λ x h=>?_⟩
     cases h
     exact ⟨Z,Z,hz⟩
   split
   ·refine ⟨λ a g h=>(by cases h),λ x h=>?_⟩
    cases h
    exact ⟨Z,Z,by decide⟩
   ·rename_i hbd;have hgood:=hdf.2.2 (λ q=>hbd (.inl q));have hle:=nu _ hgood.1;have hi:=ih ((b::r).drop (decodeL (b::r)).2) (i+(decodeL (b::r)).2) (f++encodeRune ((decodeL (b::r)).1:Int));refine ⟨λ a g h=>?_,hi.2⟩;have:=hi.1 a g h;rw [n8,dg] at this;simp only [aq] at this hdf ⊢;refine ⟨by omega,by omega,by omega,λ q=>this.2.2.2 λ t=>?_⟩;rw [List.append_assoc,q,vV _ hgood.1]
theorem Gc (s:Bytes)(hs:s.length<=1000000000):Ev2 (λ n _=>gW n s) (·=Da s):=by
 simp only [gW]
 cases s with
 | nil=>exact am Z (aa Z)
 | cons b r =>
  have hl:((b::r).length:Int)=(r.length:Int)+1:=by simp
  have hln:(b::r).length=r.length+1:=by simp
  refine ak G (aw O ?_);have hb:byt (b::r) 0=(b.toNat:Int):=rfl;rw [hb];rw [vC];refine aI (λ h=>?_) (λ h=>aa (by rw [if_neg (show ¬ b.toNat=34 by omega)]));have l:=GB (b::r) hs (r.length+1) r 1 [] O rfl O G;have hle:=Ei (r.length+1) r 1 [];have e34:b.toNat=34:=by omega
  simp only [e34,if_true];generalize pJ (r.length+1) r 1 []=U at l hle ⊢
  cases U with
  | inr e=>exact kH e (bU l) Z
  | inl q =>
   obtain ⟨a,g⟩:=q;have hq:=hle.1 a g rfl;simp only [cl,Nat.zero_add] at hq;refine ia (a,g) (bU l) ?_;refine aI (λ h=>aa (by simp only at h ⊢; rw [if_pos O])) (λ h=>?_);simp only at h ⊢;rw [if_neg O];refine ao _ (ar Z Z) (aI (λ h1=>aa (by simp only at h1; rw [if_pos O])) (λ h1=>?_));simp only at h1;rw [if_neg O];refine ao _ (ar (bstr g O) rfl) (aw (aK O O) (aa rfl))
theorem Bz (b:UInt8)(h:b.toNat < 128):encodeRune (b.toNat:Int)=[b]:=by
 simp only [encodeRune,encodeRuneZ,if_pos (show (0:Int)<=(b.toNat:Int)/\(b.toNat:Int)<=127 by omega),bx,ld];simp
end Go.Ab.R06
end
section
namespace Go.Ab.R06
open Go.Proofs Go.Ab Go.Ab.RB
attribute [local irreducible] awp eR bq aB aV AV.sub M cN
end Go.Ab.R06
end
section
namespace Go.Ab.R06
open Go.Ab
end Go.Ab.R06
end
section
namespace Go.Ab.R06
open Go.Ab Go.Ab.RB Go.Lib
def pz (s l:Bytes):Int:=(s.length:Int) - (l.length:Int)
theorem wC {s l:Bytes}(h:l <:+ s):pz s l=((s.length - l.length:Nat):Int):=by
 have:=h.length_le;unfold pz; omega
theorem tL {s l:Bytes}(h:l <:+ s):s.drop (s.length - l.length)=l:=by
 obtain ⟨t,rfl⟩:=h;simp
theorem j2 {s r:Bytes}{b:UInt8}(h:(b::r) <:+ s):r <:+ s:=(List.suffix_cons b r).trans h
theorem Ah {s l:Bytes}(k:Nat)(h:l <:+ s):l.drop k <:+ s:=(List.drop_suffix k l).trans h
theorem pY {s r:Bytes}{b:UInt8}:pz s r=pz s (b::r)+1:=by
 unfold pz; simp only [aq]; omega
theorem ta {s l:Bytes}{k:Nat}(hk:k<=l.length):pz s (l.drop k)=pz s l+(k:Int):=by
 unfold pz; rw [n8]; omega
theorem Ax {s l:Bytes}(h:l <:+ s):0<=pz s l:=by have:=h.length_le; unfold pz; omega
theorem AE {s l:Bytes}:pz s l<=s.length:=by unfold pz; omega
theorem AC {s r:Bytes}{b:UInt8}:pz s (b::r) < s.length:=by unfold pz; simp only [aq]; omega
theorem Fy (s:Bytes):pz s s=0:=by unfold pz; omega
theorem oG {s r:Bytes}{b:UInt8}(h:(b::r) <:+ s):byt s (pz s (b::r))=(b.toNat:Int):=by
 rw [wC h,gD];have h1:=tL h;have h2:s.length - (b::r).length < s.length:=by have:=h.length_le; simp only [aq] at this ⊢; omega
 rw [List.drop_eq_getElem_cons h2] at h1;rw [List.getD_eq_getElem?_getD,List.getElem?_eq_getElem h2];exact congrArg _ (congrArg _ (List.cons.inj h1).1)
theorem q7 {s l:Bytes}(h:l <:+ s):sub s (pz s l) (s.length:Int)=l:=by
 rw [km,wC h,Int.toNat_natCast,tL h]
theorem Az {s l l':Bytes}(h:l <:+ s)(h':l' <:+ l):sub s (pz s l) (pz s l')=l.take (l.length - l'.length):=by
 have h1:=h.length_le;have h2:=h'.length_le;rw [wC h,wC (h'.trans h),Ao,List.drop_take,tL h];congr 1; omega
def lF (b:UInt8):Bool:=decide (b.toNat=32)||decide (b.toNat=9)||decide (b.toNat=13)
def kZ (b:UInt8):Nat:=if ko b then 2 else if iP b then 3 else if b.toNat=34 then 5 else if b.toNat=10 then 6 else if b.toNat=35 then 7 else if lF b then 1 else if (lat i7 (b.toNat:Int)).toNat=4 then 4 else 0
theorem HI:(List.range 256).all (λ n=>(lat i7 ((UInt8.ofNat n).toNat:Int)).toNat == kZ (UInt8.ofNat n))=true:=by decide +kernel
theorem rx (b:UInt8):(lat i7 (b.toNat:Int)).toNat=kZ b:=by
 have:=rg.1 HI b.toNat (List.mem_range.2 (UInt8.toNat_lt b));rw [UInt8.ofNat_toNat] at this;exact eq_of_beq this
theorem rm {s r:Bytes}{b:UInt8}(h:(b::r) <:+ s):(0:Int)<=byt s (pz s (b::r))/\byt s (pz s (b::r)) < 256:=by
 rw [oG h];have:=UInt8.toNat_lt b;omega
theorem pj {s r:Bytes}{b:UInt8}(h:(b::r) <:+ s):(0:Int)<=pz s (b::r)/\pz s (b::r) < (s.length:Int):=⟨Ax h,AC⟩
theorem jS (b:UInt8):(kZ b=1↔lF b=true)/\(kZ b=2↔ko b=true)/\(kZ b=3↔iP b=true)/\(kZ b=5↔b.toNat=34)/\(kZ b=6↔b.toNat=10)/\(kZ b=7↔b.toNat=35):=by
 have h1:=nS b;have h2:=nO b;have h3:lF b=true↔b.toNat=32\/b.toNat=9\/b.toNat=13:=by simp [lF,or_assoc]
 unfold kZ
 repeat' split
 all_goals (refine ⟨?_,?_,?_,?_,?_,?_⟩ <;> simp_all <;> omega)
def scx (s l:Bytes)(o:Int)(d:ap):ac:=.mk s (pz s l) o d
theorem nw (s l:Bytes)(o:Int)(d:ap):bX (scx s l o d)=some (!l.isEmpty,scx s l o d):=by
 unfold bX scx;simp only [bt,Prod.mk.injEq,and_true]
 cases l with
 | nil=>simp [pz]
 | cons b r=>simp only [List.isEmpty_cons,Bool.not_false,decide_eq_true_eq]; exact AC
def fm (c:Bool)(l:Bytes):Bytes :=
 match l.dropWhile lF with
 | b::r=>if c&&decide (b.toNat=35) then (b::r).dropWhile (λ x=>!decide (x=10)) else b::r
 | []=>[]
theorem oD {p:UInt8->Bool}(l:Bytes):l.dropWhile p <:+ l:=List.dropWhile_suffix p
theorem rP (c:Bool)(l:Bytes):fm c l <:+ l:=by
 unfold fm;have h:=oD (p:=lF) l;split
 ·rename_i b r hb;rw [hb] at h;split
  ·exact (oD _).trans h
  ·exact h
 ·exact List.nil_suffix
theorem yt:∀ (l:Bytes),(indexByte l 10 < 0->l.dropWhile (λ x=>!decide (x=10))=[])/\(0<=indexByte l 10->l.dropWhile (λ x=>!decide (x=10))=l.drop (indexByte l 10).toNat/\(indexByte l 10).toNat < l.length)
 | []=>by simp [indexByte]
 | b::r=>by
  have ih:=yt r;have hge:=indexByte_ge r 10;unfold indexByte;by_cases h:b=10
  ·subst h; simp
  ·rw [if_neg (by simpa using h)];simp only [List.dropWhile_cons,h,decide_false,Bool.not_false,if_true];by_cases hn:indexByte r 10 < 0
   ·rw [if_pos (by rw [beq_iff_eq]; omega)];exact ⟨λ _=>ih.1 hn,λ h=>by omega⟩
   ·rw [if_neg (by rw [beq_iff_eq]; omega)];have:=ih.2 O;refine ⟨λ h=>by omega,λ _=>⟨?_,?_⟩⟩
    ·rw [this.1,show (indexByte r 10+1).toNat=(indexByte r 10).toNat+1 by omega,List.drop_succ_cons]
    ·simp only [aq]; omega
theorem Hr (l:Bytes):strings_IndexByte l 10=some (indexByte l 10):=rfl
theorem vX {s r:Bytes}{b:UInt8}{o:Int}{d:ap}(h:(b::r) <:+ s)(h1:kZ b≠1)(h7:¬ (kZ b=7/\o < 0)):Ev2 (λ _ m=>bE m (scx s (b::r) o d)) (·=.inr (scx s (b::r) o d)):=by
 refine aY ?_;simp only [bE];refine ao _ (ar (nw s (b::r) o d) Z) (am G ?_);simp only [scx];refine aw (pj h) (aw (rm h) ?_);simp only [oG h,rx];refine kH _ (ak O ?_) rfl;by_cases h7':kZ b=7
 ·exact ao false (am O (aa (decide_eq_false O))) (ak G (aa Z))
 ·exact ao false (ak O (aa Z)) (ak G (aa Z))
theorem xK {s:Bytes}{o:Int}{d:ap}:Ev2 (λ _ m=>bE m (scx s [] o d)) (·=.inl (scx s [] o d)):=by
 refine aY ?_;simp only [bE];exact ao _ (ar (nw s [] o d) Z) (ak G (aa Z))
def skR (c:Bool)(l:Bytes)(x:ac):ac⊕ac:=if (fm c l).isEmpty then .inl x else .inr x
theorem AA (s:Bytes)(hs:s.length<=1000000000)(o:Int)(d:ap):∀ (l:Bytes),l <:+ s->Ev2 (λ _ m=>bE m (scx s l o d)) (·=skR (decide (o < 0)) l (scx s (fm (decide (o < 0)) l) o d))
 | [],_=>xK
 | b::r,h=>by
  by_cases h1:kZ b=1
  ·have hb:=(jS b).1.1 h1
   have e:fm (decide (o < 0)) (b::r)=fm (decide (o < 0)) r:=by
    unfold fm; rw [List.dropWhile_cons_of_pos hb]
   unfold skR;rw [e];have ih:=AA s hs o d r (j2 h);unfold skR at ih;refine aY ?_;simp only [bE];refine ao _ (ar (nw s (b::r) o d) Z) (am G ?_);simp only [scx];have:=pj h;refine aw (pj h) (aw (rm h) ?_);simp only [oG h,rx];refine ia (scx s r o d) (am O (aw (aK O O) (aa ?_))) ih;rw [scx,show pz s r=pz s (b::r)+1 from pY]
  ·have hb:¬ lF b=true:=λ q=>h1 ((jS b).1.2 q);have e0:(b::r).dropWhile lF=b::r:=List.dropWhile_cons_of_neg hb;by_cases h7:kZ b=7/\o < 0
   ·have h35:=(jS b).2.2.2.2.2.1 h7.1
    have e:fm (decide (o < 0)) (b::r)=(b::r).dropWhile (λ x=>!decide (x=10)):=by
     unfold fm; rw [e0]; simp [h7.2,h35]
    have hsf:(b::r).dropWhile (λ x=>!decide (x=10)) <:+ s:=(oD _).trans h;have hi:=yt (b::r);have IT:=pj h;have hge:=indexByte_ge (b::r) 10;unfold skR;rw [e];refine aY ?_;simp only [bE];refine ao _ (ar (nw s (b::r) o d) Z) (am G ?_);simp only [scx];refine aw (pj h) (aw (rm h) ?_);simp only [oG h,rx];refine ia (scx s ((b::r).dropWhile (λ x=>!decide (x=10))) o d) (ak O (ao true (am O (aa (decide_eq_true h7.2))) (am Z (aw O ?_)))) ?_
    ·rw [q7 h];refine ao _ (ar (Hr _) rfl) ?_;by_cases hn:indexByte (b::r) 10 < 0
     ·rw [hi.1 hn];refine ao ((s.length:Int) - pz s (b::r)) (am hn (aw (aK O O) (aa rfl))) (aw (aK O O) (aa ?_));rw [scx]; congr 2; unfold pz; simp only [cl,aq]; omega
     ·have hh:=hi.2 O;rw [hh.1];refine ao (indexByte (b::r) 10) (ak hn (aa Z)) (aw (aK (by have:=AE (s:=s) (l:=b::r); omega) (by unfold pz at IT ⊢; omega)) (aa ?_));rw [scx,ta O]; congr 2; omega
    ·generalize hq:(b::r).dropWhile (λ x=>!decide (x=10))=q at hsf
     cases q with
     | nil=>exact xK
     | cons c t =>
      have hc:c=10:=by
       have:=List.head?_dropWhile_not (λ x:UInt8=>!decide (x=10)) (b::r);rw [hq] at this;simpa using this
      subst hc;exact vX hsf (by decide) (λ q=>absurd q.1 (by decide))
   ·have e:fm (decide (o < 0)) (b::r)=b::r:=by
     unfold fm; rw [e0]
     have:(decide (o < 0)&&decide (b.toNat=35))=false:=by
      rw [Bool.and_eq_false_iff,decide_eq_false_iff_not,decide_eq_false_iff_not];by_cases q:o < 0
      ·exact .inr λ w=>h7 ⟨(jS b).2.2.2.2.2.2 w,q⟩
      ·exact .inl q
     simp only [this]
     rfl
    unfold skR;rw [e];exact vX h h1 h7
theorem zZ (s l:Bytes)(hs:s.length<=1000000000)(h:l <:+ s)(o:Int)(d:ap):Ev2 (λ n _=>eG n (scx s l o d)) (·=scx s (fm (decide (o < 0)) l) o d):=by
 simp only [eG];refine eC (b7 (bU (f:=λ _ m=>bE m (scx s l o d)) (AA s hs o d l h)) λ r hr=>?_);subst hr;unfold skR;split
 ·rename_i hx;split at hx
  ·cases hx; exact aa rfl
  ·cases hx
 ·rename_i hx;split at hx
  ·cases hx
  ·cases hx; rfl
def uS:List Bytes:=[[61,62],[61,61],[33,61],[60,61],[62,61],[38,38],[124,124]]
def xw:Bytes:=[123,125,91,93,40,41,44,61,60,62,43,45,42,47,37,33,63,58,46]
def E8:Bytes->Bytes
 | []=>[]
 | b::_=>if indexByte xw b < 0 then [] else [b]
theorem vQ (b:UInt8)(r:Bytes):E8 (b::r)=if indexByte xw b < 0 then [] else [b]:=rfl
def jl (l:Bytes):Bytes:=match uS.find? (λ t=>hasPrefix l t) with
 | some t=>t
 | none=>E8 l
theorem Co (l:Bytes):∀ (j k:Nat),k+j=7->Ev2 (λ _ m=>dY l m (k:Int)) (·=match (uS.drop k).find? (λ t=>hasPrefix l t) with | some t=>.inr t | none=>.inl ())
 | 0,k,hk=>by
  have:k=7:=by omega
  subst this;refine aY ?_;simp only [dY];exact ak O (aa rfl)
 | j+1,k,hk=>by
  have Oa:k < uS.length:=by show k < 7; omega
  refine aY ?_;simp only [dY];refine am O (aw O ?_);have e:lat ([([61,62]:Bytes),([61,61]:Bytes),([33,61]:Bytes),([60,61]:Bytes),([62,61]:Bytes),([38,38]:Bytes),([124,124]:Bytes)]:List Bytes) (k:Int)=uS[k]:=oO uS k Oa;rw [e,List.drop_eq_getElem_cons Oa,List.find?_cons];refine ao (hasPrefix l uS[k]) (ar Z Z) ?_
  cases hp:hasPrefix l uS[k]
  ·refine ak G (aw (aK O O) ?_);exact Co l j (k+1) O
  ·exact am Z (aa Z)
theorem vA (l:Bytes)(hl:l.length<=1000000000):Ev2 (λ n _=>ja n l) (·=jl l):=by
 simp only [ja];refine eC (b7 (bU (f:=λ _ m=>dY l m 0) (Co l 7 0 rfl)) λ r hr=>?_);subst hr;unfold jl;rw [List.drop_zero]
 cases uS.find? (λ t=>hasPrefix l t) with
 | some t=>rfl
 | none =>
  cases l with
  | nil=>exact ao true (am Z (aa Z)) (am Z (aa Z))
  | cons b r =>
   have hb:byt (b::r) 0=(b.toNat:Int):=rfl;refine ao (decide (indexByte xw b < 0)) (ak G (aw (by simp only [aq]; omega) ?_)) ?_
   ·rw [hb];refine ao (indexByte xw b) (ar ?_ rfl) (aa rfl);unfold strings_IndexByte;rw [Int.toNat_natCast];congr 2;exact UInt8.ofNat_toNat
   ·simp only [vQ];by_cases h:indexByte xw b < 0
    ·rw [if_pos h];exact am (by simpa using h) (aa rfl)
    ·rw [if_neg h];exact ak (by simpa using h) (aw (by simp only [aq]; omega) (aa rfl))
theorem ul {l:Bytes}(hs:jl l≠[]):1<=(jl l).length/\(jl l).length<=l.length:=by
 have h0:1<=(jl l).length:=by cases h:jl l with | nil=>exact absurd h hs | cons _ _=>simp
 refine ⟨h0,?_⟩;unfold jl
 cases h:uS.find? (λ t=>hasPrefix l t) with
 | some t=>exact hasPrefix_le (List.find?_some h)
 | none =>
  cases l with
  | nil=>exact n6 _
  | cons b r =>
   show (E8 (b::r)).length<=_;rw [vQ];split <;> simp
def iU:Bytes->Bool
 | []=>false
 | b::r=>ko b||iP b||decide (b.toNat=34)||decide (b.toNat=10)||!(jl (b::r)).isEmpty
theorem iX (b:UInt8)(r:Bytes):iU (b::r)=(ko b||iP b||decide (b.toNat=34)||decide (b.toNat=10)||!(jl (b::r)).isEmpty):=rfl
theorem vO (s:Bytes)(hs:s.length<=1000000000){b:UInt8}{r:Bytes}(h:(b::r) <:+ s)(o:Int)(d:ap):Ev2 (λ n _=>d8 n (scx s (b::r) o d)) (·=(iU (b::r),scx s (b::r) o d)):=by
 obtain ⟨f1,f2,f3,f4,f5,f6⟩:=jS b;have IT:=pj h;simp only [d8,scx];refine aw IT (aw (rm h) ?_);simp only [oG h,rx];refine ao (ko b||iP b||decide (b.toNat=34)||decide (b.toNat=10)) (aI (λ q=>aa ?_) (λ q2=>aI (λ q=>aa ?_) (λ q3=>aI (λ q=>aa ?_) (λ q5=>aa ?_)))) ?_
 ·rw [f2.1 O]; rfl
 ·rw [f3.1 O]; simp
 ·rw [decide_eq_true (f4.1 O)]; simp
 ·have e2:ko b=false:=by rw [Bool.eq_false_iff]; exact λ w=>q2 (by rw [f2.2 w]; rfl)
  have e3:iP b=false:=by rw [Bool.eq_false_iff]; exact λ w=>q3 (by rw [f3.2 w]; rfl)
  have e5:¬ b.toNat=34:=λ w=>q5 (by rw [f4.2 w]; rfl);rw [e2,e3,decide_eq_false e5];refine eqB ?_;simp only [Bool.or_false,Bool.false_or,decide_eq_true_eq];constructor
  ·intro w; exact f5.1 O
  ·intro w; rw [f5.2 w]; rfl
 ·refine aI (λ q=>aa ?_) (λ q=>aw ⟨IT.1,by omega,by omega⟩ ?_)
  ·rw [iX,q]; rfl
  ·rw [q7 h];refine ao _ (vA (b::r) (by have:=h.length_le; omega)) (aa ?_);rw [Bool.not_eq_true] at q;rw [iX,q,Bool.false_or];congr 1
   cases jl (b::r) <;> simp
theorem DZ (s:Bytes)(hs:s.length<=1000000000)(o:Int)(d:ap)(p:UInt8->Bool)(x y:Nat)(hp:∀ c,p c=true↔kZ c=x\/kZ c=y):∀ (l:Bytes),l <:+ s->Ev2 (λ _ m=>cH (x:Int) (y:Int) m (scx s l o d)) (·=scx s (l.dropWhile p) o d)
 | [],_=>by
  refine aY ?_;simp only [cH];refine ao (false,scx s [] o d) (ao _ (ar (nw s [] o d) Z) (ak G (aa Z))) (ak G (aa Z))
 | b::r,h=>by
  have IT:=pj h;refine aY ?_;simp only [cH];refine ao (p b,scx s (b::r) o d) (ao _ (ar (nw s (b::r) o d) Z) (am G ?_)) ?_
  ·simp only [scx];refine aw IT (aw (rm h) ?_);simp only [oG h,rx];refine aI (λ q=>aa ?_) (λ q=>aw IT (aw ?_ (aa ?_)))
   ·rw [(hp b).2 (.inl O)]
   ·have:=UInt8.toNat_lt b; omega
   ·congr 1;refine eqB ?_;rw [decide_eq_true_eq,hp b];omega
  ·cases hb:p b
   ·rw [List.dropWhile_cons_of_neg (by simp [hb])];exact ak G (aa rfl)
   ·rw [List.dropWhile_cons_of_pos hb];refine am rfl ?_;simp only [scx];refine aw (aK O O) ?_;rw [<- show pz s r=pz s (b::r)+1 from pY];exact DZ s hs o d p x y hp r (j2 h)
theorem EQ (p:UInt8->Bool)(l:Bytes):l.take (l.length - (l.dropWhile p).length)=l.takeWhile p:=by
 have h:=List.takeWhile_append_dropWhile (p:=p) (l:=l);have hl:=congrArg List.length h;rw [dg] at hl
 conv=>lhs; rw [<- h]
 rw [List.take_append_of_le_length (by rw [h]; omega),List.take_of_length_le (by rw [h]; omega)]
theorem zf (s l:Bytes)(hs:s.length<=1000000000)(h:l <:+ s)(o:Int)(d:ap)(p:UInt8->Bool)(x y:Nat)(hp:∀ c,p c=true↔kZ c=x\/kZ c=y):Ev2 (λ n _=>fb n (scx s l o d) (x:Int) (y:Int)) (·=(l.takeWhile p,scx s (l.dropWhile p) o d)):=by
 simp only [fb];refine ao _ (bU (f:=λ _ m=>cH (x:Int) (y:Int) m (scx s l o d)) (DZ s hs o d p x y hp l h)) ?_;simp only [scx];have h1:=Ax h;have h2:pz s l<=pz s (l.dropWhile p):=by have:=(oD (p:=p) l).length_le; unfold pz; omega
 refine aw ⟨h1,h2,AE⟩ (aa ?_);rw [Az h (oD l),EQ]
theorem Dp (c:UInt8):idB c=true↔kZ c=2\/kZ c=3:=by
 obtain ⟨f1,f2,f3,f4,f5,f6⟩:=jS c;rw [f2,f3]; simp [idB]
theorem Eu (c:UInt8):iP c=true↔kZ c=3\/kZ c=3:=by
 obtain ⟨f1,f2,f3,f4,f5,f6⟩:=jS c;rw [f3]; simp
theorem pO (s l:Bytes)(o:Int)(d:ap)(k a:Int):cZ (scx s l o d) k a=some (false,scx s l o (ap.mk k a [])):=rfl
theorem EX (s:Bytes)(hs:s.length<=1000000000){b:UInt8}{r:Bytes}(h:(b::r) <:+ s)(o:Int)(d:ap):Ev2 (λ _ _=>ed (scx s (b::r) o d)) (·=if nW (decodeL (b::r)) then (false,scx s (b::r) o d) else (true,scx s ((b::r).drop (decodeL (b::r)).2) o d)):=by
 have IT:=pj h;simp only [ed,scx];refine aw ⟨IT.1,by omega,by omega⟩ ?_;rw [q7 h]
 have hd:bg (b::r)=some (((decodeL (b::r)).1:Int),((decodeL (b::r)).2:Int)):=by
  unfold bg;rw [jB _ G]
 refine ao _ (ar hd rfl) ?_;have hdf:=kK (b::r) G;have H0:=h.length_le;generalize decodeL (b::r)=D at hdf ⊢;obtain ⟨c,w⟩:=D;simp only at hdf ⊢
 have hbad:Ev2 (λ _ _=>(if (c:Int)=65533 then if (w:Int)=1 then some true else if (c:Int) < 32 then some true else some (decide ((c:Int)=127)) else if (c:Int) < 32 then some true else some (decide ((c:Int)=127)):Option Bool)) (·=decide (nW (c,w))):=by
  refine aI (λ h1=>aI (λ h2=>aa ?_) (λ h2=>aI (λ h3=>aa ?_) (λ h3=>aa (eqB ?_)))) (λ h1=>aI (λ h3=>aa ?_) (λ h3=>aa (eqB ?_)))
  ·symm; rw [decide_eq_true_eq]; left; simp only; omega
  ·symm; rw [decide_eq_true_eq]; right; left; simp only; omega
  ·rw [decide_eq_true_eq,decide_eq_true_eq]; unfold nW; simp only; omega
  ·symm; rw [decide_eq_true_eq]; right; left; simp only; omega
  ·rw [decide_eq_true_eq,decide_eq_true_eq]; unfold nW; simp only; omega
 refine ao _ hbad ?_;by_cases hb:nW (c,w)
 ·rw [if_pos hb];exact am (by simpa using hb) (aa rfl)
 ·rw [if_neg hb];refine ak (by simpa using hb) (aw (aK O (by have:=AE (s:=s) (l:=b::r); omega)) (aa ?_));rw [ta hdf.2.1]
abbrev SE:=Int×Option Nat
def kp (src:Bytes->SE⊕Bytes):Bytes->SE⊕(Int×Bytes×Bytes)
 | []=>.inl (2,some 0)
 | b::r=>if ko b=true then (if 64 < ((b::r).takeWhile idB).length then .inl (7,some (b::r).length) else .inr (1,(b::r).takeWhile idB,(b::r).dropWhile idB))
  else if iP b=true then .inr (2,(b::r).takeWhile iP,(b::r).dropWhile iP)
  else if b.toNat=10 then .inr (5,[10],r)
  else if b.toNat=34 then (match src r with | .inl e=>.inl e | .inr r'=>.inr (3,r.take (r.length - r'.length - 1),r'))
  else if jl (b::r)=[] then .inl (2,some (b::r).length) else .inr (4,jl (b::r),(b::r).drop (jl (b::r)).length)
mutual
def ge:Nat->Nat->Bytes->SE⊕Bytes
 | 0,_,_=>.inl (40,none)
 | _+1,_,[]=>.inl (40,none)
 | f+1,k,b::r=>if b.toNat=34 then .inr r
  else if hasPrefix (b::r) [36,36,123]=true then ge f k ((b::r).drop 3)
  else if hasPrefix (b::r) [36,123]=true then (if 32<=k then .inl (4,some (b::r).length) else match lI f (k+1) 1 ((b::r).drop 2) with | .inl e=>.inl e | .inr l=>ge f k l)
  else match (if b.toNat=92 then r else b::r) with
   | []=>.inl (40,none)
   | c::t=>if nW (decodeL (c::t)) then .inl (2,some (c::t).length) else ge f k ((c::t).drop (decodeL (c::t)).2)
def lI:Nat->Nat->Nat->Bytes->SE⊕Bytes
 | 0,_,_,_=>.inl (40,none)
 | f+1,k,n,l=>match fm false l with
  | []=>.inl (40,none)
  | b::r=>match kp (ge f k) (b::r) with
   | .inl e=>.inl e
   | .inr (c,t,l')=>if c=4/\t=[125] then (if n=1 then .inr l' else lI f k (n - 1) l') else if c=4/\t=[123] then lI f k (n+1) l' else lI f k n l'
end
theorem jR (src:Bytes->SE⊕Bytes)(b:UInt8)(r:Bytes):kp src (b::r)=if ko b=true then (if 64 < ((b::r).takeWhile idB).length then .inl (7,some (b::r).length) else .inr (1,(b::r).takeWhile idB,(b::r).dropWhile idB))
  else if iP b=true then .inr (2,(b::r).takeWhile iP,(b::r).dropWhile iP)
  else if b.toNat=10 then .inr (5,[10],r)
  else if b.toNat=34 then (match src r with | .inl e=>.inl e | .inr r'=>.inr (3,r.take (r.length - r'.length - 1),r'))
  else if jl (b::r)=[] then .inl (2,some (b::r).length) else .inr (4,jl (b::r),(b::r).drop (jl (b::r)).length):=rfl
theorem pW (f k:Nat)(b:UInt8)(r:Bytes):ge (f+1) k (b::r)=if b.toNat=34 then .inr r
  else if hasPrefix (b::r) [36,36,123]=true then ge f k ((b::r).drop 3)
  else if hasPrefix (b::r) [36,123]=true then (if 32<=k then .inl (4,some (b::r).length) else match lI f (k+1) 1 ((b::r).drop 2) with | .inl e=>.inl e | .inr l=>ge f k l)
  else match (if b.toNat=92 then r else b::r) with
   | []=>.inl (40,none)
   | c::t=>if nW (decodeL (c::t)) then .inl (2,some (c::t).length) else ge f k ((c::t).drop (decodeL (c::t)).2):=by rw [ge]; rfl
def Dz (q:Nat->Bytes->SE⊕Bytes)(n:Nat):SE⊕(Int×Bytes×Bytes)->SE⊕Bytes
 | .inl e=>.inl e
 | .inr (c,t,l')=>if c=4/\t=[125] then (if n=1 then .inr l' else q (n - 1) l') else if c=4/\t=[123] then q (n+1) l' else q n l'
def G6 (q:Nat->Bytes->SE⊕Bytes)(src:Bytes->SE⊕Bytes)(n:Nat):Bytes->SE⊕Bytes
 | []=>.inl (40,none)
 | b::r=>Dz q n (kp src (b::r))
theorem Cb (q:Nat->Bytes->SE⊕Bytes)(src:Bytes->SE⊕Bytes)(n:Nat):G6 q src n []=.inl (40,none):=rfl
theorem pR (q:Nat->Bytes->SE⊕Bytes)(src:Bytes->SE⊕Bytes)(n:Nat)(b:UInt8)(r:Bytes):G6 q src n (b::r)=Dz q n (kp src (b::r)):=rfl
theorem tW (q:Nat->Bytes->SE⊕Bytes)(n:Nat)(e:SE):Dz q n (.inl e)=.inl e:=rfl
theorem qS (q:Nat->Bytes->SE⊕Bytes)(n:Nat)(c:Int)(t l':Bytes):Dz q n (.inr (c,t,l'))=if c=4/\t=[125] then (if n=1 then .inr l' else q (n - 1) l') else if c=4/\t=[123] then q (n+1) l' else q n l':=rfl
theorem pQ (f k n:Nat)(l:Bytes):lI (f+1) k n l=G6 (lI f k) (ge f k) n (fm false l):=by
 rw [lI]
 cases fm false l with
 | nil=>rfl
 | cons b r =>
  show (match kp (ge f k) (b::r) with
   | .inl e=>.inl e
   | .inr (c,t,l')=>if c=4/\t=[125] then (if n=1 then .inr l' else lI f k (n - 1) l') else if c=4/\t=[123] then lI f k (n+1) l' else lI f k n l')=Dz (lI f k) n (kp (ge f k) (b::r))
  cases kp (ge f k) (b::r) with
  | inl e=>rfl
  | inr z=>rfl
theorem nV {src:Bytes->SE⊕Bytes}{l:Bytes}(hsrc:∀ r r',r.length < l.length->src r=.inr r'->r' <:+ r/\r'.length < r.length){c:Int}{t l':Bytes}(h:kp src l=.inr (c,t,l')):l' <:+ l/\l'.length < l.length:=by
 cases l with
 | nil=>cases h
 | cons b r =>
  rw [jR] at h;split at h
  ·rename_i hb;split at h
   ·cases h
   ·cases h
    refine ⟨oD _,?_⟩;rw [List.dropWhile_cons_of_pos (by simp [idB,hb])];exact Nat.lt_succ_of_le (oD r).length_le
  split at h
  ·rename_i hb
   cases h
   refine ⟨oD _,?_⟩;rw [List.dropWhile_cons_of_pos hb];exact Nat.lt_succ_of_le (oD r).length_le
  split at h
  ·cases h; exact ⟨List.suffix_cons _ _,Nat.lt_succ_self _⟩
  split at h
  ·split at h
   ·cases h
   ·rename_i r' hr
    cases h
    obtain ⟨h1,h2⟩:=hsrc r _ (Nat.lt_succ_self _) hr;exact ⟨h1.trans (List.suffix_cons _ _),Nat.lt_succ_of_lt h2⟩
  split at h
  ·cases h
  ·rename_i hs
   cases h
   have:=ul hs;refine ⟨List.drop_suffix _ _,?_⟩;rw [n8]; simp only [aq] at this ⊢; omega
theorem j6:∀ (f k:Nat),(∀ l l',ge f k l=.inr l'->l' <:+ l/\l'.length < l.length)/\(∀ n l l',lI f k n l=.inr l'->l' <:+ l/\l'.length < l.length)
 | 0,k=>⟨λ l l' h=>(by rw [ge] at h; cases h),λ n l l' h=>(by rw [lI] at h; cases h)⟩
 | f+1,k=>by
  have ih:=j6 f;constructor
  ·intro l l' h
   cases l with
   | nil=>rw [ge] at h; cases h
   | cons b r =>
    rw [pW] at h;split at h
    ·cases h; exact ⟨List.suffix_cons _ _,Nat.lt_succ_self _⟩
    split at h
    ·obtain ⟨h1,h2⟩:=(ih k).1 _ _ h;exact ⟨h1.trans (List.drop_suffix _ _),by have:=n8 (i:=3) (l:=b::r); simp only [aq] at this ⊢; omega⟩
    split at h
    ·split at h
     ·cases h
     ·split at h
      ·cases h
      ·rename_i l1 hl1;obtain ⟨h1,h2⟩:=(ih (k+1)).2 _ _ _ hl1;obtain ⟨h3,h4⟩:=(ih k).1 _ _ h;exact ⟨h3.trans (h1.trans (List.drop_suffix _ _)),by have:=n8 (i:=2) (l:=b::r); simp only [aq] at this ⊢; omega⟩
    ·have hs:(if b.toNat=92 then r else b::r) <:+ b::r:=by split; exact List.suffix_cons _ _; exact List.suffix_rfl
     split at h
     ·cases h
     ·rename_i c t hct;rw [hct] at hs;split at h
      ·cases h
      ·obtain ⟨h1,h2⟩:=(ih k).1 _ _ h;exact ⟨h1.trans ((List.drop_suffix _ _).trans hs),by have:=hs.length_le; have:=(List.drop_suffix (decodeL (c::t)).2 (c::t)).length_le; omega⟩
  ·intro n l l' h;rw [pQ] at h;have hs:=rP false l;generalize hbr:fm false l=l0 at h hs
   cases l0 with
   | nil=>cases h
   | cons b r =>
    rw [pR] at h
    cases hl1:kp (ge f k) (b::r) with
    | inl e=>rw [hl1] at h; cases h
    | inr z =>
     obtain ⟨c,t,l1⟩:=z;rw [hl1,qS] at h;obtain ⟨h1,h2⟩:=nV (λ r r' _ hr=>(ih k).1 _ _ hr) hl1;have h3:=hs.length_le
     have key:∀ n,lI f k n l1=.inr l'->l' <:+ l/\l'.length < l.length:=λ n hn=>by
      obtain ⟨h4,h5⟩:=(ih k).2 _ _ _ hn;exact ⟨h4.trans (h1.trans hs),by omega⟩
     split at h
     ·split at h
      ·cases h; exact ⟨h1.trans hs,by omega⟩
      ·exact key _ h
     split at h
     ·exact key _ h
     ·exact key _ h
def wP (s:Bytes)(o:Int)(e:SE):ap:=ap.mk e.1 (match e.2 with | some n=>(s.length:Int) - (n:Int) | none=>o) []
def Bw (s:Bytes)(o o':Int)(d:ap)(q:SE⊕Bytes)(r:Bool×ac):Prop:=match q with
 | .inl e=>r.1=false/\r.2.AT=wP s o e
 | .inr l=>r=(true,scx s l o' d)
def Gv (s l:Bytes)(o o':Int)(d:ap)(q:SE⊕(Int×Bytes×Bytes))(r:af×Bool×ac):Prop:=match q with
 | .inl e=>r.2.1=false/\r.2.2.AT=wP s o e
 | .inr (c,t,l')=>r=(af.mk c t (pz s l),true,scx s l' o' d)
theorem Dj {s:Bytes}(hs:s.length<=1000000000){o o':Int}{d:ap}{k:Nat}{src:Bytes->SE⊕Bytes}{b:UInt8}{r:Bytes}(h:(b::r) <:+ s)(hsuf:∀ l',src r=.inr l'->l' <:+ r/\l'.length < r.length)(ho:¬ b.toNat=34->o'=(scx s (b::r) o d).HV)
  {oE:Int} (hsrc:b.toNat=34->Ev2 (λ n _=>cY n (scx s (b::r) o d) (k:Int)) (Bw s oE o' d (src r))) (hb:iU (b::r)=true) :
  Ev2 (λ n _=>bC n (scx s (b::r) o d) (k:Int)) (Gv s (b::r) oE o' d (kp src (b::r))):=by
 obtain ⟨f1,f2,f3,f4,f5,f6⟩:=jS b;have IT:=pj h;have hle:=h.length_le;refine cJ ?_;simp only [bC];rw [jR];have hat':(0:Int)<=(scx s (b::r) o d).fat/\(scx s (b::r) o d).fat < ((scx s (b::r) o d).fs.length:Int):=IT;refine aw hat' (aw (rm h) ?_);simp only [show byt (scx s (b::r) o d).fs (scx s (b::r) o d).fat=(b.toNat:Int) from oG h,rx];by_cases h2:ko b=true
 ·have hn34:¬ b.toNat=34:=λ q=>by have:=(nS b).1 h2; omega
  rw [if_pos h2];have hc:=f2.2 h2;by_cases hl:64 < ((b::r).takeWhile idB).length
  ·rw [if_pos hl];refine eC (am O (ao _ (zf s (b::r) hs h o d idB 2 3 Dp) (am (by simp only; omega) (ao _ (ar (pO _ _ _ _ _ _) rfl) (aa ?_)))));exact ⟨rfl,rfl⟩
  ·rw [if_neg hl];refine eC (am O (ao _ (zf s (b::r) hs h o d idB 2 3 Dp) (ak (by simp only; omega) (aa (aa ?_)))));rw [ho hn34]; rfl
 rw [if_neg h2];have c2:¬ ((kZ b:Nat):Int)=2:=λ q=>h2 (f2.1 O);by_cases h3:iP b=true
 ·have hn34:¬ b.toNat=34:=λ q=>by have:=(nO b).1 h3; omega
  rw [if_pos h3];have hc:=f3.2 h3;refine eC (ak c2 (am O (ao _ (zf s (b::r) hs h o d iP 3 3 Eu) (aa (aa ?_)))));rw [ho hn34]; rfl
 rw [if_neg h3];have c3:¬ ((kZ b:Nat):Int)=3:=λ q=>h3 (f3.1 O);by_cases h10:b.toNat=10
 ·rw [if_pos h10];have hc:=f5.2 h10;refine eC (ak c2 (ak c3 (am O (aw (aK (by show _<=pz s (b::r)+1; omega) (by show pz s (b::r)+1<=_; omega)) (aa (aa ?_))))));rw [ho O];show (af.mk 5 [10] (pz s (b::r)),true,ac.mk s (pz s (b::r)+1) o d)=_;rw [<- show pz s r=pz s (b::r)+1 from pY]; rfl
 rw [if_neg h10];have c6:¬ ((kZ b:Nat):Int)=6:=λ q=>h10 (f5.1 O);by_cases h34:b.toNat=34
 ·rw [if_pos h34];have hc:=f4.2 h34;refine eC (ak c2 (ak c3 (ak c6 (am O (ag _ (hsrc h34) λ x hx=>?_)))))
  cases hq:src r with
  | inl e =>
   rw [hq] at hx;exact am (by rw [hx.1]; rfl) (aa ⟨rfl,hx.2⟩)
  | inr l' =>
   rw [hq] at hx;obtain ⟨g1,g2⟩:=hsuf l' hq;have hx:x=(true,scx s l' o' d):=hx;subst hx;have e1:(scx s (b::r) o d).fat+1=pz s r:=(pY (b:=b)).symm;have hl':l' <:+ s:=g1.trans (j2 h);have e2:(scx s l' o' d).fat - 1=(s.length:Int) - ((l'.length+1:Nat):Int):=by show pz s l' - 1=_; unfold pz; omega
   have hrl:=(j2 h).length_le;have hd:r.drop (r.length - (l'.length+1)) <:+ r:=List.drop_suffix _ _;have hdl:(r.drop (r.length - (l'.length+1))).length=l'.length+1:=by rw [n8]; omega
   have e3:(scx s l' o' d).fat - 1=pz s (r.drop (r.length - (l'.length+1))):=by rw [e2]; unfold pz; rw [hdl]
   refine ak G (aw (aK (by show _<=pz s (b::r)+1; omega) (by show pz s (b::r)+1<=_; omega)) (aw (aK (by rw [e2]; omega) (by rw [e2]; omega)) (aw ?_ (aa (aa ?_)))))
   ·rw [e1,e3];refine ⟨Ax (j2 h),?_,AE⟩;unfold pz; rw [hdl]; omega
   ·show _=_;rw [e1,e3,show sub (scx s l' o' d).fs (pz s r) (pz s (r.drop (r.length - (l'.length+1))))=_ from Az (j2 h) hd,hdl,show r.length - (l'.length+1)=r.length - l'.length - 1 by omega]
    rfl
 rw [if_neg h34];have c5:¬ ((kZ b:Nat):Int)=5:=λ q=>h34 (f4.1 O)
 have hsn:jl (b::r)≠[]:=by
  rw [iX,Bool.not_eq_true _ |>.mp h2,Bool.not_eq_true _ |>.mp h3,decide_eq_false h34,decide_eq_false h10] at hb;intro q; rw [q] at hb; cases hb
 rw [if_neg hsn];have H2:=ul hsn;refine eC (ak c2 (ak c3 (ak c6 (ak c5 (aw ⟨IT.1,by show pz s (b::r)<=(s.length:Int); omega,by show (s.length:Int)<=(s.length:Int); omega⟩ ?_)))));rw [show sub (scx s (b::r) o d).fs (scx s (b::r) o d).fat ((scx s (b::r) o d).fs.length:Int)=b::r from q7 h];refine ao _ (vA (b::r) O) (aw (aK (by show _<=pz s (b::r)+_; omega) (by show pz s (b::r)+_<=_; omega)) (aa (aa ?_)));rw [ho h34];show (af.mk 4 (jl (b::r)) (pz s (b::r)),true,ac.mk s (pz s (b::r)+((jl (b::r)).length:Int)) o d)=_;rw [<- ta H2.2]; rfl
def yv (s:Bytes)(o:Int)(d:ap)(q:SE⊕Bytes)(r:ac⊕(Bool×ac)):Prop:=match r with
 | .inl x=>x=scx s [] o d/\q=.inl (40,none)
 | .inr y=>Bw s o o d q y
def EC (s:Bytes)(o:Int)(d:ap)(q:SE⊕Bytes)(r:ac⊕(Bool×ac)):Prop:=match r with
 | .inl x=>∃ l,q=.inr l/\x=scx s l o d
 | .inr y=>∃ e,q=.inl e/\y.1=false/\y.2.AT=wP s o e
theorem BW {src:Bytes->SE⊕Bytes}{b:UInt8}{r:Bytes}(h:iU (b::r)=false):kp src (b::r)=.inl (2,some (b::r).length):=by
 rw [iX] at h;simp only [Bool.or_eq_false_iff,decide_eq_false_iff_not,Bool.not_eq_false',List.isEmpty_iff] at h;obtain ⟨⟨⟨⟨h1,h2⟩,h3⟩,h4⟩,h5⟩:=h;rw [jR,if_neg (by simp [h1]),if_neg (by simp [h2]),if_neg h4,if_neg h3,if_pos h5]
theorem rU {s:Bytes}(hs:s.length<=1000000000){o:Int}{d:ap}{k:Nat}{b:UInt8}{r:Bytes}(h:(b::r) <:+ s){q:SE⊕Bytes}(hl:Ev2 (λ n m=>a6 (aS n) (k:Int) m (scx s r o d)) (yv s o d q)) :
  Ev2 (λ n _=>dD n (scx s (b::r) o d) (k:Int)) (Bw s o o d q):=by
 have IT:=pj h;have hle:=h.length_le;refine cJ ?_;simp only [dD];refine aw (aK (by show _<=pz s (b::r)+1; omega) (by show pz s (b::r)+1<=_; omega)) ?_
 have e:ac.mk (scx s (b::r) o d).fs ((scx s (b::r) o d).fat+1) (scx s (b::r) o d).HV (scx s (b::r) o d).AT=scx s r o d:=by
  show ac.mk s (pz s (b::r)+1) o d=_;rw [<- show pz s r=pz s (b::r)+1 from pY]; rfl
 rw [e];refine eC (b7 (bU (f:=λ n m=>a6 (aS n) (k:Int) m (scx s r o d)) hl) λ x hx=>?_)
 cases x with
 | inl x =>
  obtain ⟨rfl,rfl⟩:=hx;exact ao _ (ar (pO _ _ _ _ _ _) rfl) (aa ⟨rfl,rfl⟩)
 | inr y=>exact hx
theorem Bp {s:Bytes}(hs:s.length<=1000000000){o:Int}(ho:0<=o){d:ap}{k:Nat}{b:UInt8}{r:Bytes}(h:(b::r) <:+ s){q:SE⊕Bytes}(hl:Ev2 (λ n m=>a6 (aS n) (k:Int) m (scx s r o d)) (yv s o d q)) :
  Ev2 (λ n _=>cY n (scx s (b::r) o d) (k:Int)) (Bw s o o d q):=by
 refine cJ ?_;simp only [cY];exact ak (by show ¬ o < 0; omega) (rU hs h hl)
theorem yD {s:Bytes}(hs:s.length<=1000000000){d:ap}{k:Nat}{b:UInt8}{r:Bytes}(h:(b::r) <:+ s){q:SE⊕Bytes}(hl:Ev2 (λ n m=>a6 (aS n) (k:Int) m (scx s r (pz s (b::r)) d)) (yv s (pz s (b::r)) d q)) :
  Ev2 (λ n _=>cY n (scx s (b::r) (-1) d) (k:Int)) (Bw s (pz s (b::r)) (-1) d q):=by
 refine cJ ?_;simp only [cY];refine am (by show (-1:Int) < 0; omega) (ag _ (rU hs h hl) λ x hx=>aa ?_)
 cases q with
 | inl e=>exact hx
 | inr l =>
  have hx:x=(true,scx s l (pz s (b::r)) d):=hx;subst hx; rfl
theorem tD (s:Bytes)(b:UInt8)(r:Bytes)(o:Int)(d:ap):bX (scx s (b::r) o d)=some (true,scx s (b::r) o d):=nw _ _ _ _
theorem uw (s:Bytes)(o:Int)(d:ap):bX (scx s [] o d)=some (false,scx s [] o d):=nw _ _ _ _
theorem CC (l p:Bytes):strings_HasPrefix l p=some (hasPrefix l p):=rfl
theorem AQ {s l:Bytes}{o:Int}{d:ap}{k:Nat}(hk:k<=l.length):ac.mk s (pz s l+(k:Int)) o d=scx s (l.drop k) o d:=by rw [scx,ta hk]
theorem xC {s r:Bytes}{b:UInt8}{o:Int}{d:ap}:ac.mk s (pz s (b::r)+1) o d=scx s r o d:=by rw [scx,show pz s r=pz s (b::r)+1 from pY]
theorem B9 {s:Bytes}(hs:s.length<=1000000000){o:Int}{d:ap}{f k:Nat}
  (ih1:∀ l,l <:+ s->l.length < f->Ev2 (λ n m=>a6 (aS n) (k:Int) m (scx s l o d)) (yv s o d (ge f k l)))
  (ih2:∀ l,l <:+ s->l.length < f->k < 32->Ev2 (λ nn m=>aW nn (bC nn) (k:Int) m 1 (scx s l o d)) (EC s o d (lI f (k+1) 1 l))) :
  ∀ l,l <:+ s->l.length < f+1->Ev2 (λ n m=>a6 (aS n) (k:Int) m (scx s l o d)) (yv s o d (ge (f+1) k l)):=by
 intro l h hf;refine aY ?_;simp only [a6]
 cases l with
 | nil =>
  refine ao _ (ar (uw s o d) Z) (ak G (aa ⟨Z,?_⟩));rw [ge]
 | cons b r =>
  have IT:=pj h;have hle:=h.length_le;have hfr:r.length < f:=by simp only [aq] at hf; omega
  refine ao _ (ar (tD s b r o d) Z) (am Z (aw ⟨IT.1,by show pz s (b::r)<=(s.length:Int); omega,by show (s.length:Int)<=(s.length:Int); omega⟩ ?_));rw [pW];simp only [show sub (scx s (b::r) o d).fs (scx s (b::r) o d).fat ((scx s (b::r) o d).fs.length:Int)=b::r from q7 h,show byt (b::r) 0=(b.toNat:Int) from rfl];refine eC (aw (by simp only [aq]; omega) ?_);by_cases h34:b.toNat=34
  ·rw [if_pos h34];refine am O (aw (aK (by show _<=pz s (b::r)+1; omega) (by show pz s (b::r)+1<=_; omega)) (aa ?_));show (true,ac.mk s (pz s (b::r)+1) o d)=_;rw [xC]
  rw [if_neg h34];refine ak O (ao _ (ar (CC _ _) rfl) ?_);by_cases h3:hasPrefix (b::r) [36,36,123]=true
  ·rw [if_pos h3];have hp:=hasPrefix_le h3;simp only [aq,cl] at hp;refine am h3 (aw (aK (by show _<=pz s (b::r)+3; omega) (by show pz s (b::r)+3<=_; omega)) (aa ?_));have:=ih1 ((b::r).drop 3) (Ah 3 h) (by rw [n8]; simp only [aq]; omega);rw [<- AQ (k:=3) (by simp only [aq]; omega)] at this;exact this
  rw [if_neg h3];refine ak h3 (ao _ (ar (CC _ _) rfl) ?_);by_cases h2:hasPrefix (b::r) [36,123]=true
  ·rw [if_pos h2];have hp:=hasPrefix_le h2;simp only [aq,cl] at hp;refine am h2 (ag (Bw s o o d (if 32<=k then .inl (4,some (b::r).length) else lI f (k+1) 1 ((b::r).drop 2))) ?_ λ x hx=>?_)
   ·refine cJ ?_;simp only [aS];by_cases hk:32<=k
    ·rw [if_pos hk];exact am O (ao _ (ar (pO _ _ _ _ _ _) rfl) (aa ⟨rfl,rfl⟩))
    ·rw [if_neg hk];refine ak O (aw (aK (by show _<=pz s (b::r)+2; omega) (by show pz s (b::r)+2<=_; omega)) ?_);have:=ih2 ((b::r).drop 2) (Ah 2 h) (by rw [n8]; simp only [aq]; omega) O;rw [<- AQ (k:=2) (by simp only [aq]; omega)] at this;refine eC (b7 (bU (f:=λ nn m=>aW nn (bC nn) (k:Int) m 1 (ac.mk s (pz s (b::r)+2) o d)) this) λ y hy=>?_)
     cases y with
     | inl y =>
      obtain ⟨l',e1,rfl⟩:=hy;rw [e1];exact aa rfl
     | inr y =>
      obtain ⟨e,e1,e2,e3⟩:=hy;rw [e1];exact ⟨e2,e3⟩
   ·by_cases hk:32<=k
    ·rw [if_pos hk] at hx ⊢;exact am (by rw [hx.1]; rfl) (aa ⟨rfl,hx.2⟩)
    ·rw [if_neg hk] at hx ⊢
     cases hq:lI f (k+1) 1 ((b::r).drop 2) with
     | inl e =>
      rw [hq] at hx;exact am (by rw [hx.1]; rfl) (aa ⟨rfl,hx.2⟩)
     | inr l' =>
      rw [hq] at hx;have hx:x=(true,scx s l' o d):=hx;subst hx;obtain ⟨g1,g2⟩:=(j6 f (k+1)).2 _ _ _ hq;refine ak G (aa (ih1 l' (g1.trans (Ah 2 h)) ?_));rw [n8] at g2; simp only [aq] at g2; omega
  rw [if_neg h2];refine ak h2 (ao (scx s (if b.toNat=92 then r else b::r) o d) (aw (by simp only [aq]; omega) ?_) ?_)
  ·by_cases h92:b.toNat=92
   ·rw [if_pos h92];refine am O (aw (aK (by show _<=pz s (b::r)+1; omega) (by show pz s (b::r)+1<=_; omega)) (aa ?_));show ac.mk s (pz s (b::r)+1) o d=_;rw [xC]
   ·rw [if_neg h92];exact ak O (aa rfl)
  ·have hsf:(if b.toNat=92 then r else b::r) <:+ s:=by split; exact j2 h; exact h
   have hln:(if b.toNat=92 then r else b::r).length<=r.length+1:=by split <;> simp
   generalize (if b.toNat=92 then r else b::r)=l1 at hsf hln ⊢
   cases l1 with
   | nil =>
    refine ao _ (ar (uw s o d) rfl) (am rfl (aa ?_));have:=ih1 [] List.nil_suffix (by simp only [cl]; omega);obtain ⟨f,rfl⟩:∃ g,f=g+1:=⟨f - 1,by omega⟩
    rw [ge] at this;exact this
   | cons c t =>
    refine ao _ (ar (tD s c t o d) Z) (ak G (ao _ (EX s hs hsf o d) ?_));have hdf:=kK (c::t) G;by_cases hb:nW (decodeL (c::t))
    ·simp only [if_pos hb];exact am rfl (ao _ (ar (pO _ _ _ _ _ _) rfl) (aa ⟨rfl,rfl⟩))
    ·simp only [if_neg hb];refine ak G (aa (ih1 _ (Ah _ hsf) ?_));rw [n8]; simp only [aq] at hln ⊢; omega
theorem B5 {s:Bytes}(hs:s.length<=1000000000){o:Int}(ho:0<=o){d:ap}{f k:Nat}(hk:k < 32)
  (ih1:∀ l,l <:+ s->l.length < f->Ev2 (λ n m=>a6 (aS n) ((k+1:Nat):Int) m (scx s l o d)) (yv s o d (ge f (k+1) l)))
  (ih2:∀ l n,1<=n->n+l.length<=s.length+1->l <:+ s->l.length < f->Ev2 (λ nn m=>aW nn (bC nn) (k:Int) m (n:Int) (scx s l o d)) (EC s o d (lI f (k+1) n l))) :
  ∀ l n,1<=n->n+l.length<=s.length+1->l <:+ s->l.length < f+1->Ev2 (λ nn m=>aW nn (bC nn) (k:Int) m (n:Int) (scx s l o d)) (EC s o d (lI (f+1) (k+1) n l)):=by
 intro l n hn hnl h hf;refine aY ?_;simp only [aW];rw [pQ];have hsk:=rP false l;have hd:decide (o < 0)=false:=decide_eq_false O;have hskip:=zZ s l hs h o d;rw [hd] at hskip;refine am O (eC (ao _ hskip ?_));have H2:=hsk.length_le;have hss:=hsk.trans h;generalize fm false l=l1 at hsk H2 hss ⊢
 cases l1 with
 | nil=>exact ao _ (ar (uw s o d) Z) (am Z (ao _ (ar (pO _ _ _ _ _ _) Z) (aa ⟨_,Z,Z,Z⟩)))
 | cons b r =>
  refine ao _ (ar (tD s b r o d) Z) (ak G (ao _ (vO s hs hss o d) ?_));rw [pR]
  cases hb:iU (b::r)
  ·rw [BW hb,tW];exact am rfl (ao _ (ar (pO _ _ _ _ _ _) rfl) (aa ⟨_,rfl,rfl,rfl⟩))
  ·have hbl:=hss.length_le;simp only [aq] at H2 hbl;have htok:=Dj (k:=k+1) (src:=ge f (k+1)) (o':=o) (oE:=o) hs hss (λ l' hl'=>(j6 f (k+1)).1 _ _ hl') Y (λ _=>Bp hs ho hss (ih1 r (j2 hss) O)) hb (d:=d);refine ak G (aw (aK O O) (ag (Gv s (b::r) o o d (kp (ge f (k+1)) (b::r))) htok λ x hx=>?_))
   cases hq:kp (ge f (k+1)) (b::r) with
   | inl e =>
    rw [hq] at hx;rw [tW];exact am (by rw [hx.1]; rfl) (aa ⟨e,rfl,rfl,hx.2⟩)
   | inr z =>
    obtain ⟨c,t,l'⟩:=z;rw [hq] at hx;have hx:x=(af.mk c t (pz s (b::r)),true,scx s l' o d):=hx;subst hx;obtain ⟨g1,g2⟩:=nV (λ r r' _ hr=>(j6 f (k+1)).1 _ _ hr) hq;simp only [aq] at g2;have hl's:=g1.trans hss;rw [qS];refine ak G (ao (if c=4/\t=[123] then (n:Int)+1 else (n:Int)) (ao (decide (c=4/\t=[123])) (aI (λ q=>aa ?_) (λ q=>aa ?_)) (aI (λ q=>aw (aK O O) (aa ?_)) (λ q=>aa ?_))) (ao (decide (c=4/\t=[125])) (aI (λ q=>aa ?_) (λ q=>aa ?_)) ?_))
    ·simp only [show c=4 from q,true_and]
    ·symm; rw [decide_eq_false_iff_not]; exact λ w=>q w.1
    ·rw [decide_eq_true_eq] at q; rw [if_pos q]
    ·rw [decide_eq_true_eq] at q; rw [if_neg q]
    ·simp only [show c=4 from q,true_and]
    ·symm; rw [decide_eq_false_iff_not]; exact λ w=>q w.1
    by_cases h125:c=4/\t=[125]
    ·have hn123:¬ (c=4/\t=[123]):=λ w=>by rw [h125.2] at w; exact absurd w.2 (by decide)
     rw [if_neg hn123];simp only [if_pos h125];refine am (by simpa using h125) (aw (aK O O) (aa ?_));by_cases h1:n=1
     ·subst h1;rw [if_pos rfl];refine aY ?_;simp only [aW];exact ak O (aa ⟨l',rfl,rfl⟩)
     ·rw [if_neg h1];have:=ih2 l' (n - 1) O O  hl's O;rw [show ((n - 1:Nat):Int)=(n:Int) - 1 by omega] at this;exact this
    ·simp only [if_neg h125];refine ak (by simpa using h125) (aa ?_);by_cases h123:c=4/\t=[123]
     ·rw [if_pos h123];simp only [if_pos h123];exact ih2 l' (n+1) O O  hl's O
     ·rw [if_neg h123];simp only [if_neg h123];exact ih2 l' n hn O hl's O
theorem zO {s:Bytes}(hs:s.length<=1000000000){o:Int}(ho:0<=o){d:ap}:∀ (f:Nat),
  (∀ (k:Nat) l,l <:+ s->l.length < f->Ev2 (λ n m=>a6 (aS n) (k:Int) m (scx s l o d)) (yv s o d (ge f k l))) /\
  (∀ (k:Nat) l n,k < 32->1<=n->n+l.length<=s.length+1->l <:+ s->l.length < f->Ev2 (λ nn m=>aW nn (bC nn) (k:Int) m (n:Int) (scx s l o d)) (EC s o d (lI f (k+1) n l)))
 | 0=>⟨λ k l _ h=>absurd h (Nat.not_lt_zero _),λ k l n _ _ _ _ h=>absurd h (Nat.not_lt_zero _)⟩
 | f+1=>by
  obtain ⟨i1,i2⟩:=zO hs ho (d:=d) f;refine ⟨λ k=>B9 hs (i1 k) (λ l h hf hk=>?_),λ k l n hk=>B5 hs ho hk (i1 (k+1)) (λ l n a b c e=>i2 k l n hk a b c e) l n⟩;exact i2 k l 1 hk (n6 _) (by have:=h.length_le; omega) h hf
theorem EG {s:Bytes}(hs:s.length<=1000000000){d:ap}{f:Nat}{b:UInt8}{r:Bytes}(h:(b::r) <:+ s)(hf:r.length < f)(hb:iU (b::r)=true) :
  Ev2 (λ n _=>bC n (scx s (b::r) (-1) d) 0) (Gv s (b::r) (pz s (b::r)) (-1) d (kp (ge f 0) (b::r))) :=
 Dj (k:=0) hs h (λ _l' hl'=>(j6 f 0).1 _ _ hl') Y (λ _=>yD hs h ((zO hs (Ax h) f).1 0 r (j2 h) hf)) hb
def EW (n:Nat)(e:SE):SE:=(e.1,some (e.2.getD n))
abbrev Tk:=Int×Bytes×Nat
def Dq (q:Bytes->SE⊕List Tk)(n:Nat):SE⊕(Int×Bytes×Bytes)->SE⊕List Tk
 | .inl e=>.inl (EW n e)
 | .inr (k,t,l')=>(match q l' with
  | .inl e=>.inl e
  | .inr ts=>.inr ((k,t,n)::ts))
def Af (q:Bytes->SE⊕List Tk)(src:Bytes->SE⊕Bytes)(c:Nat):Bytes->SE⊕List Tk
 | []=>if c=16384 then .inl (14,some 0) else .inr [(6,[],0)]
 | b::r=>if iU (b::r)=false then .inl (2,some (b::r).length) else if c=16384 then .inl (14,some (b::r).length)
   else Dq q (b::r).length (kp src (b::r))
def jk:Nat->Nat->Bytes->SE⊕List Tk
 | 0,_,_=>.inl (40,none)
 | f+1,c,l=>Af (jk f (c+1)) (ge f 0) c (fm true l)
theorem kD (f c:Nat)(l:Bytes):jk (f+1) c l=Af (jk f (c+1)) (ge f 0) c (fm true l):=rfl
theorem nU (q:Bytes->SE⊕List Tk)(src:Bytes->SE⊕Bytes)(c:Nat):Af q src c []=if c=16384 then .inl (14,some 0) else .inr [(6,[],0)]:=rfl
theorem mw (q:Bytes->SE⊕List Tk)(src:Bytes->SE⊕Bytes)(c:Nat)(b:UInt8)(r:Bytes):Af q src c (b::r)=if iU (b::r)=false then .inl (2,some (b::r).length) else if c=16384 then .inl (14,some (b::r).length)
   else Dq q (b::r).length (kp src (b::r)):=rfl
theorem oe (q:Bytes->SE⊕List Tk)(n:Nat)(k:Int)(t l':Bytes):Dq q n (.inr (k,t,l'))=match q l' with
  | .inl e=>.inl e
  | .inr ts=>.inr ((k,t,n)::ts):=rfl
def tkS (s:Bytes)(z:Tk):af:=af.mk z.1 z.2.1 ((s.length:Int) - (z.2.2:Int))
def FI (s:Bytes)(out:List af)(q:SE⊕List Tk):List af×ap:=match q with
 | .inl e=>([],wP s 0 e)
 | .inr ts=>(out++ts.map (tkS s),ap.mk 0 0 [])
theorem Dc (s l:Bytes)(o:Int)(e:SE):wP s (pz s l) e=wP s o (EW l.length e):=by
 obtain ⟨k,n⟩:=e
 cases n <;> rfl
theorem zX {s:Bytes}(hs:s.length<=1000000000){d:ap}:∀ (f:Nat) (l:Bytes) (out:List af),out.length<=16384->l <:+ s->l.length < f->Ev2 (λ n m=>fz n m out (scx s l (-1) d)) (·=.inr (FI s out (jk f out.length l)))
 | 0,l,out,_,_,h=>absurd h (Nat.not_lt_zero _)
 | f+1,l,out,hout,h,hf=>by
  refine aY ?_;simp only [fz];rw [kD];have hsk:=rP true l;have hskip:=zZ s l hs h (-1) d;rw [show decide ((-1:Int) < 0)=true from rfl] at hskip;refine ao _ hskip ?_;have H2:=hsk.length_le;have hss:=hsk.trans h;generalize fm true l=l1 at hsk H2 hss ⊢
  cases l1 with
  | nil =>
   refine ao (false,scx s [] (-1) d) (ao _ (ar (uw s (-1) d) Z) (ak G (aa Z))) (ak G ?_);rw [nU];by_cases hc:out.length=16384
   ·rw [if_pos hc];refine am O (aa ?_)
    rfl
   ·rw [if_neg hc];refine ak O (ao _ (ar (uw s (-1) d) rfl) (am rfl (aw (by simp only [aq,cl]; omega) (aa ?_))))
    rfl
  | cons b r =>
   refine ao (!iU (b::r),scx s (b::r) (-1) d) (ao _ (ar (tD s b r (-1) d) Z) (am Z (ao _ (vO s hs hss (-1) d) (aa Z)))) ?_;rw [mw]
   cases hb:iU (b::r)
   ·exact am Z (aa Z)
   ·refine ak G ?_;rw [if_neg G];by_cases hc:out.length=16384
    ·rw [if_pos hc];exact am O (aa rfl)
    ·rw [if_neg hc];simp only [aq] at H2;refine ak O (ao _ (ar (tD s b r (-1) d) rfl) (ak G (ag _ (EG hs hss (f:=f) O hb) λ x hx=>?_)))
     cases hq:kp (ge f 0) (b::r) with
     | inl e =>
      rw [hq] at hx;refine am (by rw [hx.1]; rfl) (aa ?_);rw [hx.2,Dc s (b::r) 0]
      rfl
     | inr z =>
      obtain ⟨c,t,l'⟩:=z;rw [hq] at hx;have hx:x=(af.mk c t (pz s (b::r)),true,scx s l' (-1) d):=hx;subst hx;obtain ⟨g1,g2⟩:=nV (λ r r' _ hr=>(j6 f 0).1 _ _ hr) hq;simp only [aq] at g2;have ih:=zX hs (d:=d) f l' (out++[af.mk c t (pz s (b::r))]) (by simp only [dg,aq,cl]; omega) (g1.trans hss) O;simp only [dg,aq,cl,Nat.zero_add] at ih;rw [oe];refine ak G (aw (by simp only [aq,cl]; omega) (Hv ih ?_));congr 1
      cases jk f (out.length+1) l' with
      | inl e=>rfl
      | inr ts =>
       show (_,_)=(_,_);rw [List.append_assoc]; rfl
def iD (s:Bytes):List af×ap:=if 65536 < s.length then ([],ap.mk 3 0 []) else FI s [] (jk (s.length+1) 0 s)
theorem Fq (s:Bytes):Ev2 (λ n _=>mz n s) (·=iD s):=by
 simp only [mz];unfold iD;by_cases h:65536 < s.length
 ·rw [if_pos h];exact am O (aa rfl)
 ·rw [if_neg h];refine ak O (ao (scx s s (-1) (ap.mk 0 0 [])) (ar ?_ rfl) ?_)
  ·rw [scx,Fy]; rfl
  ·have:=zX (s:=s) O (d:=ap.mk 0 0 []) (s.length+1) s [] G List.suffix_rfl (Nat.lt_succ_self _);exact kH _ (bU (f:=λ n m=>fz n m [] (scx s s (-1) (ap.mk 0 0 []))) this) Z
def v0:ah:=ah.mk 0 0 [] [] []
def e0:ab:=ab.mk 0 0 [] [] v0 [] 0
def yS (v:ah)(at':Int):ab:=ab.mk 1 0 [] [] v [] at'
def Dt (s:Bytes)(at':Int):ab:=yS (ah.mk 3 0 s [] []) at'
def Ft:List Bytes:=[[110,117,108,108],[116,114,117,101],[102,97,108,115,101],[102,111,114],[105,110],[105,102]]
def gC (s:Bytes):Bool:=Ft.any (λ t=>decide (s=t))
theorem tr (s:Bytes):fF s=some (gC s):=by
 unfold fF gC Ft;simp only [List.any_cons,List.any_nil,Bool.or_false];by_cases h1:s=[110,117,108,108]
 ·simp [h1]
 by_cases h2:s=[116,114,117,101]
 ·simp [h2]
 by_cases h3:s=[102,97,108,115,101]
 ·simp [h3]
 by_cases h4:s=[102,111,114]
 ·simp [h4]
 by_cases h5:s=[105,110]
 ·simp [h5]
 by_cases h6:s=[105,102]
 ·simp [h6]
 simp [h1,h2,h3,h4,h5,h6]
def sC (v:ah):Int:=if v.Ar=1/\v.F'≠0/\v.F'≠1\/v.Ar≠1/\v.Ar≠2/\v.F'≠0\/v.Ar≠3/\v.HT≠[]\/v.HQ≠[]\/v.D'≠[] then 1
 else if v.Ar=2/\¬ (-jK<=v.F'/\v.F'<=jK) then 5
 else if v.Ar=3/\4096 < v.HT.length then 3
 else if v.Ar=3/\validD v.HT=false then 1 else 0
def pr (e:ab):Bool:=(fC e).getD false
def jm (e:ab):Int:=if pr e=false then 1 else if e.Ar=1 then sC e.A'
 else if (e.Ar=3\/e.Ar=4\/e.Ar=9\/e.Ar=12\/e.Ar=13)/\(bH e.AI=false\/e.Ar≠4/\gC e.AI=true) then 7
 else if e.E'≠[]/\(bH e.E'=false\/gC e.E'=true) then 7 else 0
mutual
def lr:Nat->Nat->ab->Int×Nat
 | c,lv,.mk k op nm key v kids at'=>if 32 < lv then (4,c) else if 4096<=c then (14,c)
  else if jm (.mk k op nm key v kids at')=0 then jV (c+1) (lv+1) kids else (jm (.mk k op nm key v kids at'),c+1)
def jV:Nat->Nat->List ab->Int×Nat
 | c,_,[]=>(0,c)
 | c,lv,x::r=>if (lr c lv x).1=0 then jV (lr c lv x).2 lv r else lr c lv x
end
theorem kQ (c lv:Nat)(e:ab):lr c lv e=if 32 < lv then (4,c) else if 4096<=c then (14,c) else if jm e=0 then jV (c+1) (lv+1) e.By else (jm e,c+1):=by
 cases e; rw [lr]; rfl
theorem mc (c lv:Nat)(x:ab)(r:List ab):jV c lv (x::r)=if (lr c lv x).1=0 then jV (lr c lv x).2 lv r else lr c lv x:=by rw [jV]
def chk (e:ab):Int:=(lr 0 1 e).1
def nlT (t:af):Bool:=decide (t.Ar=5)
def nf (b:Bool)(l:List af):List af:=if b then l.dropWhile nlT else l
def hd (b:Bool)(l:List af):af:=(nf b l).headD (af.mk 6 [] 0)
def tl (b:Bool)(l:List af):List af:=(nf b l).tail
def sgB (b:Bool)(l:List af)(s:Bytes):Bool:=decide ((hd b l).Ar=4)&&decide ((hd b l).Df=s)
def wdB (b:Bool)(l:List af)(s:Bytes):Bool:=decide ((hd b l).Ar=1)&&decide ((hd b l).Df=s)
abbrev PE:=Int×Int
abbrev PR (α:Type):=Option (PE⊕(α×List af))
def pb {α β:Type}(x:PR α)(k:α->List af->PR β):PR β:=match x with
 | none=>none
 | some (.inl e)=>some (.inl e)
 | some (.inr (a,l))=>k a l
def pok {α:Type}(a:α)(l:List af):PR α:=some (.inr (a,l))
def per {α:Type}(k a:Int):PR α:=some (.inl (k,a))
def iO (b:Bool)(s:Bytes)(l:List af):PR Unit:=if sgB b l s then pok () (tl b l) else per 2 (hd b l).fAt
def Fv (b:Bool)(s:Bytes)(l:List af):PR Unit:=if wdB b l s then pok () (tl b l) else per 2 (hd b l).fAt
def CJ (b:Bool)(l:List af):PR Bytes:=if (hd b l).Ar=1/\gC (hd b l).Df=false then pok (hd b l).Df (tl b l) else per 2 (hd b l).fAt
def u7:Nat->List (Bytes×Int)
 | 0=>[([124,124],3)]
 | 1=>[([38,38],4)]
 | 2=>[([61,61],5),([33,61],6)]
 | 3=>[([60],7),([60,61],8),([62],9),([62,61],10)]
 | 4=>[([43],11),([45],12)]
 | _=>[([42],13),([47],14),([37],15)]
def x9 (b:Bool)(l:List af)(Iy:Nat):Option (Bytes×Int):=(u7 Iy).find? (λ p=>sgB b l p.1)
def mvT (base:Int)(t:af):af:=af.mk t.Ar t.Df (t.fAt+base)
mutual
def kr:Nat->Nat->Bytes->Option (Option Bytes)
 | 0,_,_=>none
 | _+1,_,[]=>some none
 | f+1,d,b::r=>if b.toNat=123 then kr f (d+1) r
  else if b.toNat=125 then (if d=1 then some (some r) else kr f (d - 1) r)
  else if b.toNat=34 then (match mK f r with | none=>none | some none=>some none | some (some r')=>kr f d r')
  else kr f d r
def mK:Nat->Bytes->Option (Option Bytes)
 | 0,_=>none
 | _+1,[]=>some none
 | f+1,b::r=>if b.toNat=34 then some (some r)
  else if b.toNat=92 then mK f (r.drop 1)
  else if hasPrefix (b::r) [36,36,123]=true then mK f ((b::r).drop 3)
  else if hasPrefix (b::r) [36,123]=true then (match kr f 1 ((b::r).drop 2) with | none=>none | some none=>some none | some (some r')=>mK f r')
  else mK f r
end
def ns:Bytes->Int⊕(Bytes×Nat)
 | []=>.inl 40
 | b::r=>if b.toNat=92 then (if (d5 r).2.2=0 then .inr (encodeRune (d5 r).1,(d5 r).2.1.toNat+1) else .inl (d5 r).2.2)
  else if nW (decodeL (b::r))\/b.toNat=34 then .inl 2 else .inr ((b::r).take (decodeL (b::r)).2,(decodeL (b::r)).2)
def flS (frm pos:Int)(text:Bytes)(parts:List ab):List ab:=if frm < pos then parts++[Dt text frm] else parts
def vf:PE⊕ab->PE⊕ab
 | .inl e=>.inl e
 | .inr e=>if chk e=0 then .inr e else .inl (chk e,e.fAt)
def GU:PE⊕ab->ab×ap
 | .inl e=>(e0,ap.mk e.1 e.2 [])
 | .inr e=>(e,ap.mk 0 0 [])
def vP (at':Int):Int×Int×Bytes×List ab×Bool->ab
 | (frm,pos,text,parts,IX)=>if IX then ab.mk 2 0 [] [] v0 (flS frm pos text parts) at' else Dt text at'
mutual
def iJ:Nat->Bool->List af->PR ab
 | 0,_,_=>none
 | f+1,b,l=>pb (q9 f 0 b l) λ c l=>if sgB b l [63] then pb (iJ f b (tl b l)) λ a l=>pb (iO b [58] l) λ _ l=>pb (iJ f b l) λ d l=>pok (ab.mk 8 0 [] [] v0 [c,a,d] c.fAt) l else pok c l
def q9:Nat->Nat->Bool->List af->PR ab
 | 0,_,_,_=>none
 | f+1,Iy,b,l=>if 5 < Iy then unS f b l else pb (q9 f (Iy+1) b l) λ e l=>sO f Iy b e l
def sO:Nat->Nat->Bool->ab->List af->PR ab
 | 0,_,_,_,_=>none
 | f+1,Iy,b,e,l=>match x9 b l Iy with
  | none=>pok e l
  | some p=>pb (q9 f (Iy+1) b (tl b l)) λ x l=>sO f Iy b (ab.mk 7 p.2 [] [] v0 [e,x] e.fAt) l
def unS:Nat->Bool->List af->PR ab
 | 0,_,_=>none
 | f+1,b,l=>if sgB b l [33] then pb (unS f b (tl b l)) λ e l'=>pok (ab.mk 6 1 [] [] v0 [e] (hd b l).fAt) l'
  else if sgB b l [45] then pb (unS f b (tl b l)) λ e l'=>pok (ab.mk 6 2 [] [] v0 [e] (hd b l).fAt) l'
  else pb (pB f b l) λ e l=>nq f b e l
def nq:Nat->Bool->ab->List af->PR ab
 | 0,_,_,_=>none
 | f+1,b,e,l=>if sgB b l [46] then (if (hd b (tl b l)).Ar=1 then nq f b (ab.mk 4 0 (hd b (tl b l)).Df [] v0 [e] e.fAt) (tl b (tl b l)) else per 2 (hd b (tl b l)).fAt)
  else if sgB b l [91] then pb (iJ f true (tl b l)) λ x l=>pb (iO true [93] l) λ _ l=>nq f b (ab.mk 5 0 [] [] v0 [e,x] e.fAt) l
  else pok e l
def pB:Nat->Bool->List af->PR ab
 | 0,_,_=>none
 | f+1,b,l=>if (hd b l).Ar=2 then (if (xk (hd b l).Df).2=0 then pok (yS (ah.mk 2 (xk (hd b l).Df).1 [] [] []) (hd b l).fAt) (tl b l) else per (xk (hd b l).Df).2 (hd b l).fAt)
  else if (hd b l).Ar=3 then wY f b l
  else if (hd b l).Ar=1 then qI f b l
  else if sgB b l [40] then pb (iJ f true (tl b l)) λ e l=>pb (iO true [41] l) λ _ l=>pok e l
  else if sgB b l [91] then (if wdB true (tl b l) [102,111,114] then rf f (hd b l).fAt 12 (tl true (tl b l)) else pb (mt f [93] (tl b l)) λ ks l'=>pok (ab.mk 10 0 [] [] v0 ks (hd b l).fAt) l')
  else if sgB b l [123] then (if wdB true (tl b l) [102,111,114] then rf f (hd b l).fAt 13 (tl true (tl b l)) else pb (vg f (tl b l)) λ ks l'=>pok (ab.mk 11 0 [] [] v0 ks (hd b l).fAt) l')
  else per 2 (hd b l).fAt
def wY:Nat->Bool->List af->PR ab
 | 0,_,_=>none
 | f+1,b,l=>match qj f (hd b l).Df ((hd b l).fAt+1) with
  | none=>none
  | some (.inl e)=>some (.inl e)
  | some (.inr e)=>pok (ab.mk e.Ar e.fOp e.AI e.E' e.A' e.By (hd b l).fAt) (tl b l)
def qI:Nat->Bool->List af->PR ab
 | 0,_,_=>none
 | f+1,b,l=>if (hd b l).Df=[110,117,108,108] then pok (yS v0 (hd b l).fAt) (tl b l)
  else if (hd b l).Df=[116,114,117,101] then pok (yS (ah.mk 1 1 [] [] []) (hd b l).fAt) (tl b l)
  else if (hd b l).Df=[102,97,108,115,101] then pok (yS (ah.mk 1 0 [] [] []) (hd b l).fAt) (tl b l)
  else if gC (hd b l).Df=true then per 2 (hd b l).fAt
  else if sgB b (tl b l) [40] then pb (mt f [41] (tl b (tl b l))) λ ks l'=>pok (ab.mk 9 0 (hd b l).Df [] v0 ks (hd b l).fAt) l'
  else pok (ab.mk 3 0 (hd b l).Df [] v0 [] (hd b l).fAt) (tl b l)
def mt:Nat->Bytes->List af->PR (List ab)
 | 0,_,_=>none
 | f+1,e,l=>if sgB true l e then pok [] (tl true l)
  else pb (iJ f true l) λ x l=>if sgB true l [44] then pb (mt f e (tl true l)) λ r l=>pok (x::r) l else pb (iO true e l) λ _ l=>pok [x] l
def vg:Nat->List af->PR (List ab)
 | 0,_=>none
 | f+1,l=>if sgB true l [125] then pok [] (tl true l)
  else pb (si f l) λ k l=>pb (iO true [61] l) λ _ l=>pb (iJ f true l) λ x l=>if sgB true l [44] then pb (vg f (tl true l)) λ r l=>pok (k::x::r) l else pb (iO true [125] l) λ _ l=>pok [k,x] l
def si:Nat->List af->PR ab
 | 0,_=>none
 | f+1,l=>if (hd true l).Ar=1 then pok (Dt (hd true l).Df (hd true l).fAt) (tl true l)
  else if (hd true l).Ar=3 then wY f true l
  else if sgB true l [40] then pb (iJ f true (tl true l)) λ e l=>pb (iO true [41] l) λ _ l=>pok e l
  else per 2 (hd true l).fAt
def rf:Nat->Int->Int->List af->PR ab
 | 0,_,_,_=>none
 | f+1,at',k,l=>pb (CJ true l) λ v l =>
  pb (if sgB true l [44] then pb (CJ true (tl true l)) λ w l=>pok (w,v) l else pok (v,[]) l) λ nk l =>
  pb (Fv true [105,110] l) λ _ l=>pb (iJ f true l) λ a l=>pb (iO true [58] l) λ _ l=>pb (iJ f true l) λ c l =>
  pb (if k=13 then pb (iO true [61,62] l) λ _ l=>pb (iJ f true l) λ d l=>pok [a,c,d] l else pok [a,c] l) λ ks l =>
  pb (if wdB true l [105,102] then pb (iJ f true (tl true l)) λ e l=>pok (ks++[e]) l else pok ks l) λ ks l =>
  pb (iO true (if k=13 then [125] else [93]) l) λ _ l=>pok (ab.mk k 0 nk.1 nk.2 v0 ks at') l
def qj:Nat->Bytes->Int->Option (PE⊕ab)
 | 0,_,_=>none
 | f+1,s,at'=>match lh f at' at' [] [] false s with
  | none=>none
  | some (.inl e)=>some (.inl e)
  | some (.inr z)=>some (vf (.inr (vP at' z)))
def lh:Nat->Int->Int->Bytes->List ab->Bool->Bytes->Option (PE⊕(Int×Int×Bytes×List ab×Bool))
 | 0,_,_,_,_,_,_=>none
 | f+1,frm,pos,text,parts,IX,l=>match l with
  | []=>some (.inr (frm,pos,text,parts,IX))
  | c::r=>if hasPrefix (c::r) [36,36,123]=true then (if 4096 < text.length+2 then some (.inl (3,frm)) else lh f frm (pos+3) (text++[36,123]) parts IX ((c::r).drop 3))
   else if hasPrefix (c::r) [36,123]=true then (match kr f 1 ((c::r).drop 2) with
    | none=>none
    | some none=>some (.inl (40,pos))
    | some (some r')=>match lK f (((c::r).drop 2).take (((c::r).drop 2).length - r'.length - 1)) (pos+2) with
     | none=>none
     | some (.inl e)=>some (.inl e)
     | some (.inr e)=>lh f (pos+((c::r).length - r'.length:Nat)) (pos+((c::r).length - r'.length:Nat)) [] (flS frm pos text parts++[e]) true r')
   else match ns (c::r) with
    | .inl k=>some (.inl (k,pos))
    | .inr (t,n)=>if 4096 < text.length+t.length then some (.inl (3,frm)) else lh f frm (pos+(n:Int)) (text++t) parts IX ((c::r).drop n)
def lK:Nat->Bytes->Int->Option (PE⊕ab)
 | 0,_,_=>none
 | f+1,s,base=>if (iD s).2.Ar≠0 then some (.inl ((iD s).2.Ar,base+(iD s).2.fAt))
  else match iJ f true ((iD s).1.map (mvT base)) with
   | none=>none
   | some (.inl e)=>some (.inl e)
   | some (.inr (e,l))=>if (hd true l).Ar=6 then some (.inr e) else some (.inl (2,(hd true l).fAt))
end
theorem tX {P:Int->Prop}{i:Nat}(h:P ((i+1:Nat):Int)):P ((i:Int)+1):=by rwa [Int.natCast_add,Int.natCast_one] at h
def TkB (t:af):Prop:=0<=t.fAt/\t.fAt+(t.Df.length:Int)<=1000000000/\(t.Ar=3->t.fAt+1+(t.Df.length:Int)<=1000000000)/\(t.Ar=2->t.Df.all iP=true)
def Gd:List af->Prop
 | []=>False
 | t::r=>TkB t/\((t.Ar=6/\r=[])\/(t.Ar≠6/\Gd r))
theorem ET {t:af}:nlT t=true↔t.Ar=5:=by simp [nlT]
theorem w7 (b:Bool):nf b []=[]:=by cases b <;> rfl
theorem lW (b:Bool)(t:af)(r:List af):nf b (t::r)=if b=true/\t.Ar=5 then nf b r else t::r:=by
 cases b with
 | false=>simp [nf]
 | true=>simp only [nf,if_true,true_and]; rw [List.dropWhile_cons]; simp only [ET]
theorem FS (b:Bool):∀ (l:List af),nf b (nf b l)=nf b l
 | []=>by rw [w7,w7]
 | t::r=>by
  rw [lW];split
  ·exact FS b r
  ·rename_i h; rw [lW,if_neg h]
theorem tB {b:Bool}:∀ {l:List af},Gd l->Gd (nf b l)
 | [],h=>h.elim
 | t::r,h=>by
  rw [lW];split
  ·rename_i h1;rcases h.2 with h2 | h2
   ·omega
   ·exact tB h2.2
  ·exact h
theorem yA (b:Bool):∀ (l:List af),(nf b l).length<=l.length
 | []=>by rw [w7]; exact n6 _
 | t::r=>by
  rw [lW];split
  ·exact Nat.le_succ_of_le (yA b r)
  ·exact n6 _
theorem wL (b:Bool)(base:Int):∀ (l:List af),nf b (l.map (mvT base))=(nf b l).map (mvT base)
 | []=>by rw [ld,w7,ld]
 | t::r=>by
  rw [bx,lW,lW,wL b base r];show (if b=true/\t.Ar=5 then _ else _)=_;split <;> rfl
theorem AK {l:List af}(h:Gd l):l≠[]:=by intro e; subst e; exact h
theorem tS {b:Bool}{l:List af}(h:Gd (nf b l)):nf b l=hd b l::tl b l:=by
 unfold hd tl
 cases hn:nf b l with
 | nil=>rw [hn] at h; exact h.elim
 | cons t r=>rfl
theorem xo {b:Bool}{l:List af}(h:Gd (nf b l)):TkB (hd b l):=by
 have:=h; rw [tS h] at this; exact this.1
theorem BZ {b:Bool}{l:List af}(h:Gd (nf b l))(h6:(hd b l).Ar≠6):Gd (tl b l):=by
 have:=h; rw [tS h] at this;rcases this.2 with h2 | h2
 ·exact absurd h2.1 h6
 ·exact h2.2
theorem FZ {b:Bool}{l:List af}(h:Gd (nf b l)):(tl b l).length < l.length:=by
 have h1:=congrArg List.length (tS h);have:=yA b l;rw [aq] at h1; omega
theorem qF {b:Bool}{l:List af}{s:Bytes}:sgB b l s=true↔(hd b l).Ar=4/\(hd b l).Df=s:=by simp [sgB]
theorem wy {b:Bool}{l:List af}{s:Bytes}:wdB b l s=true↔(hd b l).Ar=1/\(hd b l).Df=s:=by simp [wdB]
theorem wK {base:Int}:∀ {L:List af} {i:Nat},Gd (L.map (mvT base))->i < L.length->Gd ((L.drop i).map (mvT base))
 | [],_,h,_=>h.elim
 | t::r,0,h,_=>h
 | t::r,i+1,h,hi=>by
  rcases h.2 with h2 | h2
  ·have:r=[]:=List.map_eq_nil_iff.1 h2.2;subst this; simp at hi
  ·exact wK (L:=r) (i:=i) h2.2 (by simpa using hi)
theorem uA {L:List af}{i:Nat}(h:i < L.length):L.drop i=lat L (i:Int)::L.drop (i+1):=by
 rw [oO L i h]; exact List.drop_eq_getElem_cons h
section
variable {L:List af} {base:Int}
def Pos (L:List af)(base:Int)(i:Nat)(HZ:Int)(b:Bool)(l:List af):Prop :=
 i < L.length/\0<=HZ/\HZ+((L.length - i:Nat):Int)<=1000000000/\b=decide (0 < HZ)/\nf b ((L.drop i).map (mvT base))=nf b l
theorem Pos.gd {i:Nat}{HZ:Int}{b:Bool}{l:List af}(hL:Gd (L.map (mvT base)))(h:Pos L base i HZ b l):Gd (nf b l):=by
 rw [<- h.2.2.2.2]; exact tB (wK hL h.1)
theorem Ec (hL:Gd (L.map (mvT base)))(H0:L.length<=1000000000){HZ:Int}{d:ap}{a:Int}:∀ (k i:Nat),i+k=L.length->0 < k ->
  Ev2 (λ _ m=>dk (.mk L a HZ base d) m (i:Int)) (λ j=>∃ j':Nat,j=(j':Int)/\i<=j'/\j' < L.length/\L.drop j'=nf (decide (0 < HZ)) (L.drop i)):=by
 intro k
 induction k with
 | zero=>intro i _ h; omega
 | succ k ih =>
  intro i hi _;have hd':=uA (L:=L) (i:=i) O;refine aY ?_;simp only [dk];refine ao (decide (0 < HZ/\(lat L (i:Int)).Ar=5)) ?_ ?_
  ·refine aI (λ h=>aw ⟨by omega,by show (i:Int) < (L.length:Int); omega⟩ (aa ?_)) (λ h=>aa ?_)
   ·have h:0 < HZ:=h;simp only [h,true_and]
   ·have h:¬ 0 < HZ:=h;simp [h]
  ·by_cases h:0 < HZ/\(lat L (i:Int)).Ar=5
   ·refine am (by simpa using h) (aw (aK O O) ?_)
    have hk:0 < k:=by
     have hg:=wK hL (i:=i) O;rw [hd',bx] at hg;rcases hg.2 with h2 | h2
     ·have h2:(lat L (i:Int)).Ar=6:=h2.1;omega
     ·have:=AK h2.2;rcases Nat.eq_zero_or_pos k with hk | hk
      ·subst hk; rw [List.drop_eq_nil_of_le O] at this; exact absurd rfl this
      ·exact hk
    refine b7 (tX (P:=λ j=>Ev2 (λ _ m=>dk (.mk L a HZ base d) m j) _) (ih (i+1) O hk)) ?_;rintro r ⟨j',h1,h2,h3,h4⟩;refine ⟨j',h1,by omega,h3,?_⟩;rw [h4,hd',lW,if_pos ⟨by simp [h.1],h.2⟩]
   ·refine ak (by simpa using h) (aa ⟨i,Z,n6 _,by omega,?_⟩);rw [hd',lW,if_neg (by simpa using h)]
theorem Pos.ext {i j:Nat}{HZ:Int}{b:Bool}{l:List af}(h:Pos L base i HZ b l)(h1:i<=j)(h2:j < L.length)(h3:L.drop j=nf b (L.drop i)):Pos L base j HZ b l:=by
 obtain ⟨q1,q2,q3,q4,q5⟩:=h;refine ⟨h2,q2,by omega,q4,?_⟩;rw [wL,h3,FS,<- wL,q5]
theorem Pos.any {i:Nat}{HZ:Int}{b:Bool}{l:List af}(h:Pos L base i HZ b l):Pos L base i HZ b ((L.drop i).map (mvT base)):=⟨h.1,h.2.1,h.2.2.1,h.2.2.2.1,Z⟩
theorem fp (hL:Gd (L.map (mvT base)))(H0:L.length<=1000000000){i:Nat}{HZ:Int}{b:Bool}{l:List af}{d:ap}(h:Pos L base i HZ b l) :
  Ev2 (λ n _=>bN n (.mk L (i:Int) HZ base d)) (λ z=>z.1=hd b l/\∃ j:Nat,z.2=.mk L (j:Int) HZ base d/\Pos L base j HZ b l/\(L.drop j).map (mvT base)=nf b l/\i<=j):=by
 simp only [bN];have hi:=h.1;refine ag _ (bU (Ec hL H0 (d:=d) (a:=(i:Int)) (L.length - i) i O O)) ?_;rintro x ⟨j,rfl,h1,h2,h3⟩;rw [<- h.2.2.2.1] at h3;have hg:Gd (nf b l):=h.gd hL;have hdr:(L.drop j).map (mvT base)=nf b l:=by rw [h3,<- wL,h.2.2.2.2]
 have hhd:mvT base (lat L (j:Int))=hd b l:=by
  have:=hdr;rw [uA h2,bx,tS hg] at this;exact (List.cons.inj this).1
 have hb:=xo hg;rw [<- hhd] at hb;obtain ⟨b1,b2,-,-⟩:=hb;have b1:0<=(lat L (j:Int)).fAt+base:=b1;have b2:(lat L (j:Int)).fAt+base+((lat L (j:Int)).Df.length:Int)<=1000000000:=b2;refine aw ⟨by omega,by show (j:Int) < (L.length:Int); omega⟩ (aw (aK (by show _<=(lat L (j:Int)).fAt+base; omega) (by show (lat L (j:Int)).fAt+base<=_; omega)) (aa ⟨hhd,j,rfl,h.ext h1 h2 h3,hdr,h1⟩))
theorem Pos.next {j:Nat}{HZ:Int}{b:Bool}{l:List af}(hL:Gd (L.map (mvT base)))(h:Pos L base j HZ b l)(hdr:(L.drop j).map (mvT base)=nf b l)(h6:(hd b l).Ar≠6) :
  Pos L base (j+1) HZ b (tl b l)/\(L.drop (j+1)).map (mvT base)=tl b l:=by
 have hg:Gd (nf b l):=h.gd hL
 have e:(L.drop (j+1)).map (mvT base)=tl b l:=by
  have:=hdr;rw [uA h.1,bx,tS hg] at this;exact (List.cons.inj this).2
 have Iw:=AK (BZ hg h6)
 have:j+1 < L.length:=by
  rw [<- e] at Iw;rcases Nat.lt_or_ge (j+1) L.length with q | q
  ·exact q
  ·rw [List.drop_eq_nil_of_le q] at Iw; exact absurd rfl Iw
 obtain ⟨q1,q2,q3,q4,q5⟩:=h;exact ⟨⟨this,q2,by omega,q4,by rw [e]⟩,e⟩
theorem Fu (hL:Gd (L.map (mvT base)))(H0:L.length<=1000000000){i:Nat}{HZ:Int}{b:Bool}{l:List af}{d:ap}(h:Pos L base i HZ b l) :
  Ev2 (λ n _=>aU n (.mk L (i:Int) HZ base d)) (λ z=>z.1=hd b l/\∃ j:Nat,z.2=.mk L (j:Int) HZ base d/\if (hd b l).Ar=6 then Pos L base j HZ b l else Pos L base j HZ b (tl b l)/\(L.drop j).map (mvT base)=tl b l/\i < j):=by
 simp only [aU];refine ag _ (fp hL H0 h) ?_;rintro ⟨z1,z2⟩ ⟨h1,j,h2,h3,h4,h5⟩;replace h1:z1=_:=h1; subst h1; cases h2;have hj:=h3.1;by_cases h6:(hd b l).Ar=6
 ·refine ao (j:Int) (am h6 (aa Z)) (aa ⟨Z,j,Z,?_⟩);rw [if_pos h6]; exact h3
 ·refine ao ((j:Int)+1) (ak h6 (aw (aK (by show _<=(j:Int)+1; omega) (by show (j:Int)+1<=_; omega)) (aa Z))) (aa ⟨Z,j+1,Z,?_⟩);rw [if_neg h6]; exact ⟨(h3.next hL h4 h6).1,(h3.next hL h4 h6).2,by omega⟩
theorem eh (hL:Gd (L.map (mvT base)))(H0:L.length<=1000000000){i:Nat}{HZ:Int}{b:Bool}{l:List af}{d:ap}(h:Pos L base i HZ b l)(h6:(hd b l).Ar≠6) :
  Ev2 (λ n _=>aU n (.mk L (i:Int) HZ base d)) (λ z=>z.1=hd b l/\∃ j:Nat,z.2=.mk L (j:Int) HZ base d/\Pos L base j HZ b (tl b l)/\(L.drop j).map (mvT base)=tl b l/\i < j) :=
 b7 (Fu hL H0 h) λ z ⟨h1,j,h2,h3⟩=>⟨h1,j,h2,by rw [if_neg h6] at h3; exact h3⟩
theorem EP (p:ae)(k a:Int):bO p k a=some (e0,if p.AT.Ar=0 then .mk p.fl p.fat p.G' p.Gw (.mk k a []) else .mk p.fl p.fat p.G' p.Gw (.mk p.AT.Ar p.AT.fAt p.AT.AI)):=by
 simp only [bO,bc,py];by_cases h:p.AT.Ar=0
 ·simp only [h]; rfl
 ·simp only [h]; rfl
def dOk:ap:=ap.mk 0 0 []
def eD (e:PE):ap:=ap.mk e.1 e.2 []
def Out {α:Type}(L:List af)(base:Int)(HZ:Int)(b:Bool)(q:PE⊕(α×List af))(z:α×ae):Prop:=match q with
 | .inl e=>e.1≠0/\∃ (j:Nat) (l':List af),z.2=.mk L (j:Int) HZ base (eD e)/\Pos L base j HZ b l'
 | .inr (x,l)=>z.1=x/\∃ j:Nat,z.2=.mk L (j:Int) HZ base dOk/\Pos L base j HZ b l
def Eo (L:List af)(base:Int)(HZ:Int)(b:Bool)(q:PE⊕(Unit×List af))(z:ae):Prop:=match q with
 | .inl e=>e.1≠0/\∃ (j:Nat) (l':List af),z=.mk L (j:Int) HZ base (eD e)/\Pos L base j HZ b l'
 | .inr (_,l)=>∃ j:Nat,z=.mk L (j:Int) HZ base dOk/\Pos L base j HZ b l/\(L.drop j).map (mvT base)=l
theorem fZ (hL:Gd (L.map (mvT base)))(H0:L.length<=1000000000){i:Nat}{HZ:Int}{b:Bool}{l:List af}(s:Bytes)(h:Pos L base i HZ b l) :
  Ev2 (λ n _=>bu n (.mk L (i:Int) HZ base dOk) s) (λ z=>z.1=sgB b l s/\∃ j:Nat,z.2=.mk L (j:Int) HZ base dOk/\Pos L base j HZ b l):=by
 simp only [bu,bc,py];refine ag _ (fp hL H0 h) ?_;rintro ⟨z1,z2⟩ ⟨h1,j,h2,h3,h4,h5⟩;replace h1:z1=_:=h1; subst h1; cases h2;refine ao (sgB b l s,L,(j:Int),HZ,base,0,0,[]) ?_ (aa ⟨rfl,j,rfl,h3⟩);refine am rfl (aI (λ h=>aa ?_) (λ h=>aa ?_))
 ·have h:(hd b l).Ar=4:=h;simp only [sgB,h,decide_true,Bool.true_and] <;> rfl
 ·have h:¬ (hd b l).Ar=4:=h;simp only [sgB,h,decide_false,Bool.false_and] <;> rfl
theorem kz (hL:Gd (L.map (mvT base)))(H0:L.length<=1000000000){i:Nat}{HZ:Int}{b:Bool}{l:List af}{e:PE}(s:Bytes)(he:e.1≠0)(h:Pos L base i HZ b l) :
  Ev2 (λ n _=>bu n (.mk L (i:Int) HZ base (eD e)) s) (λ z=>∃ j:Nat,z=(false,.mk L (j:Int) HZ base (eD e))/\Pos L base j HZ b l):=by
 simp only [bu,bc,py];refine ag _ (fp hL H0 h) ?_;rintro ⟨z1,z2⟩ ⟨h1,j,h2,h3,h4,h5⟩;replace h1:z1=_:=h1; subst h1; cases h2;refine ao (false,L,(j:Int),HZ,base,e.1,e.2,[]) ?_ (aa ⟨j,rfl,h3⟩);have:(!(!decide ((eD e).Ar=0)))=false:=by show (!(!decide (e.1=0)))=false; simp [he]
 exact ak (by show ¬ (!(!decide ((eD e).Ar=0)))=true; simp [this]) (aa Z)
theorem rb (hL:Gd (L.map (mvT base)))(H0:L.length<=1000000000){i:Nat}{HZ:Int}{b:Bool}{l:List af}(s:Bytes)(h:Pos L base i HZ b l) :
  Ev2 (λ n _=>dd n (.mk L (i:Int) HZ base dOk) s) (λ z=>z.1=wdB b l s/\∃ j:Nat,z.2=.mk L (j:Int) HZ base dOk/\Pos L base j HZ b l):=by
 simp only [dd,bc,py];refine ag _ (fp hL H0 h) ?_;rintro ⟨z1,z2⟩ ⟨h1,j,h2,h3,h4,h5⟩;replace h1:z1=_:=h1; subst h1; cases h2;refine ao (wdB b l s,L,(j:Int),HZ,base,0,0,[]) ?_ (aa ⟨rfl,j,rfl,h3⟩);refine am rfl (aI (λ h=>aa ?_) (λ h=>aa ?_))
 ·have h:(hd b l).Ar=1:=h;simp only [wdB,h,decide_true,Bool.true_and] <;> rfl
 ·have h:¬ (hd b l).Ar=1:=h;simp only [wdB,h,decide_false,Bool.false_and] <;> rfl
theorem pn (hL:Gd (L.map (mvT base)))(H0:L.length<=1000000000){i:Nat}{HZ:Int}{b:Bool}{l:List af}{e:PE}(s:Bytes)(he:e.1≠0)(h:Pos L base i HZ b l) :
  Ev2 (λ n _=>dd n (.mk L (i:Int) HZ base (eD e)) s) (λ z=>∃ j:Nat,z=(false,.mk L (j:Int) HZ base (eD e))/\Pos L base j HZ b l):=by
 simp only [dd,bc,py];refine ag _ (fp hL H0 h) ?_;rintro ⟨z1,z2⟩ ⟨h1,j,h2,h3,h4,h5⟩;replace h1:z1=_:=h1; subst h1; cases h2;refine ao (false,L,(j:Int),HZ,base,e.1,e.2,[]) ?_ (aa ⟨j,rfl,h3⟩);have:(!(!decide ((eD e).Ar=0)))=false:=by show (!(!decide (e.1=0)))=false; simp [he]
 exact ak (by show ¬ (!(!decide ((eD e).Ar=0)))=true; simp [this]) (aa Z)
theorem iQ (i HZ:Int)(k a:Int):bO (.mk L i HZ base dOk) k a=some (e0,.mk L i HZ base (eD (k,a))):=rfl
theorem wX {e:PE}(he:e.1≠0)(i HZ:Int)(k a:Int):bO (.mk L i HZ base (eD e)) k a=some (e0,.mk L i HZ base (eD e)):=by
 rw [EP,if_neg (show ¬ (eD e).Ar=0 from he)]
theorem kW (hL:Gd (L.map (mvT base)))(H0:L.length<=1000000000){i:Nat}{HZ:Int}{b:Bool}{l:List af}(s:Bytes){q:PE⊕(Unit×List af)}(h:Pos L base i HZ b l)(hq:iO b s l=some q) :
  Ev2 (λ n _=>cS n (.mk L (i:Int) HZ base dOk) s) (Eo L base HZ b q):=by
 simp only [cS];refine ag _ (fZ hL H0 s h) ?_;rintro ⟨z1,z2⟩ ⟨h1,j,h2,h3⟩;replace h1:z1=_:=h1; subst h1; cases h2;unfold iO at hq;by_cases hs:sgB b l s=true
 ·rw [if_pos hs] at hq; cases hq;refine ak (by simp [hs]) (ag _ (eh hL H0 h3 (by have:=(qF.1 hs).1; omega)) ?_);rintro ⟨y1,y2⟩ ⟨g1,k,g2,g3,g4,g5⟩
  cases g2
  exact aa ⟨k,Z,g3,g4⟩
 ·rw [if_neg hs] at hq; cases hq;refine am (by simpa using hs) (ag _ (fp hL H0 h3) ?_);rintro ⟨y1,y2⟩ ⟨g1,k,g2,g3,g4,g5⟩;replace g1:y1=_:=g1; subst g1; cases g2;refine ao _ (ar (iQ _ _ _ _) rfl) (aa ⟨(by decide:(2:Int)≠0),k,l,rfl,g3⟩)
theorem kA (hL:Gd (L.map (mvT base)))(H0:L.length<=1000000000){i:Nat}{HZ:Int}{b:Bool}{l:List af}{e:PE}(s:Bytes)(he:e.1≠0)(h:Pos L base i HZ b l) :
  Ev2 (λ n _=>cS n (.mk L (i:Int) HZ base (eD e)) s) (λ z=>∃ (j:Nat) (l':List af),z=.mk L (j:Int) HZ base (eD e)/\Pos L base j HZ b l'):=by
 simp only [cS];refine ag _ (kz hL H0 s he h) ?_;rintro _ ⟨j,rfl,h3⟩;refine am rfl (ag _ (fp hL H0 h3) ?_);rintro ⟨y1,y2⟩ ⟨g1,k,g2,g3,g4,g5⟩;replace g1:y1=_:=g1; subst g1; cases g2;exact ao _ (ar (wX he _ _ _ _) rfl) (aa ⟨k,l,rfl,g3⟩)
theorem uJ (hL:Gd (L.map (mvT base)))(H0:L.length<=1000000000){i:Nat}{HZ:Int}{b:Bool}{l:List af}(s:Bytes){q:PE⊕(Unit×List af)}(h:Pos L base i HZ b l)(hq:Fv b s l=some q) :
  Ev2 (λ n _=>dM n (.mk L (i:Int) HZ base dOk) s) (Eo L base HZ b q):=by
 simp only [dM];refine ag _ (rb hL H0 s h) ?_;rintro ⟨z1,z2⟩ ⟨h1,j,h2,h3⟩;replace h1:z1=_:=h1; subst h1; cases h2;unfold Fv at hq;by_cases hs:wdB b l s=true
 ·rw [if_pos hs] at hq; cases hq;refine ak (by simp [hs]) (ag _ (eh hL H0 h3 (by have:=(wy.1 hs).1; omega)) ?_);rintro ⟨y1,y2⟩ ⟨g1,k,g2,g3,g4,g5⟩
  cases g2
  exact aa ⟨k,Z,g3,g4⟩
 ·rw [if_neg hs] at hq; cases hq;refine am (by simpa using hs) (ag _ (fp hL H0 h3) ?_);rintro ⟨y1,y2⟩ ⟨g1,k,g2,g3,g4,g5⟩;replace g1:y1=_:=g1; subst g1; cases g2;refine ao _ (ar (iQ _ _ _ _) rfl) (aa ⟨(by decide:(2:Int)≠0),k,l,rfl,g3⟩)
theorem vm (hL:Gd (L.map (mvT base)))(H0:L.length<=1000000000){i:Nat}{HZ:Int}{b:Bool}{l:List af}{e:PE}(s:Bytes)(he:e.1≠0)(h:Pos L base i HZ b l) :
  Ev2 (λ n _=>dM n (.mk L (i:Int) HZ base (eD e)) s) (λ z=>∃ (j:Nat) (l':List af),z=.mk L (j:Int) HZ base (eD e)/\Pos L base j HZ b l'):=by
 simp only [dM];refine ag _ (pn hL H0 s he h) ?_;rintro _ ⟨j,rfl,h3⟩;refine am rfl (ag _ (fp hL H0 h3) ?_);rintro ⟨y1,y2⟩ ⟨g1,k,g2,g3,g4,g5⟩;replace g1:y1=_:=g1; subst g1; cases g2;exact ao _ (ar (wX he _ _ _ _) rfl) (aa ⟨k,l,rfl,g3⟩)
theorem Pos.out {j:Nat}{HZ:Int}{l l':List af}(h:Pos L base j (HZ+1) true l)(h0:0<=HZ)(he:(L.drop j).map (mvT base)=l'):Pos L base j HZ (decide (0 < HZ)) l':=by
 obtain ⟨q1,q2,q3,q4,q5⟩:=h;exact ⟨q1,h0,by omega,rfl,by rw [he]⟩
theorem Dl (hL:Gd (L.map (mvT base)))(H0:L.length<=1000000000){i:Nat}{HZ:Int}{l:List af}(s:Bytes){q:PE⊕(Unit×List af)}(h0:0<=HZ)(h:Pos L base i (HZ+1) true l)(hq:iO true s l=some q) :
  Ev2 (λ n _=>bR n (.mk L (i:Int) (HZ+1) base dOk) s) (Eo L base HZ (decide (0 < HZ)) q):=by
 simp only [bR];refine ag _ (kW hL H0 s h hq) ?_;intro z hz;have hb:=h.2.2.1;rcases q with e | ⟨u,l'⟩
 ·obtain ⟨he,j,l',rfl,hp⟩:=hz;refine aw (aK (by show _<=HZ+1 - 1; omega) (by show HZ+1 - 1<=_; omega)) (aa ⟨he,j,(L.drop j).map (mvT base),?_,hp.out h0 rfl⟩);show ae.mk L j (HZ+1 - 1) base (eD e)=_;rw [Int.add_sub_cancel]
 ·obtain ⟨j,rfl,hp,hx⟩:=hz;refine aw (aK (by show _<=HZ+1 - 1; omega) (by show HZ+1 - 1<=_; omega)) (aa ⟨j,?_,hp.out h0 hx,hx⟩);show ae.mk L j (HZ+1 - 1) base dOk=_;rw [Int.add_sub_cancel]
theorem Fz (hL:Gd (L.map (mvT base)))(H0:L.length<=1000000000){i:Nat}{HZ:Int}{l:List af}{e:PE}(s:Bytes)(he:e.1≠0)(h0:0<=HZ)(h:Pos L base i (HZ+1) true l) :
  Ev2 (λ n _=>bR n (.mk L (i:Int) (HZ+1) base (eD e)) s) (λ z=>∃ (j:Nat) (l':List af),z=.mk L (j:Int) HZ base (eD e)/\Pos L base j HZ (decide (0 < HZ)) l'):=by
 simp only [bR];refine ag _ (kA hL H0 s he h) ?_;rintro _ ⟨j,l',rfl,hp⟩;have hb:=h.2.2.1;refine aw (aK (by show _<=HZ+1 - 1; omega) (by show HZ+1 - 1<=_; omega)) (aa ⟨j,(L.drop j).map (mvT base),?_,hp.out h0 rfl⟩);show ae.mk L j (HZ+1 - 1) base (eD e)=_;rw [Int.add_sub_cancel]
theorem p6 (hL:Gd (L.map (mvT base)))(H0:L.length<=1000000000){i:Nat}{HZ:Int}{b:Bool}{l:List af}(h:Pos L base i HZ b l)(h6:(hd b l).Ar≠6) :
  Ev2 (λ n _=>dc n (.mk L (i:Int) HZ base dOk)) (λ z=>∃ j:Nat,z=.mk L (j:Int) (HZ+1) base dOk/\Pos L base j (HZ+1) true (tl b l)):=by
 simp only [dc];refine ag _ (eh hL H0 h h6) ?_;rintro ⟨z1,z2⟩ ⟨h1,j,h2,h3,h4,h5⟩
 cases h2
 have hb:=h.2.2.1;have hn:=h.2.1;have hj:=h3.1;refine aw (aK (by show _<=HZ+1; omega) (by show HZ+1<=_; omega)) (aa ⟨j,Z,h3.1,by omega,by omega,?_,by rw [h4]⟩)
 symm; rw [decide_eq_true_eq]; omega
theorem nz (hL:Gd (L.map (mvT base)))(H0:L.length<=1000000000){i:Nat}{HZ:Int}{b:Bool}{l:List af}{q:PE⊕(Bytes×List af)}(h:Pos L base i HZ b l)(hq:CJ b l=some q) :
  Ev2 (λ n _=>ee n (.mk L (i:Int) HZ base dOk)) (Out L base HZ b q):=by
 simp only [ee,bc,py];refine ag _ (fp hL H0 h) ?_;rintro ⟨z1,z2⟩ ⟨h1,j,h2,h3,h4,h5⟩;replace h1:z1=_:=h1; subst h1; cases h2;unfold CJ at hq;by_cases hs:(hd b l).Ar=1/\gC (hd b l).Df=false
 ·rw [if_pos hs] at hq; cases hq;refine ao (false,L,(j:Int),HZ,base,0,0,[]) (ak qr (am hs.1 (ao _ (ar (tr _) rfl) (aa ?_)))) ?_
  ·rw [hs.2]; rfl
  ·refine ak qr (ag _ (eh hL H0 h3 O) ?_);rintro ⟨y1,y2⟩ ⟨g1,k,g2,g3,g4,g5⟩
   cases g2
   exact aa ⟨Z,k,Z,g3⟩
 ·rw [if_neg hs] at hq; cases hq;refine ao (true,L,(j:Int),HZ,base,0,0,[]) (ak qr (aI (λ h1=>ao _ (ar (tr _) rfl) (aa ?_)) (λ h1=>aa rfl))) ?_
  ·have h1:(hd b l).Ar=1:=h1
   have:gC (hd b l).Df=true:=by
    cases hr:gC (hd b l).Df with
    | true=>rfl
    | false=>exact absurd ⟨h1,hr⟩ hs
   rw [this]; rfl
  ·exact am Z (ao _ (ar (iQ _ _ _ _) Z) (aa ⟨(by decide:(2:Int)≠0),j,l,Z,h3⟩))
end
end Go.Ab.R06
end
section
namespace Go.Ab.R06
open Go.Ab Go.Ab.RB Go.Lib
section
variable {L:List af} {base:Int}
theorem CF (hL:Gd (L.map (mvT base)))(H0:L.length<=1000000000){HZ:Int}{b:Bool}{l:List af}(ls:List Bytes)(hls:ls.length<=1000):∀ (k t i:Nat),t+k=ls.length->Pos L base i HZ b l ->
  Ev2 (λ n m=>bP n ls m (t:Int) L (i:Int) HZ base 0 0 []) (λ r=>match (ls.drop t).find? (λ s=>sgB b l s) with
   | some s=>∃ j:Nat,r=.inr (s,true,.mk L (j:Int) HZ base dOk)/\Pos L base j HZ b l
   | none=>∃ j:Nat,r=.inl (L,(j:Int),HZ,base,0,0,[])/\Pos L base j HZ b l):=by
 intro k
 induction k with
 | zero =>
  intro t i ht h;refine aY ?_;simp only [bP];refine ak O (aa ?_);rw [List.drop_eq_nil_of_le O];exact ⟨i,rfl,h⟩
 | succ k ih =>
  intro t i ht h;refine aY ?_;simp only [bP];have hdr:ls.drop t=lat ls (t:Int)::ls.drop (t+1):=by rw [oO ls t O]; exact List.drop_eq_getElem_cons O
  refine am O (aw ⟨by omega,by omega⟩ (ag _ (fZ hL H0 _ h) ?_));rintro ⟨z1,z2⟩ ⟨h1,j,h2,h3⟩;replace h1:z1=_:=h1; subst h1; cases h2;rw [hdr,List.find?_cons]
  cases hs:sgB b l (lat ls (t:Int)) with
  | true=>exact am Z (aa ⟨j,Z,h3⟩)
  | false=>exact ak qr (aw (aK O O) (tX (P:=λ x=>Ev2 (λ n m=>bP n ls m x L (j:Int) HZ base 0 0 []) _) (ih (t+1) j O h3)))
theorem Cj (hL:Gd (L.map (mvT base)))(H0:L.length<=1000000000){i:Nat}{HZ:Int}{b:Bool}{l:List af}(ls:List Bytes)(hls:ls.length<=1000)(h:Pos L base i HZ b l) :
  Ev2 (λ n _=>et n (.mk L (i:Int) HZ base dOk) ls) (λ r=>match ls.find? (λ s=>sgB b l s) with
   | some s=>∃ j:Nat,r=(s,true,.mk L (j:Int) HZ base dOk)/\Pos L base j HZ b l
   | none=>∃ j:Nat,r=([],false,.mk L (j:Int) HZ base dOk)/\Pos L base j HZ b l):=by
 simp only [et];have hl:=CF hL H0 ls hls ls.length 0 i O h;rw [List.drop_zero] at hl
 cases hf:ls.find? (λ s=>sgB b l s) with
 | some s =>
  rw [hf] at hl;refine eC (b7 (bU hl) ?_);rintro _ ⟨j,rfl,hp⟩;exact ⟨j,rfl,hp⟩
 | none =>
  rw [hf] at hl;refine eC (b7 (bU hl) ?_);rintro _ ⟨j,rfl,hp⟩;exact aa ⟨j,rfl,hp⟩
theorem Dy (hL:Gd (L.map (mvT base)))(H0:L.length<=1000000000){HZ:Int}{b:Bool}{l:List af}{e:PE}(he:e.1≠0)(ls:List Bytes)(hls:ls.length<=1000):∀ (k t i:Nat),t+k=ls.length->Pos L base i HZ b l ->
  Ev2 (λ n m=>bP n ls m (t:Int) L (i:Int) HZ base e.1 e.2 []) (λ r=>∃ j:Nat,r=.inl (L,(j:Int),HZ,base,e.1,e.2,[])/\Pos L base j HZ b l):=by
 intro k
 induction k with
 | zero =>
  intro t i ht h;refine aY ?_;simp only [bP];exact ak O (aa ⟨i,rfl,h⟩)
 | succ k ih =>
  intro t i ht h;refine aY ?_;simp only [bP];refine am O (aw ⟨by omega,by omega⟩ (ag _ (kz hL H0 _ he h) ?_));rintro _ ⟨j,rfl,h3⟩;exact ak qr (aw (aK O O) (tX (P:=λ x=>Ev2 (λ n m=>bP n ls m x L (j:Int) HZ base e.1 e.2 []) _) (ih (t+1) j O h3)))
theorem Fc (hL:Gd (L.map (mvT base)))(H0:L.length<=1000000000){i:Nat}{HZ:Int}{b:Bool}{l:List af}{e:PE}(he:e.1≠0)(ls:List Bytes)(hls:ls.length<=1000)(h:Pos L base i HZ b l) :
  Ev2 (λ n _=>et n (.mk L (i:Int) HZ base (eD e)) ls) (λ r=>∃ j:Nat,r=([],false,.mk L (j:Int) HZ base (eD e))/\Pos L base j HZ b l):=by
 simp only [et];have hl:=Dy hL H0 he ls hls ls.length 0 i O h;refine eC (b7 (bU hl) ?_);rintro _ ⟨j,rfl,hp⟩;exact aa ⟨j,rfl,hp⟩
theorem yq {Iy:Nat}(h:Iy<=5):kl (Iy:Int)=some ((u7 Iy).map (·.1)):=by
 rcases Iy with _ | _ | _ | _ | _ | _ | k
 ·rfl
 ·rfl
 ·rfl
 ·rfl
 ·rfl
 ·rfl
 ·omega
def qT:List Bytes:=[[124,124],[38,38],[61,61],[33,61],[60],[60,61],[62],[62,61],[43],[45],[42],[47],[37]]
theorem HD (s:Bytes):∀ (k t:Nat),t+k=13->Ev2 (λ _ m=>ii s m (t:Int)) (·=match (qT.drop t).findIdx? (λ x=>decide (x=s)) with | some i=>.inr ((3+t+i:Nat):Int) | none=>.inl ()):=by
 intro k
 induction k with
 | zero =>
  intro t ht;refine aY ?_;simp only [ii];have:t=13:=by omega
  subst this;exact ak (by decide) (aa rfl)
 | succ k ih =>
  intro t ht;refine aY ?_;simp only [ii];have hdr:qT.drop t=lat qT (t:Int)::qT.drop (t+1):=by rw [oO qT t (by show t < 13; omega)]; exact List.drop_eq_getElem_cons (by show t < 13; omega)
  refine am O (aw ⟨by omega,by omega⟩ ?_);rw [hdr,List.findIdx?_cons];by_cases hs:lat qT (t:Int)=s
  ·refine am hs (aw (aK O O) (aa ?_));rw [decide_eq_true hs];show _=Sum.inr _;rw [show (3:Int)+(t:Int)=((3+t+0:Nat):Int) by omega]
  ·refine ak hs (aw (aK O O) (b7 (tX (P:=λ x=>Ev2 (λ _ m=>ii s m x) _) (ih (t+1) O)) ?_));rintro r rfl;rw [decide_eq_false hs]
   cases (qT.drop (t+1)).findIdx? (λ x=>decide (x=s)) with
   | none=>rfl
   | some i =>
    show Sum.inr ((3+(t+1)+i:Nat):Int)=Sum.inr ((3+t+(i+1):Nat):Int);congr 2; omega
theorem FL {Iy:Nat}(h:Iy<=5){p:Bytes×Int}(hp:p∈u7 Iy):Ev2 (λ n _=>qQ n p.1) (·=p.2):=by
 simp only [qQ];have hl:=HD p.1 13 0 rfl;rw [List.drop_zero] at hl
 have:(match qT.findIdx? (λ x=>decide (x=p.1)) with | some i=>Sum.inr ((3+0+i:Nat):Int) | none=>(Sum.inl ():Unit⊕Int))=.inr p.2:=by
  have hall:∀ Iy:Fin 6,∀ p∈u7 Iy.1,(match qT.findIdx? (λ x=>decide (x=p.1)) with | some i=>Sum.inr ((3+0+i:Nat):Int) | none=>(Sum.inl ():Unit⊕Int))=.inr p.2:=by decide
  exact hall ⟨Iy,by omega⟩ p hp
 rw [this] at hl;exact kH p.2 (bU hl) rfl
theorem CZ (b:Bool)(l:List af)(Iy:Nat):((u7 Iy).map (·.1)).find? (λ s=>sgB b l s)=(x9 b l Iy).map (·.1):=by
 unfold x9
 induction u7 Iy with
 | nil=>rfl
 | cons p r ih =>
  rw [bx,List.find?_cons,List.find?_cons]
  cases sgB b l p.1 with
  | true=>rfl
  | false=>exact ih
theorem Es {b:Bool}{l:List af}{Iy:Nat}{p:Bytes×Int}(h:x9 b l Iy=some p):p∈u7 Iy/\sgB b l p.1=true:=⟨List.mem_of_find?_eq_some h,List.find?_some (p:=λ p:Bytes×Int=>sgB b l p.1) h⟩
theorem AB {Iy:Nat}:((u7 Iy).map (·.1)).length<=1000:=by
 rcases Iy with _ | _ | _ | _ | _ | k <;> simp [u7]
def uD {α:Type}(L:List af)(base:Int)(HZ:Int)(b:Bool)(e:PE)(z:α×ae):Prop:=∃ (j:Nat) (l':List af),z.2=.mk L (j:Int) HZ base (eD e)/\Pos L base j HZ b l'
theorem Bu {e:PE}(he:e.1≠0):(!decide ((eD e).Ar=0))=true:=by show (!decide (e.1=0))=true; simp [he]
theorem Bn {i:Nat}{HZ:Int}{b:Bool}{l:List af}{e:PE}(he:e.1≠0)(h:Pos L base i HZ b l) :
  Ev2 (λ n _=>dj n (.mk L (i:Int) HZ base (eD e))) (uD L base HZ b e):=by
 refine cJ ?_;simp only [dj,bc,py];exact am (Bu he) (aa ⟨i,l,Z,h⟩)
theorem oL (hL:Gd (L.map (mvT base)))(H0:L.length<=1000000000){i:Nat}{HZ:Int}{b:Bool}{l:List af}{e:PE}(he:e.1≠0)(h:Pos L base i HZ b l)(r1:ab×ae)(k op:Int)(nm key:Bytes)(vk vn:Int)(vs:Bytes)(vi:List ah)(vks:List Bytes)(kids:List ab) :
  Ev2 (λ n m=>bY n (aF n) r1 m k op nm key vk vn vs vi vks kids L (i:Int) HZ base e.1 e.2 []) (λ s=>∃ z,s=.inr z/\uD L base HZ b e z):=by
 refine aY ?_;simp only [bY];refine eC (ag _ (kz hL H0 _ he h) ?_);rintro _ ⟨j,rfl,h3⟩;refine ak qr (ag _ (kz hL H0 _ he h3) ?_);rintro _ ⟨j,rfl,h3⟩;exact ak qr (aa ⟨_,rfl,j,l,rfl,h3⟩)
theorem Bo (hL:Gd (L.map (mvT base)))(H0:L.length<=1000000000){i:Nat}{HZ:Int}{b:Bool}{l:List af}{e:PE}(he:e.1≠0)(h:Pos L base i HZ b l) :
  Ev2 (λ n _=>dN n (.mk L (i:Int) HZ base (eD e))) (uD L base HZ b e):=by
 refine cJ ?_;simp only [dN];refine ag _ (Bn he h) ?_;rintro ⟨z1,z2⟩ ⟨j,l',h2,h3⟩
 cases h2
 refine eC (b7 (bU (oL hL H0 he h3 (z1,.mk L (j:Int) HZ base (eD e)) _ _ _ _ _ _ _ _ _ _)) ?_);rintro _ ⟨z,rfl,hz⟩;exact hz
theorem EV (hL:Gd (L.map (mvT base)))(H0:L.length<=1000000000){i:Nat}{HZ:Int}{b:Bool}{l:List af}{e:PE}(he:e.1≠0)(h:Pos L base i HZ b l) :
  Ev2 (λ n _=>du n (.mk L (i:Int) HZ base (eD e))) (uD L base HZ b e):=by
 refine cJ ?_;simp only [du];refine ag (λ t=>∃ j:Nat,t=(0,L,(j:Int),HZ,base,e.1,e.2,[])/\Pos L base j HZ b l) ?_ ?_
 ·refine ag _ (kz hL H0 _ he h) ?_;rintro _ ⟨j,rfl,h3⟩;refine ak qr (ag _ (kz hL H0 _ he h3) ?_);rintro _ ⟨j,rfl,h3⟩;exact ak qr (aa ⟨j,rfl,h3⟩)
 ·rintro _ ⟨j,rfl,h3⟩;refine am rfl (ag _ (Bo hL H0 he h3) ?_);rintro ⟨z1,z2⟩ hz;exact aa hz
theorem rt (hL:Gd (L.map (mvT base)))(H0:L.length<=1000000000){i:Nat}{HZ:Int}{b:Bool}{l:List af}{e:PE}(he:e.1≠0)(h:Pos L base i HZ b l){Iy:Nat}(hlev:Iy<=5)(r5:ab×ae)(k op:Int)(nm key:Bytes)(vk vn:Int)(vs:Bytes)(vi:List ah)(vks:List Bytes)(kids:List ab) :
  Ev2 (λ n m=>cj n (bw n) (Iy:Int) r5 m k op nm key vk vn vs vi vks kids L (i:Int) HZ base e.1 e.2 []) (λ s=>∃ z,s=.inr z/\uD L base HZ b e z):=by
 refine aY ?_;simp only [cj];refine ao _ (ar (yq hlev) rfl) (ag _ (Fc hL H0 he _ AB h) ?_);rintro _ ⟨j,rfl,h3⟩;exact am rfl (aa ⟨_,rfl,j,l,rfl,h3⟩)
theorem DU (hL:Gd (L.map (mvT base)))(H0:L.length<=1000000000){HZ:Int}{b:Bool}{e:PE}(he:e.1≠0):∀ (k Iy i:Nat) (l:List af),Iy+k=6->Pos L base i HZ b l ->
  Ev2 (λ n _=>bw n (.mk L (i:Int) HZ base (eD e)) (Iy:Int)) (uD L base HZ b e):=by
 intro k
 induction k with
 | zero =>
  intro Iy i l hk h;refine cJ ?_;simp only [bw];refine am O (ag _ (EV hL H0 he h) ?_);rintro ⟨z1,z2⟩ hz;exact aa hz
 | succ k ih =>
  intro Iy i l hk h;refine cJ ?_;simp only [bw];refine ak O (aw (aK O O) (ag _ (tX (P:=λ x=>Ev2 (λ n _=>bw n (.mk L (i:Int) HZ base (eD e)) x) _) (ih (Iy+1) i l O h)) ?_));rintro ⟨z1,z2⟩ ⟨j,l',h2,h3⟩
  cases h2
  refine eC (b7 (bU (rt hL H0 he h3 O (z1,.mk L (j:Int) HZ base (eD e)) _ _ _ _ _ _ _ _ _ _)) ?_);rintro _ ⟨z,rfl,hz⟩;exact hz
theorem ic (hL:Gd (L.map (mvT base)))(H0:L.length<=1000000000){i:Nat}{HZ:Int}{b:Bool}{l:List af}{e:PE}(he:e.1≠0)(h:Pos L base i HZ b l) :
  Ev2 (λ n _=>aF n (.mk L (i:Int) HZ base (eD e))) (uD L base HZ b e):=by
 refine cJ ?_;simp only [aF];refine ag _ (DU hL H0 he 6 0 i l rfl h) ?_;rintro ⟨z1,z2⟩ ⟨j,l',h2,h3⟩
 cases h2
 refine ag _ (kz hL H0 _ he h3) ?_;rintro _ ⟨j,rfl,h3⟩;exact am rfl (aa ⟨j,l',rfl,h3⟩)
end
end Go.Ab.R06
end
section
namespace Go.Ab.R06
open Go.Ab Go.Ab.RB Go.Lib
theorem zV {src:Bytes->SE⊕Bytes}{l:Bytes}(hs:∀ r e,src r=.inl e->e.1≠0){e:SE}(h:kp src l=.inl e):e.1≠0:=by
 cases l with
 | nil=>cases h; decide
 | cons b r =>
  rw [jR] at h;split at h
  ·split at h
   ·cases h; exact (by decide:(7:Int)≠0)
   ·cases h
  split at h
  ·cases h
  split at h
  ·cases h
  split at h
  ·split at h
   ·rename_i e' he; cases h; exact hs _ _ he
   ·cases h
  split at h
  ·cases h; exact (by decide:(2:Int)≠0)
  ·cases h
theorem D4:∀ (f k:Nat),(∀ l e,ge f k l=.inl e->e.1≠0)/\(∀ n l e,lI f k n l=.inl e->e.1≠0)
 | 0,k=>⟨λ l e h=>(by rw [ge] at h; cases h; decide),λ n l e h=>(by rw [lI] at h; cases h; decide)⟩
 | f+1,k=>by
  have ih:=D4 f;constructor
  ·intro l e h
   cases l with
   | nil=>rw [ge] at h; cases h; decide
   | cons b r =>
    rw [pW] at h;split at h
    ·cases h
    split at h
    ·exact (ih k).1 _ _ h
    split at h
    ·split at h
     ·cases h; exact (by decide:(4:Int)≠0)
     ·split at h
      ·rename_i e' he; cases h; exact (ih (k+1)).2 _ _ _ he
      ·exact (ih k).1 _ _ h
    split at h
    ·cases h; decide
    ·split at h
     ·cases h; exact (by decide:(2:Int)≠0)
     ·exact (ih k).1 _ _ h
  ·intro n l e h;rw [pQ] at h;generalize fm false l=l0 at h
   cases l0 with
   | nil=>cases h; decide
   | cons b r =>
    rw [pR] at h
    cases hq:kp (ge f k) (b::r) with
    | inl e'=>rw [hq] at h; cases h; exact zV (ih k).1 hq
    | inr z =>
     obtain ⟨c,t,l'⟩:=z;rw [hq,qS] at h;split at h
     ·split at h
      ·cases h
      ·exact (ih k).2 _ _ _ h
     split at h
     ·exact (ih k).2 _ _ _ h
     ·exact (ih k).2 _ _ _ h
theorem ckT {α:Type}(x:Option α):ck True x=x:=bI trivial
theorem Eh (v:ah)(h:v.HQ.length+v.D'.length<=1000000000000000):iv v=fU v:=by
 unfold iv fU;by_cases h1:v.Ar=0
 ·by_cases h2:v.F'=0
  ·by_cases h3:v.HT=[]
   ·simp only [if_pos h1,if_pos h2,if_pos h3];rw [bI (aK O O)];by_cases h4:(v.HQ.length:Int)=0
    ·rw [if_pos h4];simp only [py,bt,decide_eq_decide]; omega
    ·rw [if_neg h4];simp only [py,bt,decide_eq_false_iff_not]; omega
   ·simp only [if_pos h1,if_pos h2,if_neg h3]
  ·simp only [if_pos h1,if_neg h2]
 ·simp only [if_neg h1]
theorem FU (v:ah):∃ b,fU v=some b:=by
 unfold fU
 repeat' split
 all_goals exact ⟨_,Z⟩
theorem wb (e:ab)(h:e.A'.HQ.length+e.A'.D'.length<=1000000000000000):fC e=eY e:=by
 obtain ⟨z,hz⟩:=FU e.A';have hz':=(Eh e.A' h).trans hz;unfold fC eY gA;rw [hz,hz']
 clear hz hz' h
 have hk0:0<=(e.By.length:Int):=by omega
 have hp:(e.By.length:Int).tmod 2=0\/(e.By.length:Int).tmod 2=1:=by
  have:=Int.emod_two_eq (e.By.length:Int)
  rwa [Int.tmod_eq_emod_of_nonneg hk0]
 generalize (e.By.length:Int)=m at hk0 hp ⊢;generalize e.Ar=k;generalize e.fOp=op;generalize e.A'.Ar=vk;generalize e.A'.F'=vn;generalize e.AI=name;generalize e.E'=key;by_cases hr:k < 1\/13 < k
 ·have e2:ff k m=some false:=by
   unfold ff;simp only [show ¬ k=1 by omega,show ¬ k=2 by omega,show ¬ k=3 by omega,show ¬ k=4 by omega,show ¬ k=5 by omega,show ¬ k=6 by omega,show ¬ k=7 by omega,show ¬ k=8 by omega,show ¬ k=9 by omega,show ¬ k=10 by omega,show ¬ k=11 by omega,show ¬ k=12 by omega,show ¬ k=13 by omega,if_false,decide_false,py,Bool.false_eq_true]
  rw [e2];by_cases q:k < 1
  ·rw [if_pos q]; rfl
  ·rw [if_neg q,if_pos O]; rfl
 ·have hk:k=1\/k=2\/k=3\/k=4\/k=5\/k=6\/k=7\/k=8\/k=9\/k=10\/k=11\/k=12\/k=13:=by omega
  unfold ij i6 ma ff aZ aO;unfold aZ;by_cases hn:name=[] <;> by_cases hke:key=[] <;> cases z <;> rcases hp with hp | hp
  all_goals (rcases hk with rfl | rfl | rfl | rfl | rfl | rfl | rfl | rfl | rfl | rfl | rfl | rfl | rfl)
  all_goals (simp [hn,hke,hp,ckT]; try done)
  all_goals (repeat' split)
  all_goals (try (simp_all; done))
  all_goals (try omega)
  all_goals (try simp_all)
  all_goals (repeat' split)
  all_goals (try (simp_all; done))
  all_goals (try omega)
end Go.Ab.R06
end
section
namespace Go.Ab.R06
open Go.Ab Go.Ab.RB
theorem Cn (s:Bytes)(hs:s.length<=1000000000000000):∀ (k i:Nat),i+k=s.length->Ev2 (λ _ m=>dy s m (i:Int)) (·=if oX (xN s) i k then .inl () else .inr false):=by
 intro k
 induction k with
 | zero =>
  intro i hi;refine aY ?_;simp only [dy];refine ak O (aa rfl)
 | succ k ih =>
  intro i hi;refine aY ?_;simp only [dy];refine am O (aw O ?_);have hb:byt s i=((s.getD i 0).toNat:Int):=gD s i;rw [hb];have hor:=G1 (s.getD i 0);have hok:=mu s i;rw [nS,nO] at hok;refine ao (!xN s i) ?_ ?_
  ·generalize s.getD i 0=b at hor hok ⊢;generalize xN s i=o at hok ⊢;generalize iOr .u8 ((b.toNat:Nat):Int) 32=v at hor ⊢;have hT:(ko b=true)->o=true:=λ h=>hok.2 (.inl ((nS b).1 h));have mk:∀ x:Bool,(x=true↔¬ (((97<=b.toNat/\b.toNat<=122)\/(65<=b.toNat/\b.toNat<=90)\/b.toNat=95)\/(i≠0/\48<=b.toNat/\b.toNat<=57)))->x=!o:=λ x hx=>eqB (by rw [hx,<- hok]; simp);refine aw O (aI (λ h=>aa (mk _ ?_)) (λ h=>aI (λ h1=>?_) (λ h1=>aI (λ h2=>?_) (λ h2=>aa (mk _ ?_)))))
   ·simp; omega
   ·refine aI (λ h3=>aa (mk _ ?_)) (λ h3=>aw O (aI (λ h4=>aa (mk _ ?_)) (λ h4=>aw O (aa (mk _ ?_)))))
    ·simp; omega
    ·simp; omega
    ·rw [decide_eq_true_eq]; omega
   ·refine aI (λ h3=>aa (mk _ ?_)) (λ h3=>aw O (aI (λ h4=>aa (mk _ ?_)) (λ h4=>aw O (aa (mk _ ?_)))))
    ·simp; omega
    ·simp; omega
    ·rw [decide_eq_true_eq]; omega
   ·simp; omega
  ·cases hk:xN s i with
   | false=>exact am G (aa (by simp [oX,hk]))
   | true =>
    refine ak G (aw (aK O O) ?_);have:=ih (i+1) O;rw [Int.natCast_add,Int.natCast_one] at this;simpa [oX,hk] using this
theorem xr (s:Bytes)(hs:s.length<=1000000000000000):Ev2 (λ n _=>gj n s) (·=bH s):=by
 simp only [gj];have h:=Cn s hs s.length 0 O;have hi:=uu s
 cases ha:oX (xN s) 0 s.length with
 | false =>
  rw [ha] at h hi;refine kH false (bU h) (eqB ?_);rw [hi]; simp
 | true =>
  rw [ha] at h hi;refine ia () (bU h) ?_;refine ag (·=bH s) (aI (λ h=>aa (eqB ?_)) (λ h=>aa (eqB ?_))) (λ t ht=>aa ht)
  ·rw [hi]; simp [h]
  ·rw [hi,decide_eq_true_eq]; simp [h]; omega
theorem Aa (b:UInt8):ji (b.toNat:Int)=some (ko b):=by
 simp only [ji];have h:=nS b;generalize ko b=o at h ⊢;have mk:∀ x:Bool,(x=true↔(97<=b.toNat/\b.toNat<=122)\/(65<=b.toNat/\b.toNat<=90)\/b.toNat=95)->some x=some o:=λ x hx=>congrArg some (eqB (by rw [hx,h]))
 repeat' split
 all_goals (simp only [py]; apply mk; first | (rw [decide_eq_true_eq]; omega) | (simp; omega))
theorem A1 (s:Bytes)(hs:s.length<=1000000000000000):∀ (k i:Nat),i+k=s.length->Ev2 (λ _ m=>dh s m (i:Int)) (·=if oX (λ j=>idB (s.getD j 0)) i k then .inl () else .inr false):=by
 intro k
 induction k with
 | zero =>
  intro i hi;refine aY ?_;simp only [dh];refine ak O (aa rfl)
 | succ k ih =>
  intro i hi;refine aY ?_;simp only [dh];refine am O ?_;have hb:byt s i=((s.getD i 0).toNat:Int):=gD s i;rw [hb];refine ao (!idB (s.getD i 0)) ?_ ?_
  ·refine aw O (ao _ (ar (Aa _) Z) ?_);have h:=nO (s.getD i 0);simp only [idB];generalize s.getD i 0=b at h ⊢
   cases hl:ko b with
   | true=>exact ak G (aa G)
   | false =>
    refine am G (aw O (aI (λ h1=>aa ?_) (λ h1=>aw O (aa ?_))))
    ·have:iP b=false:=by rw [<- Bool.not_eq_true,h]; omega
     simp [this]
    ·refine eqB ?_;rw [decide_eq_true_eq,Bool.false_or,Bool.not_eq_true',<- Bool.not_eq_true,h];omega
  ·cases hk:idB (s.getD i 0) with
   | false=>exact am Z (aa (by simp only [oX,hk,Bool.false_and]; rfl))
   | true =>
    refine ak G (aw (aK O O) ?_);have:=ih (i+1) O;rw [Int.natCast_add,Int.natCast_one] at this;simp only [oX,hk,Bool.true_and];exact this
theorem vq (s:Bytes)(hs:s.length<=1000000000000000):Ev2 (λ n _=>fM n s) (·=bH s):=by
 simp only [fM];have hi:=xQ s;refine ao (decide (s=[])||decide (64 < (s.length:Int))||!ko (s.getD 0 0)) ?_ ?_
 ·refine aI (λ h=>aa (by simp [h])) (λ h=>aI (λ h1=>aa (by simp [h1])) (λ h1=>aw ?_ ?_))
  ·have:=List.length_pos_iff.2 h; omega
  ·refine ao (ko (s.getD 0 0)) (ar (Aa _) Z) (aa ?_);have:decide (64 < (s.length:Int))=false:=decide_eq_false h1;simp [h,this]
 ·refine aI (λ h=>aa (eqB ?_)) (λ h=>?_)
  ·rw [hi]; simp at h ⊢; intro q1 q2 q3;rcases h with (h | h) | h
   ·exact absurd h q1
   ·omega
   ·rw [h] at q3; cases q3
  ·have l:=A1 s hs s.length 0 O;simp only [Bool.or_eq_true,decide_eq_true_eq,not_or] at h;obtain ⟨⟨h1,h2⟩,h3⟩:=h;have h3:ko (s.getD 0 0)=true:=by simpa using h3
   cases ha:oX (λ j=>idB (s.getD j 0)) 0 s.length with
   | false =>
    rw [ha] at l hi;refine kH false (bU l) (eqB ?_);rw [hi]; simp
   | true =>
    rw [ha] at l hi;refine ia () (bU l) (aa (eqB ?_));rw [hi]; simp only [true_iff];exact ⟨h1,by omega,h3,trivial⟩
end Go.Ab.R06
end
section
namespace Go.Ab.R06
open Go.Ab Go.Ab.RB Go.Lib
theorem t31:(List.range 256).all (λ n=>cQ .u8 (n:Int) 31 == ((n % 32:Nat):Int))=true:=by kernel_rfl
theorem t15:(List.range 256).all (λ n=>cQ .u8 (n:Int) 15 == ((n % 16:Nat):Int))=true:=by kernel_rfl
theorem t7:(List.range 256).all (λ n=>cQ .u8 (n:Int) 7 == ((n % 8:Nat):Int))=true:=by kernel_rfl
theorem or64 (a b:Nat)(ha:a < 4611686018427387904)(hb:b < 4611686018427387904):iOr .i64 (a:Int) (b:Int)=((a ||| b:Nat):Int):=by
 have hlt:a ||| b < 4611686018427387904:=Nat.or_lt_two_pow (n:=62) ha hb
 have e1:(BitVec.ofInt 64 (a:Int)).toNat=a:=by
  rw [BitVec.toNat_ofInt]; omega
 have e2:(BitVec.ofInt 64 (b:Int)).toNat=b:=by
  rw [BitVec.toNat_ofInt]; omega
 show IntKind.wrap .i64 (((BitVec.ofInt 64 (a:Int)) ||| (BitVec.ofInt 64 (b:Int))).toNat:Nat)=_;rw [BitVec.toNat_or,e1,e2];simp [IntKind.wrap,IntKind.bits,IntKind.signed];omega
theorem vz (a b k:Nat)(ha:a*2 ^ k < 4611686018427387904)(hb:b < 2 ^ k)(hk:k<=20):iOr .i64 ((a*2 ^ k:Nat):Int) (b:Int)=((a*2 ^ k+b:Nat):Int):=by
 have hp:2 ^ k<=2 ^ 20:=Nat.pow_le_pow_right (by decide) hk;have h20:(2:Nat) ^ 20=1048576:=rfl;rw [or64 _ _ ha O];have:=Nat.shiftLeft_add_eq_or_of_lt hb a;rw [Nat.shiftLeft_eq] at this;rw [<- this]
theorem vY (a k:Nat)(hk:k<=20)(ha:a*2 ^ k < 4611686018427387904):jW .i64 (a:Int) (k:Int)=((a*2 ^ k:Nat):Int):=by
 have:min (k:Int).toNat IntKind.i64.bits=k:=by
  have:IntKind.i64.bits=64:=rfl;rw [this]; omega
 unfold jW;rw [this];have e:(a:Int)*2 ^ k=((a*2 ^ k:Nat):Int):=by push_cast; rfl
 rw [e];generalize a*2 ^ k=v at ha;simp [IntKind.wrap,IntKind.bits,IntKind.signed];omega
def GL (l:Bytes):Int×Int:=if (decodeL l).1=65533/\(decodeL l).2=1 then (0,0) else (((decodeL l).1:Int),((decodeL l).2:Int))
theorem EI (s:Bytes)(j:Nat)(lo hi:Int):em s (j:Int) lo hi=some (decide (j < s.length/\lo<=((s.getD j 0).toNat:Int)/\((s.getD j 0).toNat:Int)<=hi)):=by
 unfold em;have hb:byt s (j:Int)=((s.getD j 0).toNat:Int):=gD s j;rw [hb];by_cases h:j < s.length
 ·rw [if_pos O,bI O];by_cases h2:lo<=((s.getD j 0).toNat:Int)
  ·rw [if_pos h2,bI O];refine congrArg some (eqB ?_);rw [decide_eq_true_eq,decide_eq_true_eq];exact ⟨λ q=>⟨h,h2,q⟩,λ q=>q.2.2⟩
  ·rw [if_neg h2,py]
   symm; rw [bt,decide_eq_false_iff_not]
   exact λ q=>h2 q.2.1
 ·rw [if_neg O]; simp [h]
set_option maxHeartbeats 8000000 in
theorem zI (s:Bytes)(i:Nat)(hi:i < s.length)(hs:s.length<=1000000000):jY s (i:Int)=some (GL (s.drop i)):=by
 have hg:∀ k,(s.drop i).getD k 0=s.getD (i+k) 0:=λ k=>by
  rw [List.getD_eq_getElem?_getD,List.getElem?_drop,List.getD_eq_getElem?_getD]
 unfold jY GL;rw [decodeL_N,hg,hg,hg,hg,Nat.add_zero,n8]
 have b:∀ k:Nat,byt s ((i:Int)+k)=((s.getD (i+k) 0).toNat:Int):=λ k=>by
  rw [show (i:Int)+(k:Int)=((i+k:Nat):Int) by omega]; exact gD s (i+k)
 have c:∀ (k:Nat) lo hi,em s ((i:Int)+k) lo hi=some (decide (k < s.length - i/\lo<=((s.getD (i+k) 0).toNat:Int)/\((s.getD (i+k) 0).toNat:Int)<=hi)):=λ k lo hi=>by
  rw [show (i:Int)+(k:Int)=((i+k:Nat):Int) by omega,EI];refine congrArg some (eqB ?_);rw [decide_eq_true_eq,decide_eq_true_eq];constructor
  ·rintro ⟨h1,h2⟩; exact ⟨by omega,h2⟩
  ·rintro ⟨h1,h2⟩; exact ⟨by omega,h2⟩
 have b0:byt s (i:Int)=((s.getD i 0).toNat:Int):=gD s i;have b1:byt s ((i:Int)+1)=((s.getD (i+1) 0).toNat:Int):=b 1;have b2:byt s ((i:Int)+2)=((s.getD (i+2) 0).toNat:Int):=b 2;have b3:byt s ((i:Int)+3)=((s.getD (i+3) 0).toNat:Int):=b 3;have c1:∀ lo hi,em s ((i:Int)+1) lo hi=_:=c 1;have c2:∀ lo hi,em s ((i:Int)+2) lo hi=_:=c 2;have c3:∀ lo hi,em s ((i:Int)+3) lo hi=_:=c 3;simp only [b0,b1,b2,b3,c1,c2,c3];obtain ⟨n,hn⟩:∃ n,s.length=i+n:=⟨s.length - i,by omega⟩
 have hn1:s.length - i=n:=by omega
 have H0:(s.length:Int)=(i:Int)+n:=by omega
 rw [hn1,H0];have l0:=(s.getD i 0).toNat_lt;have l1:=(s.getD (i+1) 0).toNat_lt;have l2:=(s.getD (i+2) 0).toNat_lt;have l3:=(s.getD (i+3) 0).toNat_lt;generalize (s.getD i 0).toNat=B0 at l0 ⊢;generalize (s.getD (i+1) 0).toNat=B1 at l1 ⊢;generalize (s.getD (i+2) 0).toNat=B2 at l2 ⊢;generalize (s.getD (i+3) 0).toNat=B3 at l3 ⊢;have hnp:0 < n:=by omega
 have MJ:n<=1000000000:=by omega
 have hib:i<=1000000000:=by omega
 clear hg b c b0 b1 b2 b3 c1 c2 c3 hn1 H0 hn hi hs
 have a31:cQ .u8 (B0:Int) 31=((B0 % 32:Nat):Int):=tab t31 B0 O;have a15:cQ .u8 (B0:Int) 15=((B0 % 16:Nat):Int):=tab t15 B0 O;have a7:cQ .u8 (B0:Int) 7=((B0 % 8:Nat):Int):=tab t7 B0 O;have a1:cQ .u8 (B1:Int) 63=((B1 % 64:Nat):Int):=tab t63 B1 O;have a2:cQ .u8 (B2:Int) 63=((B2 % 64:Nat):Int):=tab t63 B2 O;have a3:cQ .u8 (B3:Int) 63=((B3 % 64:Nat):Int):=tab t63 B3 O
 have two:iOr .i64 (jW .i64 ((B0 % 32:Nat):Int) 6) ((B1 % 64:Nat):Int)=((B0 % 32*64+B1 % 64:Nat):Int):=by
  have h1:jW .i64 ((B0 % 32:Nat):Int) 6=((B0 % 32*2 ^ 6:Nat):Int):=vY _ 6 (by decide) O;rw [h1];exact vz _ _ 6 O O  (by decide)
 have three:iOr .i64 (iOr .i64 (jW .i64 ((B0 % 16:Nat):Int) 12) (jW .i64 ((B1 % 64:Nat):Int) 6)) ((B2 % 64:Nat):Int)=((B0 % 16*4096+B1 % 64*64+B2 % 64:Nat):Int):=by
  have h1:jW .i64 ((B0 % 16:Nat):Int) 12=((B0 % 16*2 ^ 12:Nat):Int):=vY _ 12 (by decide) O;have h2:jW .i64 ((B1 % 64:Nat):Int) 6=((B1 % 64*2 ^ 6:Nat):Int):=vY _ 6 (by decide) O;have h3:=vz (B0 % 16) (B1 % 64*2 ^ 6) 12 O O  (by decide);have h4:=vz (B0 % 16*64+B1 % 64) (B2 % 64) 6 O O  (by decide);rw [h1,h2,h3,show B0 % 16*2 ^ 12+B1 % 64*2 ^ 6=(B0 % 16*64+B1 % 64)*2 ^ 6 by omega,h4]
 have four:iOr .i64 (iOr .i64 (iOr .i64 (jW .i64 ((B0 % 8:Nat):Int) 18) (jW .i64 ((B1 % 64:Nat):Int) 12)) (jW .i64 ((B2 % 64:Nat):Int) 6)) ((B3 % 64:Nat):Int)=((B0 % 8*262144+B1 % 64*4096+B2 % 64*64+B3 % 64:Nat):Int):=by
  have h1:jW .i64 ((B0 % 8:Nat):Int) 18=((B0 % 8*2 ^ 18:Nat):Int):=vY _ 18 (by decide) O;have h2:jW .i64 ((B1 % 64:Nat):Int) 12=((B1 % 64*2 ^ 12:Nat):Int):=vY _ 12 (by decide) O;have h2':jW .i64 ((B2 % 64:Nat):Int) 6=((B2 % 64*2 ^ 6:Nat):Int):=vY _ 6 (by decide) O;have h3:=vz (B0 % 8) (B1 % 64*2 ^ 12) 18 O O  (by decide);have h4:=vz (B0 % 8*64+B1 % 64) (B2 % 64*2 ^ 6) 12 O O  (by decide);have h5:=vz (B0 % 8*4096+B1 % 64*64+B2 % 64) (B3 % 64) 6 O O  (by decide);rw [h1,h2,h2',h3,show B0 % 8*2 ^ 18+B1 % 64*2 ^ 12=(B0 % 8*64+B1 % 64)*2 ^ 12 by omega,h4,show (B0 % 8*64+B1 % 64)*2 ^ 12+B2 % 64*2 ^ 6=(B0 % 8*4096+B1 % 64*64+B2 % 64)*2 ^ 6 by omega,h5]
 rw [a31,a15,a7,a1,a2,a3,two,three,four];have i1:inR ((i:Int)+1):=aK O O;have i2:inR ((i:Int)+2):=aK O O;have i3:inR ((i:Int)+3):=aK O O
 have e0:((if (i:Int) < 0 then some true else some (decide ((i:Int)+n<=i))):Option Bool)=some false:=by
  rw [if_neg O]; simp; omega
 rw [e0,py,if_neg G,bI O];unfold decodeN;by_cases h0:B0 < 128
 ·rw [if_pos (show (B0:Int) < 128 by omega),bI (aK O O),if_pos h0];simp only;rw [if_neg O]; rfl
 rw [if_neg (show ¬ (B0:Int) < 128 by omega),if_neg h0]
 have JZ:((if 194<=(B0:Int) then if (B0:Int)<=223 then ck (inR ((i:Int)+1)) <| (some (decide (1 < n/\(128:Int)<=(B1:Int)/\(B1:Int)<=191))).bind λ Iu=>some Iu else some false else some false):Option Bool)=some (decide (194<=B0/\B0<=223/\1 < n/\128<=B1/\B1<=191)):=by
  by_cases q1:194<=B0
  ·rw [if_pos O];by_cases q2:B0<=223
   ·rw [if_pos O,bI i1,py];refine congrArg some (eqB ?_);rw [decide_eq_true_eq,decide_eq_true_eq]; omega
   ·rw [if_neg O]; simp; omega
  ·rw [if_neg O]; simp; omega
 rw [JZ,py];by_cases h12:194<=B0/\B0<=223/\1 < n/\128<=B1/\B1<=191
 ·rw [if_pos (by simp only [decide_eq_true_eq]; exact h12),bI (aK O O),bI O,bI i1,bI O,bI (aK O O)];rw [if_pos (show B0 / 32=6/\1 < n/\B1 / 64=2 by omega),if_pos (show B0 % 32*64+B1 % 64 >= 128 by omega)];show some _=some (if B0 % 32*64+B1 % 64=65533/\_ then _ else _);rw [if_neg O]; rfl
 rw [if_neg (by simp only [decide_eq_true_eq]; exact h12)]
 have hlo:((if (B0:Int)=224 then some 160 else some 128):Option Int)=some (if B0=224 then 160 else 128):=by
  by_cases q:B0=224
  ·rw [if_pos O,if_pos q]
  ·rw [if_neg O,if_neg q]
 have hhi:((if (B0:Int)=237 then some 159 else some 191):Option Int)=some (if B0=237 then 159 else 191):=by
  by_cases q:B0=237
  ·rw [if_pos O,if_pos q]
  ·rw [if_neg O,if_neg q]
 have hlo4:((if (B0:Int)=240 then some 144 else some 128):Option Int)=some (if B0=240 then 144 else 128):=by
  by_cases q:B0=240
  ·rw [if_pos O,if_pos q]
  ·rw [if_neg O,if_neg q]
 have hhi4:((if (B0:Int)=244 then some 143 else some 191):Option Int)=some (if B0=244 then 143 else 191):=by
  by_cases q:B0=244
  ·rw [if_pos O,if_pos q]
  ·rw [if_neg O,if_neg q]
 rw [hlo,py,hhi,py]
 have Ob:∀ lo hi:Int,((if 224<=(B0:Int) then if (B0:Int)<=239 then ck (inR ((i:Int)+1)) <| (some (decide (1 < n/\lo<=(B1:Int)/\(B1:Int)<=hi))).bind λ JF=>if JF=true then ck (inR ((i:Int)+2)) <| (some (decide (2 < n/\(128:Int)<=(B2:Int)/\(B2:Int)<=191))).bind λ MF=>some MF else some false else some false else some false):Option Bool)
   = some (decide (224<=B0/\B0<=239/\(1 < n/\lo<=(B1:Int)/\(B1:Int)<=hi)/\2 < n/\128<=B2/\B2<=191)):=by
  intro lo hi;by_cases q1:224<=B0
  ·rw [if_pos O];by_cases q2:B0<=239
   ·rw [if_pos O,bI i1,py];by_cases q3:1 < n/\lo<=(B1:Int)/\(B1:Int)<=hi
    ·rw [if_pos (by simp only [decide_eq_true_eq]; exact q3),bI i2,py];refine congrArg some (eqB ?_);rw [decide_eq_true_eq,decide_eq_true_eq];constructor
     ·intro q; exact ⟨q1,q2,q3,by omega⟩
     ·intro q; have:=q.2.2.2; omega
    ·rw [if_neg (by simp only [decide_eq_true_eq]; exact q3)]
     symm; rw [bt,decide_eq_false_iff_not]
     intro q; exact q3 q.2.2.1
   ·rw [if_neg O]
    symm; rw [bt,decide_eq_false_iff_not]
    intro q; exact q2 q.2.1
  ·rw [if_neg O]
   symm; rw [bt,decide_eq_false_iff_not]
   intro q; exact q1 q.1
 rw [Ob,py];by_cases h32:224<=B0/\B0<=239/\(1 < n/\(if B0=224 then 160 else 128)<=(B1:Int)/\(B1:Int)<=(if B0=237 then 159 else 191))/\2 < n/\128<=B2/\B2<=191
 ·rw [if_pos (by simp only [decide_eq_true_eq]; exact h32)];obtain ⟨k1,k2,⟨k3,k4,k5⟩,k6,k7,k8⟩:=h32;have k4':128<=B1/\(B0=224->160<=B1):=by split at k4 <;> omega
  have k5':B1<=191/\(B0=237->B1<=159):=by split at k5 <;> omega
  clear k4 k5
  repeat rw [bI (by first | exact i1 | exact i2 | omega | exact aK O O)]
  rw [if_neg (show ¬ (B0 / 32=6/\1 < n/\B1 / 64=2) by omega),if_pos (show B0 / 16=14/\(1 < n/\B1 / 64=2)/\2 < n/\B2 / 64=2 by omega),if_pos (show B0 % 16*4096+B1 % 64*64+B2 % 64 >= 2048/\(B0 % 16*4096+B1 % 64*64+B2 % 64 < 55296\/57344<=B0 % 16*4096+B1 % 64*64+B2 % 64/\B0 % 16*4096+B1 % 64*64+B2 % 64<=1114111) by omega)];show some _=some (if B0 % 16*4096+B1 % 64*64+B2 % 64=65533/\(3:Nat)=1 then _ else _);rw [if_neg O]; rfl
 rw [if_neg (by simp only [decide_eq_true_eq]; exact h32)];rw [hlo4,py,hhi4,py]
 have h32':¬ (224<=B0/\B0<=239/\1 < n/\(B0=224->160<=B1)/\128<=B1/\B1<=191/\(B0=237->B1<=159)/\2 < n/\128<=B2/\B2<=191):=by
  rintro ⟨k1,k2,k3,k4,k5,k6,k7,k8⟩;exact h32 ⟨k1,k2,⟨k3,by split <;> omega,by split <;> omega⟩,k8⟩
 clear h32 Ob
 have e60:∀ lo hi:Int,((if 240<=(B0:Int) then if (B0:Int)<=244 then ck (inR ((i:Int)+1)) <| (some (decide (1 < n/\lo<=(B1:Int)/\(B1:Int)<=hi))).bind λ r50=>if r50=true then ck (inR ((i:Int)+2)) <| (some (decide (2 < n/\(128:Int)<=(B2:Int)/\(B2:Int)<=191))).bind λ La=>if La=true then ck (inR ((i:Int)+3)) <| (some (decide (3 < n/\(128:Int)<=(B3:Int)/\(B3:Int)<=191))).bind λ JJ=>some JJ else some false else some false else some false else some false):Option Bool)
   = some (decide (240<=B0/\B0<=244/\(1 < n/\lo<=(B1:Int)/\(B1:Int)<=hi)/\(2 < n/\128<=B2/\B2<=191)/\3 < n/\128<=B3/\B3<=191)):=by
  intro lo hi;by_cases q1:240<=B0
  ·rw [if_pos O];by_cases q2:B0<=244
   ·rw [if_pos O,bI i1,py];by_cases q3:1 < n/\lo<=(B1:Int)/\(B1:Int)<=hi
    ·rw [if_pos (by simp only [decide_eq_true_eq]; exact q3),bI i2,py];by_cases q4:2 < n/\128<=B2/\B2<=191
     ·rw [if_pos (by simp only [decide_eq_true_eq]; omega),bI i3,py];refine congrArg some (eqB ?_);rw [decide_eq_true_eq,decide_eq_true_eq];constructor
      ·intro q; exact ⟨q1,q2,q3,q4,by omega⟩
      ·intro q; have:=q.2.2.2.2; omega
     ·rw [if_neg (by simp only [decide_eq_true_eq]; omega)]
      symm; rw [bt,decide_eq_false_iff_not]
      intro q; exact q4 q.2.2.2.1
    ·rw [if_neg (by simp only [decide_eq_true_eq]; exact q3)]
     symm; rw [bt,decide_eq_false_iff_not]
     intro q; exact q3 q.2.2.1
   ·rw [if_neg O]
    symm; rw [bt,decide_eq_false_iff_not]
    intro q; exact q2 q.2.1
  ·rw [if_neg O]
   symm; rw [bt,decide_eq_false_iff_not]
   intro q; exact q1 q.1
 rw [e60,py];by_cases h60:240<=B0/\B0<=244/\(1 < n/\(if B0=240 then 144 else 128)<=(B1:Int)/\(B1:Int)<=(if B0=244 then 143 else 191))/\(2 < n/\128<=B2/\B2<=191)/\3 < n/\128<=B3/\B3<=191
 ·rw [if_pos (by simp only [decide_eq_true_eq]; exact h60)];obtain ⟨k1,k2,⟨k3,k4,k5⟩,⟨k6,k7,k8⟩,k9,k10,k11⟩:=h60;have k4':128<=B1/\(B0=240->144<=B1):=by split at k4 <;> omega
  have k5':B1<=191/\(B0=244->B1<=143):=by split at k5 <;> omega
  clear k4 k5
  repeat rw [bI (by first | exact i1 | exact i2 | exact i3 | omega | exact aK O O)]
  rw [if_neg (show ¬ (B0 / 32=6/\1 < n/\B1 / 64=2) by omega),if_neg (show ¬ (B0 / 16=14/\(1 < n/\B1 / 64=2)/\2 < n/\B2 / 64=2) by omega),if_pos (show B0 / 8=30/\(1 < n/\B1 / 64=2)/\(2 < n/\B2 / 64=2)/\3 < n/\B3 / 64=2 by omega)];generalize hv:B0 % 8*262144+B1 % 64*4096+B2 % 64*64+B3 % 64=v;rw [if_pos (show v >= 65536/\(v < 55296\/57344<=v/\v<=1114111) by omega)];show some _=some (if v=65533/\(4:Nat)=1 then _ else _);rw [if_neg O]; rfl
 rw [if_neg (by simp only [decide_eq_true_eq]; exact h60)]
 have h60':¬ (240<=B0/\B0<=244/\1 < n/\(B0=240->144<=B1)/\128<=B1/\B1<=191/\(B0=244->B1<=143)/\2 < n/\128<=B2/\B2<=191/\3 < n/\128<=B3/\B3<=191):=by
  rintro ⟨k1,k2,k3,k4,k5,k6,k7,k8,k9,k10,k11⟩;exact h60 ⟨k1,k2,⟨k3,by split <;> omega,by split <;> omega⟩,⟨k8,k9,k10⟩,k11⟩
 clear h60 e60
 symm
 refine congrArg some (if_pos ?_)
 repeat' split
 all_goals first | exact ⟨Z,Z⟩ | (exfalso; omega)
theorem BA (s:Bytes)(hs:s.length<=1000000000):∀ (k i:Nat),s.length - i < k->i<=s.length->Ev2 (λ _ m=>fQ s m (i:Int)) (·=if validD (s.drop i)=true then .inl () else .inr false):=by
 intro k
 induction k with
 | zero=>intro i h; omega
 | succ k ih =>
  intro i hk hi;refine aY ?_;simp only [fQ];by_cases h:i < s.length
  ·have Iw:s.drop i≠[]:=by intro q; have:=congrArg List.length q; rw [n8] at this; simp at this; omega
   refine am O (ao _ (ar (zI s i h hs) Z) ?_);have hv:=ze _ Iw;have hdf:=kK _ Iw;rw [n8] at hdf;unfold GL;by_cases q:(decodeL (s.drop i)).1=65533/\(decodeL (s.drop i)).2=1
   ·rw [if_pos q];refine am rfl (aa ?_);rw [if_neg (λ z=>((hv.1 z).1 q))]
   ·rw [if_neg q];refine ak (by simp only; omega) (aw (aK (by simp only; omega) (by simp only; omega)) ?_);have:=ih (i+(decodeL (s.drop i)).2) O O;rw [Int.natCast_add] at this;refine b7 this λ r hr=>?_;rw [hr,<- List.drop_drop];by_cases z:validD ((s.drop i).drop (decodeL (s.drop i)).2)=true
    ·rw [if_pos z,if_pos (hv.2 ⟨q,z⟩)]
    ·rw [if_neg z,if_neg (λ y=>z (hv.1 y).2)]
  ·refine ak O (aa ?_);rw [List.drop_of_length_le O,if_pos validD_nil]
theorem AX (s:Bytes)(hs:s.length<=1000000000):Ev2 (λ n _=>lk n s) (·=(decide (s.length<=4096)&&validD s)):=by
 simp only [lk];refine aI (λ h=>aa ?_) (λ h=>?_)
 ·have:¬ s.length<=4096:=by omega
  simp [this]
 ·have h':s.length<=4096:=by omega
  have l:=BA s hs (s.length+1) 0 O O;rw [List.drop_zero] at l
  cases hv:validD s with
  | true=>rw [hv] at l; exact ia () (bU l) (aa (by simp [h']))
  | false=>rw [hv] at l; exact kH false (bU l) G
theorem drop_at (s:Bytes){i:Nat}(h:i < s.length):s.drop i=s.getD i 0::s.drop (i+1):=by
 rw [List.getD_eq_getElem?_getD,List.getElem?_eq_getElem h,sm];exact List.drop_eq_getElem_cons h
theorem Gz (b:UInt8)(r:Bytes)(h:128<=b.toNat):128<=(decodeL (b::r)).1:=by
 have hN:=decN (b::r).length ((b::r).getD 0 0).toNat ((b::r).getD 1 0).toNat ((b::r).getD 2 0).toNat ((b::r).getD 3 0).toNat G (UInt8.toNat_lt _);rw [<- decodeL_N] at hN;rcases Nat.lt_or_ge (decodeL (b::r)).1 128 with q | q
 ·have:=(hN.2.2.2.1 q).2;have hb0:((b::r).getD 0 0).toNat=b.toNat:=rfl;omega
 ·exact q
end Go.Ab.R06
end
section
namespace Go.Ab
set_option autoImplicit false
theorem nY {α:Type}{tt:List (Nat×TI)}{n t s b:Nat}{cs:List PV}{z:List Value}(f:α->PV)(Q:α->Prop){e:Nat}(hl:look tt t=some ⟨.slice e,s,b,z⟩)(h:WTf tt n t cs)
  (he:∀ m x,m < n->WTf tt m e x.cells->x=mkE (((look tt e).map (·.k.isAgg)).getD false) x.cells->∃ y,x=f y/\Q y):∃ l:List α,cs=[eL f l]/\l.length*(((look tt e).map (·.bytes)).getD 0)<=gg/\∀ y∈l,Q y:=by
 cases n with
 | zero=>exact h.elim
 | succ n =>
  obtain ⟨l,h1,h2,h3⟩:=BX f Q hl h (λ x k1 k2=>he n x O k1 k2);exact ⟨l,h1,h2.2,h3⟩
inductive ah.Bd:ah->Prop where
 | mk {x:ah} (bKind:inR x.Ar) (bNum:inR x.F') (bStr:x.HT.length<=gg) (bItems:x.HQ.length*80<=gg) (eItems:∀ y∈x.HQ,ah.Bd y) (bKeys:x.D'.length*16<=gg) (eKeys:∀ y∈x.D',y.length<=gg):ah.Bd x
theorem ah.Bd.bKind {x:ah}(h:ah.Bd x):inR x.Ar:=by cases h; assumption
theorem ah.Bd.bNum {x:ah}(h:ah.Bd x):inR x.F':=by cases h; assumption
theorem ah.Bd.bStr {x:ah}(h:ah.Bd x):x.HT.length<=gg:=by cases h; assumption
theorem ah.Bd.bItems {x:ah}(h:ah.Bd x):x.HQ.length*80<=gg:=by cases h; assumption
theorem ah.Bd.eItems {x:ah}(h:ah.Bd x):∀ y∈x.HQ,ah.Bd y:=by cases h; assumption
theorem ah.Bd.bKeys {x:ah}(h:ah.Bd x):x.D'.length*16<=gg:=by cases h; assumption
theorem ah.Bd.eKeys {x:ah}(h:ah.Bd x):∀ y∈x.D',y.length<=gg:=by cases h; assumption
theorem ah.dec (n:Nat):(∀ cs,WTf tt n 28 cs->∃ x:ah,cs=ah.cs x/\ah.Bd x):=by
 induction n using Nat.strongRecOn with
 | _ n ih =>
 have Lx:∀ m,m < n->(∀ cs,WTf tt m 28 cs->∃ x:ah,cs=ah.cs x/\ah.Bd x):=λ m hm=>(ih m hm)
 intro cs h
 cases n with
 | zero=>exact h.elim
 | succ n =>
 have h0:=jH rfl h;obtain ⟨c0,q0,rfl,k0,h0⟩:=cA h0;obtain ⟨c1,q1,rfl,k1,h0⟩:=cA h0;obtain ⟨c2,q2,rfl,k2,h0⟩:=cA h0;obtain ⟨c3,q3,rfl,k3,h0⟩:=cA h0;obtain ⟨c4,q4,rfl,k4,h0⟩:=cA h0;have e:q4=[]:=h0;subst e;obtain ⟨x1,rfl,b2⟩:=gH rfl k0;obtain ⟨x3,rfl,b4⟩:=gH rfl k1;obtain ⟨x5,rfl,b6⟩:=jB rfl k2
 obtain ⟨x7,rfl,b8⟩:=nY dv (λ y=>ah.Bd y) rfl k3 (λ m9 y10 hm11 k12 k13=>by
  obtain ⟨x14,K7,b15⟩:=Lx _ O _ k12;exact ⟨x14,(uG K7 k13).trans (ah.HR _).symm,b15⟩
  )
 obtain ⟨x17,rfl,b18⟩:=nY eS (λ y=>y.length<=gg) rfl k4 (λ m19 y20 hm21 k22 k23=>by
  obtain ⟨x24,Mp,b25⟩:=jB rfl k22;exact ⟨x24,F5 Mp k23,b25⟩
  )
 exact ⟨ah.mk x1 x3 x5 x7 x17,Z,.mk b2 b4 b6 b8.1 b8.2 b18.1 b18.2⟩
inductive ab.Bd:ab->Prop where
 | mk {x:ab} (bKind:inR x.Ar) (bOp:inR x.fOp) (bName:x.AI.length<=gg) (bKey:x.E'.length<=gg) (bValue:ah.Bd x.A') (bKids:x.By.length*160<=gg) (eKids:∀ y∈x.By,ab.Bd y) (bAt:inR x.fAt):ab.Bd x
theorem ab.Bd.bKind {x:ab}(h:ab.Bd x):inR x.Ar:=by cases h; assumption
theorem ab.Bd.bOp {x:ab}(h:ab.Bd x):inR x.fOp:=by cases h; assumption
theorem ab.Bd.bName {x:ab}(h:ab.Bd x):x.AI.length<=gg:=by cases h; assumption
theorem ab.Bd.bKey {x:ab}(h:ab.Bd x):x.E'.length<=gg:=by cases h; assumption
theorem ab.Bd.bValue {x:ab}(h:ab.Bd x):ah.Bd x.A':=by cases h; assumption
theorem ab.Bd.bKids {x:ab}(h:ab.Bd x):x.By.length*160<=gg:=by cases h; assumption
theorem ab.Bd.eKids {x:ab}(h:ab.Bd x):∀ y∈x.By,ab.Bd y:=by cases h; assumption
theorem ab.Bd.bAt {x:ab}(h:ab.Bd x):inR x.fAt:=by cases h; assumption
theorem ab.dec (n:Nat):(∀ cs,WTf tt n 31 cs->∃ x:ab,cs=ab.cs x/\ab.Bd x):=by
 induction n using Nat.strongRecOn with
 | _ n ih =>
 have Mg:∀ m,m < n->(∀ cs,WTf tt m 31 cs->∃ x:ab,cs=ab.cs x/\ab.Bd x):=λ m hm=>(ih m hm)
 intro cs h
 cases n with
 | zero=>exact h.elim
 | succ n =>
 have h0:=jH rfl h;obtain ⟨c0,q0,rfl,k0,h0⟩:=cA h0;obtain ⟨c1,q1,rfl,k1,h0⟩:=cA h0;obtain ⟨c2,q2,rfl,k2,h0⟩:=cA h0;obtain ⟨c3,q3,rfl,k3,h0⟩:=cA h0;obtain ⟨c4,q4,rfl,k4,h0⟩:=cA h0;obtain ⟨c5,q5,rfl,k5,h0⟩:=cA h0;obtain ⟨c6,q6,rfl,k6,h0⟩:=cA h0;have e:q6=[]:=h0;subst e;obtain ⟨x27,rfl,b28⟩:=gH rfl k0;obtain ⟨x29,rfl,b30⟩:=gH rfl k1;obtain ⟨x31,rfl,b32⟩:=jB rfl k2;obtain ⟨x33,rfl,b34⟩:=jB rfl k3;obtain ⟨x35,rfl,b36⟩:=ah.dec _ _ k4
 obtain ⟨x37,rfl,b38⟩:=nY ai (λ y=>ab.Bd y) rfl k5 (λ m39 y40 hm41 k42 k43=>by
  obtain ⟨x44,O3,b45⟩:=Mg _ O _ k42;exact ⟨x44,(uG O3 k43).trans (ab.HR _).symm,b45⟩
  )
 obtain ⟨x47,rfl,b48⟩:=gH rfl k6;exact ⟨ab.mk x27 x29 x31 x33 x35 x37 x47,rfl,.mk b28 b30 b32 b34 b36 b38.1 b38.2 b48⟩
inductive ap.Bd:ap->Prop where
 | mk {x:ap} (bKind:inR x.Ar) (bAt:inR x.fAt) (bName:x.AI.length<=gg):ap.Bd x
theorem ap.Bd.bKind {x:ap}(h:ap.Bd x):inR x.Ar:=by cases h; assumption
theorem ap.Bd.bAt {x:ap}(h:ap.Bd x):inR x.fAt:=by cases h; assumption
theorem ap.Bd.bName {x:ap}(h:ap.Bd x):x.AI.length<=gg:=by cases h; assumption
theorem ap.dec (n:Nat):(∀ cs,WTf tt n 41 cs->∃ x:ap,cs=ap.cs x/\ap.Bd x):=by
 induction n using Nat.strongRecOn with
 | _ n ih =>
 have OL:∀ m,m < n->(∀ cs,WTf tt m 41 cs->∃ x:ap,cs=ap.cs x/\ap.Bd x):=λ m hm=>(ih m hm)
 intro cs h
 cases n with
 | zero=>exact h.elim
 | succ n =>
 have h0:=jH rfl h;obtain ⟨c0,q0,rfl,k0,h0⟩:=cA h0;obtain ⟨c1,q1,rfl,k1,h0⟩:=cA h0;obtain ⟨c2,q2,rfl,k2,h0⟩:=cA h0;have e:q2=[]:=h0;subst e;obtain ⟨x49,rfl,b50⟩:=gH rfl k0;obtain ⟨x51,rfl,b52⟩:=gH rfl k1;obtain ⟨x53,rfl,b54⟩:=jB rfl k2;exact ⟨ap.mk x49 x51 x53,rfl,.mk b50 b52 b54⟩
inductive af.Bd:af->Prop where
 | mk {x:af} (bKind:inR x.Ar) (bText:x.Df.length<=gg) (bAt:inR x.fAt):af.Bd x
theorem af.Bd.bKind {x:af}(h:af.Bd x):inR x.Ar:=by cases h; assumption
theorem af.Bd.bText {x:af}(h:af.Bd x):x.Df.length<=gg:=by cases h; assumption
theorem af.Bd.bAt {x:af}(h:af.Bd x):inR x.fAt:=by cases h; assumption
theorem af.dec (n:Nat):(∀ cs,WTf tt n 82 cs->∃ x:af,cs=af.cs x/\af.Bd x):=by
 induction n using Nat.strongRecOn with
 | _ n ih =>
 have N':∀ m,m < n->(∀ cs,WTf tt m 82 cs->∃ x:af,cs=af.cs x/\af.Bd x):=λ m hm=>(ih m hm)
 intro cs h
 cases n with
 | zero=>exact h.elim
 | succ n =>
 have h0:=jH rfl h;obtain ⟨c0,q0,rfl,k0,h0⟩:=cA h0;obtain ⟨c1,q1,rfl,k1,h0⟩:=cA h0;obtain ⟨c2,q2,rfl,k2,h0⟩:=cA h0;have e:q2=[]:=h0;subst e;obtain ⟨x55,rfl,b56⟩:=gH rfl k0;obtain ⟨x57,rfl,b58⟩:=jB rfl k1;obtain ⟨x59,rfl,b60⟩:=gH rfl k2;exact ⟨af.mk x55 x57 x59,rfl,.mk b56 b58 b60⟩
inductive ae.Bd:ae->Prop where
 | mk {x:ae} (bl:x.fl.length*32<=gg) (el:∀ y∈x.fl,af.Bd y) (bat:inR x.fat) (bnest:inR x.G') (bbase:inR x.Gw) (bbad:ap.Bd x.AT):ae.Bd x
theorem ae.Bd.bl {x:ae}(h:ae.Bd x):x.fl.length*32<=gg:=by cases h; assumption
theorem ae.Bd.el {x:ae}(h:ae.Bd x):∀ y∈x.fl,af.Bd y:=by cases h; assumption
theorem ae.Bd.bat {x:ae}(h:ae.Bd x):inR x.fat:=by cases h; assumption
theorem ae.Bd.bnest {x:ae}(h:ae.Bd x):inR x.G':=by cases h; assumption
theorem ae.Bd.bbase {x:ae}(h:ae.Bd x):inR x.Gw:=by cases h; assumption
theorem ae.Bd.bbad {x:ae}(h:ae.Bd x):ap.Bd x.AT:=by cases h; assumption
theorem ae.dec (n:Nat):(∀ cs,WTf tt n 78 cs->∃ x:ae,cs=ae.cs x/\ae.Bd x):=by
 induction n using Nat.strongRecOn with
 | _ n ih =>
 have NC:∀ m,m < n->(∀ cs,WTf tt m 78 cs->∃ x:ae,cs=ae.cs x/\ae.Bd x):=λ m hm=>(ih m hm)
 intro cs h
 cases n with
 | zero=>exact h.elim
 | succ n =>
 have h0:=jH rfl h;obtain ⟨c0,q0,rfl,k0,h0⟩:=cA h0;obtain ⟨c1,q1,rfl,k1,h0⟩:=cA h0;obtain ⟨c2,q2,rfl,k2,h0⟩:=cA h0;obtain ⟨c3,q3,rfl,k3,h0⟩:=cA h0;obtain ⟨c4,q4,rfl,k4,h0⟩:=cA h0;have e:q4=[]:=h0;subst e
 obtain ⟨x61,rfl,b62⟩:=nY bM (λ y=>af.Bd y) rfl k0 (λ m63 y64 hm65 k66 k67=>by
  obtain ⟨x68,e70,b69⟩:=af.dec _ _ k66;exact ⟨x68,(uG e70 k67).trans (af.HR _).symm,b69⟩
  )
 obtain ⟨x71,rfl,b72⟩:=gH rfl k1;obtain ⟨x73,rfl,b74⟩:=gH rfl k2;obtain ⟨x75,rfl,b76⟩:=gH rfl k3;obtain ⟨x77,rfl,b78⟩:=ap.dec _ _ k4;exact ⟨ae.mk x61 x71 x73 x75 x77,rfl,.mk b62.1 b62.2 b72 b74 b76 b78⟩
inductive bG.Bd:bG->Prop where
 | mk {x:bG} (bcount:inR x.fcount):bG.Bd x
theorem bG.Bd.bcount {x:bG}(h:bG.Bd x):inR x.fcount:=by cases h; assumption
theorem bG.dec (n:Nat):(∀ cs,WTf tt n 98 cs->∃ x:bG,cs=bG.cs x/\bG.Bd x):=by
 induction n using Nat.strongRecOn with
 | _ n ih =>
 have Nt:∀ m,m < n->(∀ cs,WTf tt m 98 cs->∃ x:bG,cs=bG.cs x/\bG.Bd x):=λ m hm=>(ih m hm)
 intro cs h
 cases n with
 | zero=>exact h.elim
 | succ n =>
 have h0:=jH rfl h;obtain ⟨c0,q0,rfl,k0,h0⟩:=cA h0;have e:q0=[]:=h0;subst e;obtain ⟨x79,rfl,b80⟩:=gH rfl k0;exact ⟨bG.mk x79,rfl,.mk b80⟩
inductive al.Bd:al->Prop where
 | mk {x:al} (bs:x.fs.length<=gg) (bat:inR x.fat) (bi:inR x.fi) (bfrom:inR x.B') (btext:x.C'.length<=gg) (bparts:x.BY.length*160<=gg) (eparts:∀ y∈x.BY,ab.Bd y):al.Bd x
theorem al.Bd.bs {x:al}(h:al.Bd x):x.fs.length<=gg:=by cases h; assumption
theorem al.Bd.bat {x:al}(h:al.Bd x):inR x.fat:=by cases h; assumption
theorem al.Bd.bi {x:al}(h:al.Bd x):inR x.fi:=by cases h; assumption
theorem al.Bd.bfrom {x:al}(h:al.Bd x):inR x.B':=by cases h; assumption
theorem al.Bd.btext {x:al}(h:al.Bd x):x.C'.length<=gg:=by cases h; assumption
theorem al.Bd.bparts {x:al}(h:al.Bd x):x.BY.length*160<=gg:=by cases h; assumption
theorem al.Bd.eparts {x:al}(h:al.Bd x):∀ y∈x.BY,ab.Bd y:=by cases h; assumption
theorem al.dec (n:Nat):(∀ cs,WTf tt n 149 cs->∃ x:al,cs=al.cs x/\al.Bd x):=by
 induction n using Nat.strongRecOn with
 | _ n ih =>
 have M2:∀ m,m < n->(∀ cs,WTf tt m 149 cs->∃ x:al,cs=al.cs x/\al.Bd x):=λ m hm=>(ih m hm)
 intro cs h
 cases n with
 | zero=>exact h.elim
 | succ n =>
 have h0:=jH rfl h;obtain ⟨c0,q0,rfl,k0,h0⟩:=cA h0;obtain ⟨c1,q1,rfl,k1,h0⟩:=cA h0;obtain ⟨c2,q2,rfl,k2,h0⟩:=cA h0;obtain ⟨c3,q3,rfl,k3,h0⟩:=cA h0;obtain ⟨c4,q4,rfl,k4,h0⟩:=cA h0;obtain ⟨c5,q5,rfl,k5,h0⟩:=cA h0;obtain ⟨c6,q6,rfl,k6,h0⟩:=cA h0;have e:q6=[]:=h0;subst e;obtain ⟨x81,rfl,b82⟩:=jB rfl k0;obtain ⟨x83,rfl,b84⟩:=gH rfl k1;obtain ⟨x85,rfl,b86⟩:=gH rfl k2;obtain ⟨x87,rfl,b88⟩:=gH rfl k3;obtain ⟨x89,rfl,b90⟩:=jB rfl k4
 obtain ⟨x91,rfl,b92⟩:=nY ai (λ y=>ab.Bd y) rfl k5 (λ m93 y94 hm95 k96 k97=>by
  obtain ⟨x98,e100,b99⟩:=ab.dec _ _ k96;exact ⟨x98,(uG e100 k97).trans (ab.HR _).symm,b99⟩
  )
 obtain ⟨x101,rfl⟩:=Cu rfl k6;exact ⟨al.mk x81 x83 x85 x87 x89 x91 x101,rfl,.mk b82 b84 b86 b88 b90 b92.1 b92.2⟩
end Go.Ab
end
section
namespace Go.Ab.R06
open Go.Ab Go.Ab.RB Go.Lib
theorem pg {P:Int->Prop}{i:Nat}(h:P ((i+1:Nat):Int)):P ((i:Int)+1):=by rwa [Int.natCast_add,Int.natCast_one] at h
theorem qZ {α:Type} [Inhabited α] (l:List α){i:Nat}(h:i < l.length):l.drop i=lat l (i:Int)::l.drop (i+1):=by
 rw [oO l i h]; exact List.drop_eq_getElem_cons h
theorem AD (s:Bytes):gS s=some (gC s):=by
 unfold gS gC Ft;simp only [List.any_cons,List.any_nil,Bool.or_false];by_cases h1:s=[110,117,108,108]
 ·simp [h1]
 by_cases h2:s=[116,114,117,101]
 ·simp [h2]
 by_cases h3:s=[102,97,108,115,101]
 ·simp [h3]
 by_cases h4:s=[102,111,114]
 ·simp [h4]
 by_cases h5:s=[105,110]
 ·simp [h5]
 by_cases h6:s=[105,102]
 ·simp [h6]
 simp [h1,h2,h3,h4,h5,h6]
def rc (v:ah):Prop:=v.Ar=1/\v.F'≠0/\v.F'≠1\/v.Ar≠1/\v.Ar≠2/\v.F'≠0\/v.Ar≠3/\v.HT≠[]\/v.HQ≠[]\/v.D'≠[]
theorem Aq {α:Type}(l:List α):(0 < (l.length:Int))↔l≠[]:=by rw [<- List.length_pos_iff]; omega
theorem yg {α:Type}(l:List α):((l.length:Int)=0)↔l=[]:=by rw [<- List.length_eq_zero_iff]; omega
theorem BL (v:ah)(h0:0<=v.Ar)(h3:v.Ar<=3):∃ b,jZ v=some b/\(b=true↔¬ rc v):=by
 unfold jZ rc;have hk:v.Ar=0\/v.Ar=1\/v.Ar=2\/v.Ar=3:=by omega
 clear h0 h3
 rcases hk with h | h | h | h <;> by_cases a:v.F'=0 <;> by_cases b:v.F'=1 <;> by_cases c:v.HT=[] <;> by_cases d:v.HQ=[] <;> by_cases e:v.D'=[] <;> simp [h,a,b,c,d,e,DL,CU]
theorem A3 (v:ah)(h0:0<=v.Ar)(h3:v.Ar<=3):∃ b,j8 v=some b/\(b=true↔¬ rc v):=by
 unfold j8 rc;have hk:v.Ar=0\/v.Ar=1\/v.Ar=2\/v.Ar=3:=by omega
 clear h0 h3
 rcases hk with h | h | h | h <;> by_cases a:v.F'=0 <;> by_cases b:v.F'=1 <;> by_cases c:v.HT=[] <;> by_cases d:v.HQ=[] <;> by_cases e:v.D'=[] <;> simp [h,a,b,c,d,e]
theorem tI {v:ah}(h:rc v):sC v=1:=if_pos h
theorem vt {v:ah}(h:¬ rc v):sC v=if v.Ar=2/\¬ (-jK<=v.F'/\v.F'<=jK) then 5 else if v.Ar=3/\4096 < v.HT.length then 3 else if v.Ar=3/\validD v.HT=false then 1 else 0:=if_neg h
def wo (s:Bytes):Int:=if 4096 < s.length then 3 else if validD s=false then 1 else 0
theorem GX (s:Bytes):kJ s=some (wo s):=by
 unfold kJ wo;by_cases h:4096 < s.length
 ·rw [if_pos O,if_pos h]
 ·rw [if_neg O,if_neg h,G2,py];have:decide (s.length<=4096)=true:=by rw [decide_eq_true_eq]; omega
  rw [this,Bool.true_and]
  cases validD s <;> rfl
theorem Gq (s:Bytes):Ev2 (λ n _=>jG n s) (·=wo s):=by
 simp only [jG];unfold wo;refine aI (λ h=>aa (by rw [if_pos O])) (λ h=>?_);rw [if_neg (show ¬ 4096 < s.length by omega)];refine ao _ (AX s O) ?_;have:decide (s.length<=4096)=true:=by rw [decide_eq_true_eq]; omega
 rw [this,Bool.true_and]
 cases validD s with
 | true=>exact ak (by decide) (aa Z)
 | false=>exact am (by decide) (aa Z)
theorem Av:wo []=0:=by unfold wo; rw [if_neg (by decide)]; rfl
theorem Eg (v:ah)(h0:0<=v.Ar)(h3:v.Ar<=3):Ev2 (λ n _=>mj n v) (·=sC v):=by
 obtain ⟨b,hb,hi⟩:=BL v h0 h3;simp only [mj];refine ao _ (ar hb rfl) (aI (λ h=>aa ?_) (λ h=>?_))
 ·have:rc v:=Classical.byContradiction λ k=>by rw [hi.2 k] at h; simp at h
  rw [tI this]
 ·have hg:¬ rc v:=hi.1 (by simpa using h);rw [vt hg];by_cases h2:v.Ar=2
  ·simp only [h2,if_true,true_and];by_cases hv:-jK<=v.F'/\v.F'<=jK
   ·refine ia () (ao _ (ar (wx _) Z) (ak (by simp [hv]) (aa Z))) (aa ?_);rw [if_neg (by simpa using hv),if_neg O,if_neg O]
   ·refine kH 5 (ao _ (ar (wx _) Z) (am (by simp [hv]) (aa Z))) ?_;rw [if_pos hv]
  ·by_cases h5:v.Ar=3
   ·refine kH (wo v.HT) (ak h2 (am h5 (ao _ (ar (GX _) Z) (aa Z)))) ?_;rw [if_neg O]; unfold wo; simp only [h5,true_and]
   ·refine ia () (ak h2 (ak h5 (ak O (aa Z)))) (aa ?_);rw [if_neg O,if_neg O,if_neg O]
theorem D8 (v:ah)(h0:0<=v.Ar)(h3:v.Ar<=3):Ev2 (λ n _=>mT n v) (·=sC v):=by
 obtain ⟨b,hb,hi⟩:=A3 v h0 h3;simp only [mT];refine ao _ (ar hb rfl) (aI (λ h=>aa ?_) (λ h=>?_))
 ·have:rc v:=Classical.byContradiction λ k=>by rw [hi.2 k] at h; simp at h
  rw [tI this]
 ·have hg:¬ rc v:=hi.1 (by simpa using h);rw [vt hg];have nv:nt v.F'=some (decide (-jK<=v.F'/\v.F'<=jK)):=wx v.F';have tail:v.D'=[]:=by unfold rc at hg; simp only [not_or] at hg; exact Classical.not_not.1 hg.2.2.2.2
  have str:v.Ar≠3->v.HT=[]:=λ k=>by unfold rc at hg; simp only [not_or] at hg; exact Classical.byContradiction λ q=>hg.2.2.1 ⟨k,q⟩
  have last:Ev2 (λ n _=>(jG n v.HT).bind λ r9=>if r9=0 then jn (fA n v n 0) λ _=>some 0 else some r9) (·=wo v.HT):=by
   refine ao _ (Gq _) (aI (λ h=>?_) (λ h=>aa Z));refine ia () (bU (f:=λ n m=>fA n v m 0) (aY ?_)) (aa h.symm);simp only [fA];exact ak (by rw [tail]; decide) (aa Z)
  by_cases h2:v.Ar=2
  ·simp only [h2,if_true,true_and];refine ao (!decide (-jK<=v.F'/\v.F'<=jK)) (ao _ (ar nv rfl) (aa rfl)) (aI (λ h=>aa ?_) (λ h=>?_))
   ·rw [if_pos (λ k=>by rw [decide_eq_true k] at h; exact absurd h (by decide))]
   ·rw [if_neg (show ¬ ¬ (-jK<=v.F'/\v.F'<=jK) from λ k=>h (by rw [decide_eq_false k]; rfl)),if_neg O,if_neg O];rw [str O,Av] at last;rw [str O];exact last
  ·refine ao false (ak h2 (aa Z)) (ak (by decide) ?_);rw [if_neg O];by_cases h5:v.Ar=3
   ·simp only [h5,true_and]; exact last
   ·rw [if_neg O,if_neg O];rw [str h5,Av] at last;rw [str h5];exact last
theorem ue {v:ah}(h:sC v=0):v.HQ=[]:=by
 have hg:¬ rc v:=λ k=>by rw [tI k] at h; cases h
 unfold rc at hg; simp only [not_or] at hg; exact Classical.not_not.1 hg.2.2.2.1
theorem CE (v:ah)(h0:0<=v.Ar)(h3:v.Ar<=3):Ev2 (λ n _=>lm n v) (·=sC v):=by
 simp only [lm];refine ag (λ r=>r.1=sC v) (cJ ?_) (λ r hr=>aa hr);simp only [fy];refine ak (by decide) (ak (by decide) (aw (by decide) (ao _ (Eg v h0 h3) (aI (λ h=>?_) (λ h=>aa rfl)))));refine ia 1 (bU (f:=λ n m=>eJ (fy n) v 1 m 0 (0+1)) (aY ?_)) (aa h.symm);simp only [eJ];exact ak (by rw [ue h]; decide) (aa rfl)
theorem C5 (v:ah)(h0:0<=v.Ar)(h3:v.Ar<=3):Ev2 (λ n _=>lz n v) (·=sC v):=by
 simp only [lz];refine ag (λ r=>r.1=sC v) (cJ ?_) (λ r hr=>aa hr);simp only [hH];refine ak (by decide) (ak (by decide) (ao _ (D8 v h0 h3) (aI (λ h=>aw (by decide) ?_) (λ h=>aa rfl))));refine ia 1 (bU (f:=λ n m=>fP (hH n) v 1 m (0+1) 0) (aY ?_)) (aa h.symm);simp only [fP];exact ak (by rw [ue h]; decide) (aa rfl)
theorem E9 (k:Int):ij k=some (decide (k=3\/k=4\/k=9\/k=12\/k=13)):=by
 unfold ij i6;by_cases a:k=3
 ·simp [a]
 by_cases b:k=4
 ·simp [b]
 by_cases c:k=9
 ·simp [c]
 by_cases d:k=12
 ·simp [d]
 simp [a,b,c,d]
theorem wu (k:Int):aO k=some (decide (k=3\/k=4\/k=9\/k=12\/k=13)):=by
 unfold aO aZ;by_cases a:k=3
 ·simp [a]
 by_cases b:k=4
 ·simp [b]
 by_cases c:k=9
 ·simp [c]
 by_cases d:k=12
 ·simp [d]
 simp [a,b,c,d]
section
variable {α β:Type}
theorem zA {p:Prop} [Decidable p] {a b:Option α}(h1:p->∃ r,a=some r)(h2:¬p->∃ r,b=some r):∃ r,(if p then a else b)=some r:=by
 by_cases h:p
 ·simpa only [if_pos h] using h1 h
 ·simpa only [if_neg h] using h2 h
theorem wW {g:Option β}{k:β->Option α}(h:∃ r,g=some r)(hk:∀ x,∃ r,k x=some r):∃ r,g.bind k=some r:=by
 obtain ⟨x,rfl⟩:=h;exact hk x
theorem D5 {p:Prop} [Decidable p] {a:Option α}(hp:p)(h:∃ r,a=some r):∃ r,ck p a=some r:=by rw [bI hp]; exact h
end
theorem Ds (k:Int):∃ r,aZ k=some r:=by unfold aZ; repeat' (first | exact ⟨_,rfl⟩ | refine wW ?_ (λ _=>?_) | refine zA (λ _=>?_) (λ _=>?_) | refine D5 (by decide) ?_)
theorem FY (k n:Int):∃ r,ff k n=some r:=by unfold ff; repeat' (first | exact ⟨_,rfl⟩ | exact Ds _ | exact ⟨_,wu _⟩ | refine wW ?_ (λ _=>?_) | refine zA (λ _=>?_) (λ _=>?_) | refine D5 (by decide) ?_)
theorem zq (e:ab):∃ r,eY e=some r:=by unfold eY; repeat' (first | exact ⟨_,rfl⟩ | exact Ds _ | exact ⟨_,wu _⟩ | exact FY _ _ | exact FU _ | refine wW ?_ (λ _=>?_) | refine zA (λ _=>?_) (λ _=>?_) | refine D5 (by decide) ?_)
inductive VSz:ah->Prop where
 | mk {x:ah} (v:x.HQ.length+x.D'.length<=1000000000000000) (sub:∀ y∈x.HQ,VSz y):VSz x
theorem VSz.v {x:ah}(h:VSz x):x.HQ.length+x.D'.length<=1000000000000000:=by cases h; assumption
theorem Ga {v:ah}(hb:ah.Bd v):VSz v:=by
 induction hb with
 | @mk x bKind bNum bStr bItems eItems bKeys eKeys ih =>
  have h1:=bItems;have h2:=bKeys;unfold gg at h1 h2;exact .mk O ih
theorem Bj {k n:Int}{s:Bytes}:VSz (.mk k n s [] []):=.mk (rd _) (λ _ h=>by cases h)
inductive Sz:ab->Prop where
 | mk {x:ab} (n:x.AI.length<=1000000000000000) (k:x.E'.length<=1000000000000000) (w:VSz x.A') (c:x.By.length<=1000000000000000) (kids:∀ y∈x.By,Sz y):Sz x
theorem Sz.n {x:ab}(h:Sz x):x.AI.length<=1000000000000000:=by cases h; assumption
theorem Sz.k {x:ab}(h:Sz x):x.E'.length<=1000000000000000:=by cases h; assumption
theorem Sz.w {x:ab}(h:Sz x):VSz x.A':=by cases h; assumption
theorem Sz.v {x:ab}(h:Sz x):x.A'.HQ.length+x.A'.D'.length<=1000000000000000:=h.w.v
theorem Sz.kids {x:ab}(h:Sz x):∀ y∈x.By,Sz y:=by cases h; assumption
theorem FO {e:ab}(hb:ab.Bd e):Sz e:=by
 induction hb with
 | @mk x bKind bOp bName bKey bValue bKids eKids bAt ih =>
  unfold gg at bName bKey bKids;exact .mk O O  (Ga bValue) O ih
theorem qE {e:ab}(hb:Sz e):eY e=some (pr e):=by
 have h:=wb e hb.v;obtain ⟨r,hr⟩:=zq e;unfold pr;rw [h,hr]; rfl
theorem CW {e:ab}(hb:Sz e):fC e=some (pr e):=by
 rw [wb e hb.v,qE hb]
theorem qX {e:ab}(hb:Sz e)(h:pr e=true)(hk:e.Ar=1):0<=e.A'.Ar/\e.A'.Ar<=3:=by
 have h1:=qE hb;rw [h] at h1;unfold eY at h1;generalize (Option.bind (ff e.Ar (e.By.length:Int)) _:Option Bool)=o at h1
 cases o with
 | none=>cases h1
 | some t =>
  cases t with
  | true=>cases h1
  | false =>
   simp only [py,Bool.false_eq_true,if_false,hk,if_true] at h1;by_cases a:e.fOp=0
   ·by_cases b:e.A'.Ar=0
    ·omega
    ·by_cases c:e.A'.Ar=1
     ·omega
     ·by_cases d:e.A'.Ar=3
      ·omega
      ·by_cases f:e.A'.Ar=2
       ·omega
       ·simp [a,b,c,d,f] at h1
   ·simp [a] at h1
theorem Gg {e:ab}(hb:Sz e):Ev2 (λ n _=>nP n e) (·=jm e):=by
 have b1:=hb.n;have b2:=hb.k;simp only [nP];unfold jm;refine ao _ (ar (CW hb) Z) (aI (λ h=>aa (by rw [if_pos (by simpa using h)])) (λ h=>?_));have h:pr e=true:=by simpa using h
 rw [if_neg (show ¬ pr e=false by rw [h]; decide)];refine aI (λ hk=>?_) (λ hk=>?_)
 ·rw [if_pos hk];exact ao _ (CE _ (qX hb h hk).1 (qX hb h hk).2) (aa rfl)
 rw [if_neg hk];refine ao (decide ((e.Ar=3\/e.Ar=4\/e.Ar=9\/e.Ar=12\/e.Ar=13)/\(bH e.AI=false\/e.Ar≠4/\gC e.AI=true))) ?_ ?_
 ·refine ao _ (ar (E9 _) Z) (aI (λ hn=>?_) (λ hn=>aa ?_))
  ·have hn:=of_decide_eq_true hn;rw [show decide ((e.Ar=3\/e.Ar=4\/e.Ar=9\/e.Ar=12\/e.Ar=13)/\(bH e.AI=false\/e.Ar≠4/\gC e.AI=true))=decide (bH e.AI=false\/e.Ar≠4/\gC e.AI=true) by simp only [hn,true_and]];refine ao _ (xr _ O) (aI (λ hi=>aa ?_) (λ hi=>aI (λ h4=>aa ?_) (λ h4=>ao _ (ar (tr _) Z) (aa ?_))))
   ·have hi:bH e.AI=false:=by simpa using hi
    simp [hi]
   ·have hi:bH e.AI=true:=by simpa using hi
    simp [hi,h4]
   ·have hi:bH e.AI=true:=by simpa using hi
    simp [hi,h4]
  ·have hn:¬ (e.Ar=3\/e.Ar=4\/e.Ar=9\/e.Ar=12\/e.Ar=13):=λ k=>hn (decide_eq_true k);simp only [hn,false_and,decide_false]
 ·refine aI (λ hq=>aa (by rw [if_pos (of_decide_eq_true hq)])) (λ hq=>?_);rw [if_neg (λ k=>hq (decide_eq_true k))];refine ao (decide (e.E'≠[]/\(bH e.E'=false\/gC e.E'=true))) ?_ ?_
  ·refine aI (λ hk=>aa (by simp [hk])) (λ hk=>?_);refine ao _ (xr _ O) (aI (λ hi=>aa ?_) (λ hi=>ao _ (ar (tr _) Z) (aa ?_)))
   ·have hi:bH e.E'=false:=by simpa using hi
    simp [hi,hk]
   ·have hi:bH e.E'=true:=by simpa using hi
    simp [hi,hk]
  ·refine aI (λ hq=>aa (by rw [if_pos (of_decide_eq_true hq)])) (λ hq=>aa ?_);rw [if_neg (λ k=>hq (decide_eq_true k))]
theorem F7 {e:ab}(hb:Sz e):Ev2 (λ n _=>mC n e) (·=jm e):=by
 have b1:=hb.n;have b2:=hb.k;simp only [mC];unfold jm;refine ao _ (ar (qE hb) Z) (aI (λ h=>aa (by rw [if_pos (by simpa using h)])) (λ h=>?_));have h:pr e=true:=by simpa using h
 rw [if_neg (show ¬ pr e=false by rw [h]; decide)];refine aI (λ hk=>?_) (λ hk=>?_)
 ·rw [if_pos hk];exact ao _ (C5 _ (qX hb h hk).1 (qX hb h hk).2) (aa rfl)
 rw [if_neg hk];refine ao (decide ((e.Ar=3\/e.Ar=4\/e.Ar=9\/e.Ar=12\/e.Ar=13)/\(bH e.AI=false\/e.Ar≠4/\gC e.AI=true))) ?_ ?_
 ·refine ao _ (ar (wu _) Z) (aI (λ hn=>?_) (λ hn=>aa ?_))
  ·have hn:=of_decide_eq_true hn;rw [show decide ((e.Ar=3\/e.Ar=4\/e.Ar=9\/e.Ar=12\/e.Ar=13)/\(bH e.AI=false\/e.Ar≠4/\gC e.AI=true))=decide (bH e.AI=false\/e.Ar≠4/\gC e.AI=true) by simp only [hn,true_and]];refine ao _ (vq _ O) (aI (λ hi=>aa ?_) (λ hi=>aI (λ h4=>aa ?_) (λ h4=>ao _ (ar (AD _) Z) (aa ?_))))
   ·have hi:bH e.AI=false:=by simpa using hi
    simp [hi]
   ·have hi:bH e.AI=true:=by simpa using hi
    simp [hi,h4]
   ·have hi:bH e.AI=true:=by simpa using hi
    simp [hi,h4]
  ·have hn:¬ (e.Ar=3\/e.Ar=4\/e.Ar=9\/e.Ar=12\/e.Ar=13):=λ k=>hn (decide_eq_true k);simp only [hn,false_and,decide_false]
 ·refine aI (λ hq=>aa (by rw [if_pos (of_decide_eq_true hq)])) (λ hq=>?_);rw [if_neg (λ k=>hq (decide_eq_true k))];refine ao (decide (e.E'≠[]/\(bH e.E'=false\/gC e.E'=true))) ?_ ?_
  ·refine aI (λ hk=>aa (by simp [hk])) (λ hk=>?_);simp only [oq];refine ao (bH e.E'&&!gC e.E') ?_ (aa ?_)
   ·refine ao (bH e.E'&&!gC e.E') (ao _ (vq _ O) (aI (λ hi=>ao _ (ar (AD _) Z) (aa ?_)) (λ hi=>aa ?_))) (aa Z)
    ·rw [hi]; rfl
    ·have hi:bH e.E'=false:=by simpa using hi
     rw [hi]; rfl
   ·cases bH e.E' <;> cases gC e.E' <;> simp [hk]
  ·refine aI (λ hq=>aa (by rw [if_pos (of_decide_eq_true hq)])) (λ hq=>aa ?_);rw [if_neg (λ k=>hq (decide_eq_true k))]
theorem HC {e:ab}(hb:Sz e):∀ (c lv:Nat) (ci li:Int),ci=c->li=lv->c<=4096->lv<=33 ->
  Ev2 (λ n _=>cx n (bG.mk ci) e li) (λ r=>r.1=(lr c lv e).1/\r.2=bG.mk (((lr c lv e).2:Nat):Int)/\(lr c lv e).2<=4096):=by
 induction hb with
 | @mk x sn sk sv hs skids ih =>
  intro c lv ci li hc hl h1 h2;have hb:Sz x:=.mk sn sk sv hs skids;refine cJ ?_;simp only [cx];rw [kQ];refine aI (λ h=>?_) (λ h=>?_)
  ·rw [if_pos O]; exact aa ⟨rfl,by rw [hc],h1⟩
  rw [if_neg (show ¬ 32 < lv by omega)];refine aI (λ h5=>?_) (λ h5=>?_)
  ·rw [if_pos O]; exact aa ⟨rfl,by rw [hc],h1⟩
  rw [if_neg (show ¬ 4096<=c by omega)];refine aw (aK O O) ?_;refine ao _ (Gg hb) ?_;refine aI (λ h0=>?_) (λ h0=>?_)
  ·rw [if_pos h0]
   have loop:∀ (k i c:Nat) (ci:Int),i+k=x.By.length->ci=c->c<=4096->Ev2 (λ n m=>ce (cx n) x li m (i:Int) ci) (λ s=>(jV c (lv+1) (x.By.drop i)).2<=4096/\s=if (jV c (lv+1) (x.By.drop i)).1=0 then .inl (((jV c (lv+1) (x.By.drop i)).2:Nat):Int) else .inr ((jV c (lv+1) (x.By.drop i)).1,bG.mk (((jV c (lv+1) (x.By.drop i)).2:Nat):Int))):=by
    intro k
    induction k with
    | zero =>
     intro i c ci hi hc h6;refine aY ?_;simp only [ce];rw [List.drop_eq_nil_of_le O];exact ak O (aa ⟨by rw [jV]; exact h6,by rw [jV,hc]; rfl⟩)
    | succ k ihk =>
     intro i c ci hi hc h6;refine aY ?_;simp only [ce];rw [qZ _ (show i < x.By.length by omega),mc];refine am O (aw O (aw (aK O O) ?_));refine ag _ (ih _ (wl O) c (lv+1) ci (li+1) hc O h6 O) ?_;rintro ⟨r1,r2⟩ ⟨q1,q2,q3⟩;simp only at q1 q2;subst q1 q2;refine aI (λ h8=>?_) (λ h8=>?_)
     ·simp only [if_pos h8];refine aw (aK O O) ?_;exact pg (P:=λ j=>Ev2 (λ n m=>ce (cx n) x li m j _) _) (ihk (i+1) _ _ O rfl q3)
     ·simp only [if_neg h8]; exact aa ⟨q3,rfl⟩
   refine eC (b7 (bU (f:=λ n m=>ce (cx n) x li m 0 (ci+1)) (loop x.By.length 0 (c+1) (ci+1) O O O)) ?_);rintro s ⟨s1,s2⟩;simp only [List.drop_zero] at s1 s2;subst s2;by_cases h9:(jV (c+1) (lv+1) x.By).1=0
   ·simp only [if_pos h9]; exact aa ⟨h9.symm,rfl,s1⟩
   ·rw [if_neg h9]; exact ⟨rfl,rfl,s1⟩
  ·rw [if_neg h0]; exact aa ⟨rfl,by rw [hc,Int.natCast_add,Int.natCast_one],by omega⟩
theorem Ey {e:ab}(hb:Sz e):Ev2 (λ n _=>mi n e) (·=chk e):=by
 simp only [mi];exact ag _ (HC hb 0 1 0 1 Z Z (by decide) (by decide)) (λ r hr=>aa hr.1)
theorem HK {e:ab}(hb:Sz e):∀ (c lv:Nat) (ci li:Int),ci=c->li=lv->c<=4096->lv<=33 ->
  Ev2 (λ n _=>d9 n e li ci) (λ r=>r.1=(lr c lv e).1/\(r.1=0->r.2=(((lr c lv e).2:Nat):Int))/\(lr c lv e).2<=4096):=by
 induction hb with
 | @mk x sn sk sv hs skids ih =>
  intro c lv ci li hc hl h1 h2;have hb:Sz x:=.mk sn sk sv hs skids;refine cJ ?_;simp only [d9];rw [kQ];refine aI (λ h=>?_) (λ h=>?_)
  ·rw [if_pos O]; exact aa ⟨rfl,by simp,h1⟩
  rw [if_neg (show ¬ 32 < lv by omega)];refine aI (λ h5=>?_) (λ h5=>?_)
  ·rw [if_pos O]; exact aa ⟨rfl,by simp,h1⟩
  rw [if_neg (show ¬ 4096<=c by omega)];refine ao _ (F7 hb) ?_;refine aw (aK O O) ?_
  have stop:∀ (i ci kk:Int),kk≠0->Ev2 (λ n m=>cT (d9 n) x li m kk ci i) (·=(kk,ci)):=by
   intro i ci kk hk;refine aY ?_;simp only [cT];refine ao false (aI (λ _=>aa (by simpa using hk)) (λ _=>aa rfl)) (ak (by decide) (aa rfl))
  by_cases h0:jm x=0
  ·rw [if_pos h0,h0]
   have loop:∀ (k i c:Nat) (ci:Int),i+k=x.By.length->ci=c->c<=4096->Ev2 (λ n m=>cT (d9 n) x li m 0 ci (i:Int)) (λ s=>(jV c (lv+1) (x.By.drop i)).2<=4096/\s.1=(jV c (lv+1) (x.By.drop i)).1/\(s.1=0->s.2=(((jV c (lv+1) (x.By.drop i)).2:Nat):Int))):=by
    intro k
    induction k with
    | zero =>
     intro i c ci hi hc h6;refine aY ?_;simp only [cT];rw [List.drop_eq_nil_of_le O];refine ao false (ak O (aa rfl)) (ak (by decide) (aa ⟨by rw [jV]; exact h6,by rw [jV],λ _=>by rw [jV]; exact hc⟩))
    | succ k ihk =>
     intro i c ci hi hc h6;refine aY ?_;simp only [cT];rw [qZ _ (show i < x.By.length by omega),mc];refine ao true (am O (aa rfl)) (am rfl (aw O (aw (aK O O) ?_)));refine ag _ (ih _ (wl O) c (lv+1) ci (li+1) hc O h6 O) ?_;rintro ⟨r1,r2⟩ ⟨q1,q2,q3⟩;simp only at q1 q2;refine aw (aK O O) ?_;by_cases h8:r1=0
     ·subst h8;have q2:=q2 rfl;simp only [if_pos q1.symm];subst q2;exact pg (P:=λ j=>Ev2 (λ n m=>cT (d9 n) x li m 0 _ j) _) (ihk (i+1) _ _ O rfl q3)
     ·simp only [if_neg (show ¬ (lr c (lv+1) (lat x.By (i:Int))).1=0 by rw [<- q1]; exact h8)];exact b7 (stop _ _ _ h8) (λ s hs=>by subst hs; exact ⟨q3,q1,λ k=>absurd k h8⟩)
   refine ag _ (bU (f:=λ n m=>cT (d9 n) x li m 0 (ci+1) 0) (loop x.By.length 0 (c+1) (ci+1) O O O)) ?_;rintro s ⟨s1,s2,s3⟩;simp only [List.drop_zero] at s1 s2 s3;exact aa ⟨s2,s3,s1⟩
  ·rw [if_neg h0];exact ag _ (bU (f:=λ n m=>cT (d9 n) x li m (jm x) (ci+1) 0) (stop _ _ _ h0)) (λ s hs=>by subst hs; exact aa ⟨rfl,λ k=>absurd k h0,by omega⟩)
theorem EK {e:ab}(hb:Sz e):Ev2 (λ n _=>lw n e) (·=chk e):=by
 simp only [lw];exact ag _ (HK hb 0 1 0 1 Z Z (by decide) (by decide)) (λ r hr=>aa hr.1)
mutual
def oH:ab->Nat
 | .mk _ _ _ _ _ kids _=>1+kF kids
def kF:List ab->Nat
 | []=>0
 | x::r=>oH x+kF r
end
theorem pL (e:ab):oH e=1+kF e.By:=by cases e; simp only [oH,ab.By]
theorem Dk {e:ab}(hb:ab.Bd e):∀ (nodes levels:Int),0<=nodes->nodes<=1000000->-1000000<=levels->levels<=1000000 ->
  Ev2 (λ n _=>fY n e nodes levels) (λ r=>-1<=r/\r<=nodes/\(0<=r->r=nodes - (oH e:Int))):=by
 induction hb with
 | @mk x bKind bOp bName bKey bValue bKids eKids bAt ih =>
  intro nodes levels h1 h2 h3 h4;have hl:=bKids;unfold gg at hl;refine cJ ?_;simp only [fY];refine aI (λ _=>aa ⟨by omega,by omega,by omega⟩) (λ h=>?_);refine aw (aK O O) ?_
  have loop:∀ (k i:Nat) (c:Int),i+k=x.By.length->-1<=c->c<=1000000->Ev2 (λ n m=>ei (fY n) x levels m c (i:Int)) (λ s=>-1<=s/\s<=c/\(0<=s->s=c - (kF (x.By.drop i):Int))):=by
   intro k
   induction k with
   | zero =>
    intro i c hi h6 h7;refine aY ?_;simp only [ei];refine ao false (ak O (aa rfl)) (ak G (aa ⟨h6,by omega,λ _=>?_⟩));rw [List.drop_eq_nil_of_le O]; simp [kF]
   | succ k ihk =>
    intro i c hi h6 h7;refine aY ?_;simp only [ei];refine ao (decide (0<=c)) (am O (aa rfl)) (aI (λ h8=>?_) (λ h8=>aa ⟨h6,by omega,λ h=>absurd (by simpa using h) h8⟩));have h8:0<=c:=by simpa using h8
    refine aw O (aw (aK O O) ?_);refine ag _ (ih _ (wl O) c (levels - 1) h8 h7 O O) (λ q hq=>?_);refine aw (aK O O) ?_;refine b7 (pg (P:=λ j=>Ev2 (λ n m=>ei (fY n) x levels m q j) _) (ihk (i+1) q O hq.1 O)) (λ s hs=>⟨hs.1,by omega,λ h=>?_⟩);rw [qZ _ O];have a1:=hs.2.2 h;have a2:=hq.2.2 O;simp only [kF];omega
  refine ag _ (bU (f:=λ n m=>ei (fY n) x levels m (nodes - 1) 0) (loop x.By.length 0 (nodes - 1) O O O)) (λ s hs=>aa ⟨hs.1,by omega,λ h=>?_⟩);have:=hs.2.2 h;rw [pL];simp only [List.drop_zero] at this;omega
theorem AZ {e:ab}(hb:ab.Bd e)(nodes:Int)(h1:0<=nodes)(h2:nodes<=1000000):Ev2 (λ n _=>kY n e nodes) (λ r=>r=true->(oH e:Int)<=nodes):=by
 simp only [kY];refine ag _ (Dk hb nodes 40 h1 h2 (by decide) (by decide)) (λ r hr=>aa (λ h=>?_));have h:0<=r:=by simpa using h
 have:=hr.2.2 h;omega
end Go.Ab.R06
end
section
namespace Go.Ab.R06
open Go.Ab Go.Ab.RB Go.Lib
theorem tlS (b:Bool)(l:List af):tl b l <:+ l:=by
 unfold tl nf
 cases b
 ·exact List.tail_suffix _
 ·exact (List.tail_suffix _).trans (List.dropWhile_suffix _)
theorem t1 {b:Bool}{l m:List af}(h:l <:+ m):tl b l <:+ m:=(tlS b l).trans h
def Gl (l:List af):Prop:=Gd l/\l.length<=1000000000
def hC {α:Type}(P:α->Prop)(l0:List af)(x:PR α):Prop:=∀ q,x=some q->match q with
 | .inl e=>e.1≠0
 | .inr (a,l')=>P a/\l' <:+ l0/\Gl l'
theorem jE {α:Type}{P:α->Prop}{l0:List af}:hC P l0 none:=by intro q h; cases h
theorem fk {α:Type}{P:α->Prop}{l0 l':List af}{a:α}(p:P a)(h:l' <:+ l0)(g:Gl l'):hC P l0 (pok a l'):=by intro q h'; cases h'; exact ⟨p,h,g⟩
theorem sa {α:Type}{P:α->Prop}{l0:List af}{k a:Int}(h:k≠0):hC P l0 (per k a):=by intro q h'; cases h'; exact h
theorem dC {α:Type}{P:α->Prop}{p:Prop} [Decidable p] {l0:List af}{x y:PR α}(h1:p->hC P l0 x)(h2:¬p->hC P l0 y):hC P l0 (if p then x else y):=by
 by_cases h:p
 ·rw [if_pos h]; exact h1 h
 ·rw [if_neg h]; exact h2 h
theorem bW {α β:Type}{x:PR α}{k:α->List af->PR β}{q:PE⊕(β×List af)}(h:pb x k=some q):(∃ e,x=some (.inl e)/\q=.inl e)\/(∃ a l,x=some (.inr (a,l))/\k a l=some q):=by
 cases x with
 | none=>cases h
 | some y =>
  rcases y with e | ⟨a,l⟩
  ·cases h; exact .inl ⟨e,rfl,rfl⟩
  ·exact .inr ⟨a,l,Z,h⟩
theorem ek {α β:Type}{P:α->Prop}{P':β->Prop}{l0 l1:List af}{x:PR α}{k:α->List af->PR β}(h:hC P l1 x)(hs:l1 <:+ l0)(hk:∀ a l',P a->l' <:+ l0->Gl l'->hC P' l0 (k a l')):hC P' l0 (pb x k):=by
 intro q hq;rcases bW hq with ⟨e,hx,rfl⟩ | ⟨a,l,hx,hq⟩
 ·exact h _ hx
 ·exact hk a l (h _ hx).1 ((h _ hx).2.1.trans hs) (h _ hx).2.2 q hq
theorem tC {α:Type}{P:α->Prop}{l0 l1:List af}{x:PR α}(h:hC P l1 x)(hs:l1 <:+ l0):hC P l0 x:=by
 intro q hq;have:=h q hq;rcases q with e | ⟨a,l'⟩
 ·exact this
 ·exact ⟨this.1,this.2.1.trans hs,this.2.2⟩
theorem glk {b:Bool}{l:List af}{k:Int}(g:Gl l)(h:(hd b l).Ar=k)(hk:k≠6):Gl (tl b l):=⟨BZ (tB g.1) O,Nat.le_trans (tlS b l).length_le g.2⟩
theorem glt {b:Bool}{l:List af}{s:Bytes}(g:Gl l)(h:sgB b l s=true):Gl (tl b l):=glk g (qF.1 h).1 (by decide)
theorem glw {b:Bool}{l:List af}{s:Bytes}(g:Gl l)(h:wdB b l s=true):Gl (tl b l):=glk g (wy.1 h).1 (by decide)
theorem gln {b:Bool}{l:List af}(g:Gl l):(hd b l).Df.length<=1000000000:=by
 have:=xo (tB (b:=b) g.1);have h1:=this.1;have h2:=this.2.1;omega
theorem gll {b:Bool}{l:List af}(g:Gl l):(tl b l).length < l.length:=FZ (tB g.1)
abbrev Tr {α:Type}:α->Prop:=λ _=>True
abbrev Nm:Bytes->Prop:=λ s=>s.length<=1000000000
theorem j5 {b:Bool}{s:Bytes}{l:List af}(g:Gl l):hC Tr (tl b l) (iO b s l):=dC (λ h=>fk trivial (List.suffix_refl _) (glt g h)) (λ _=>sa (by decide))
theorem G3 {b:Bool}{s:Bytes}{l:List af}(g:Gl l):hC Tr (tl b l) (Fv b s l):=dC (λ h=>fk trivial (List.suffix_refl _) (glw g h)) (λ _=>sa (by decide))
theorem DD {b:Bool}{l:List af}(g:Gl l):hC Nm (tl b l) (CJ b l):=dC (λ h=>fk (gln g) (List.suffix_refl _) (glk g h.1 (by decide))) (λ _=>sa (by decide))
theorem zP:∀ (f c:Nat) (l:Bytes) (e:SE),jk f c l=.inl e->e.1≠0
 | 0,c,l,e,h=>by rw [jk] at h; cases h; decide
 | f+1,c,l,e,h=>by
  rw [kD] at h
  cases hsk:fm true l with
  | nil =>
   rw [hsk,nU] at h;split at h
   ·cases h; decide
   ·cases h
  | cons b r =>
   rw [hsk,mw] at h;split at h
   ·cases h; exact (show (2:Int)≠0 by decide)
   split at h
   ·cases h; exact (show (14:Int)≠0 by decide)
   cases ht:kp (ge f 0) (b::r) with
   | inl e' =>
    rw [ht] at h; cases h;show e'.1≠0;exact zV (λ x y hxy=>(D4 f 0).1 x y hxy) ht
   | inr z =>
    obtain ⟨k,t,l'⟩:=z;rw [ht,oe] at h
    cases hs:jk f (c+1) l' with
    | inl e'=>rw [hs] at h; cases h; exact zP f (c+1) l' _ hs
    | inr ts'=>rw [hs] at h; cases h
theorem E6 {src:Bytes->SE⊕Bytes}{l:Bytes}(hsrc:∀ r r',src r=.inr r'->r'.length < r.length){c:Int}{t l':Bytes}(h:kp src l=.inr (c,t,l')):c≠6/\t.length<=l.length/\(c=3->t.length+2<=l.length)/\(c=2->t.all iP=true):=by
 cases l with
 | nil=>cases h
 | cons b r =>
  rw [jR] at h;split at h
  ·split at h
   ·cases h
   ·cases h
    exact ⟨by decide,(List.takeWhile_prefix _).length_le,(λ h=>absurd h (by decide)),(λ h=>absurd h (by decide))⟩
  split at h
  ·cases h
   exact ⟨by decide,(List.takeWhile_prefix _).length_le,(λ h=>absurd h (by decide)),λ _=>List.all_takeWhile⟩
  split at h
  ·cases h; exact ⟨by decide,by simp,(λ h=>absurd h (by decide)),(λ h=>absurd h (by decide))⟩
  split at h
  ·split at h
   ·cases h
   ·rename_i r' hr
    cases h
    have:=hsrc r _ hr;simp only [List.length_take,aq];exact ⟨by decide,by omega,λ _=>by omega,(λ h=>absurd h (by decide))⟩
  split at h
  ·cases h
  ·rename_i hs
   cases h
   exact ⟨by decide,(ul hs).2,(λ h=>absurd h (by decide)),(λ h=>absurd h (by decide))⟩
theorem uL (c:Bool)(l:Bytes):(fm c l).length<=l.length:=by
 have h1:=(List.dropWhile_suffix (p:=lF) (l:=l)).length_le;unfold fm;split
 ·rename_i b r hb;rw [hb] at h1;split
  ·exact Nat.le_trans (List.dropWhile_suffix _).length_le h1
  ·exact h1
 ·exact rd _
theorem xA (s:Bytes)(a:Int)(h0:0<=a)(h1:a+(s.length:Int)<=1000000000):∀ (f c:Nat) (l:Bytes) (ts:List Tk),l.length<=s.length->jk f c l=.inr ts->Gd ((ts.map (tkS s)).map (mvT a))/\(∀ t∈ts.map (tkS s),t.Ar=3->t.Df.length+2<=l.length)/\ts.length<=l.length+1
 | 0,c,l,ts,_,h=>by rw [jk] at h; cases h
 | f+1,c,l,ts,hl,h=>by
  rw [kD] at h;have hk:=uL true l
  cases hsk:fm true l with
  | nil =>
   rw [hsk,nU] at h;split at h
   ·cases h
   ·cases h
    refine ⟨⟨⟨?_,?_,λ h=>absurd (show (6:Int)=3 from h) (by decide),λ h=>absurd (show (6:Int)=2 from h) (by decide)⟩,.inl ⟨Z,Z⟩⟩,?_,by simp⟩
    ·show 0<=(s.length:Int) - ((0:Nat):Int)+a; omega
    ·show (s.length:Int) - ((0:Nat):Int)+a+((0:Nat):Int)<=_; omega
    ·intro t ht hk; simp only [bx,ld,List.mem_singleton] at ht; subst ht; cases hk
  | cons b r =>
   rw [hsk] at hk;rw [hsk,mw] at h;split at h
   ·cases h
   split at h
   ·cases h
   cases ht:kp (ge f 0) (b::r) with
   | inl e=>rw [ht] at h; cases h
   | inr z =>
    obtain ⟨k,t,l'⟩:=z;rw [ht,oe] at h;obtain ⟨b1,b2,b3,b4⟩:=E6 (λ x y hxy=>((j6 f 0).1 x y hxy).2) ht;have b5:=(nV (λ x y _ hxy=>(j6 f 0).1 x y hxy) ht).2
    cases hs:jk f (c+1) l' with
    | inl e=>rw [hs] at h; cases h
    | inr ts' =>
     rw [hs] at h; cases h;obtain ⟨i1,i2,i3⟩:=xA s a h0 h1 f (c+1) l' ts' O hs;have hn:(b::r).length<=s.length:=by omega
     refine ⟨⟨⟨?_,?_,?_,b4⟩,.inr ⟨b1,i1⟩⟩,?_,by simp only [aq] at i3 b5 hk ⊢; omega⟩
     ·show 0<=(s.length:Int) - ((b::r).length:Int)+a; omega
     ·show (s.length:Int) - ((b::r).length:Int)+a+(t.length:Int)<=_; omega
     ·intro Lz;have:=b3 Lz;show (s.length:Int) - ((b::r).length:Int)+a+1+(t.length:Int)<=_; omega
     ·intro y hy hy3;rw [bx] at hy;rcases ur.1 hy with rfl | hy
      ·have:=b3 hy3;show t.length+2<=_; omega
      ·have:=i2 y hy hy3;omega
theorem wZ {s:Bytes}{a:Int}(h0:0<=a)(h1:a+(s.length:Int)<=1000000000)(h:(iD s).2.Ar=0):Gd ((iD s).1.map (mvT a))/\(∀ t∈(iD s).1,t.Ar=3->t.Df.length+2<=s.length)/\(iD s).1.length<=65537:=by
 unfold iD at h ⊢;split
 ·rename_i hl; rw [if_pos hl] at h; cases h
 ·rename_i hl;rw [if_neg hl] at h
  cases hs:jk (s.length+1) 0 s with
  | inl e =>
   rw [hs] at h;exact absurd h (zP _ _ _ e hs)
  | inr ts =>
   obtain ⟨i1,i2,i3⟩:=xA s a h0 h1 _ _ s ts (n6 _) hs;refine ⟨i1,i2,?_⟩;show ([]++ts.map (tkS s)).length<=_;rw [List.nil_append,n7]; omega
theorem Ap {s:Bytes}{a:Int}(h0:0<=a)(h1:a+(s.length:Int)<=1000000000)(h:(iD s).2.Ar=0):Gl ((iD s).1.map (mvT a)) :=
 ⟨(wZ h0 h1 h).1,by have:=(wZ h0 h1 h).2.2; rw [n7]; omega⟩
theorem pm:∀ (f:Nat),(∀ d l r,kr f d l=some (some r)->r <:+ l/\r.length < l.length)/\(∀ l r,mK f l=some (some r)->r <:+ l/\r.length < l.length)
 | 0=>⟨λ d l r h=>(by rw [kr] at h; cases h),λ l r h=>(by rw [mK] at h; cases h)⟩
 | f+1=>by
  obtain ⟨i1,i2⟩:=pm f;constructor
  ·intro d l r h
   cases l with
   | nil=>rw [kr] at h; cases h
   | cons b l =>
    have up:∀ {x:Bytes},r <:+ x/\r.length < x.length->x <:+ l->r <:+ (b::l)/\r.length < (b::l).length:=λ hx hy=>⟨(hx.1.trans hy).trans (List.suffix_cons _ _),by have:=hy.length_le; rw [aq]; omega⟩
    rw [kr] at h;split at h
    ·exact up (i1 _ _ _ h) (List.suffix_refl _)
    split at h
    ·split at h
     ·cases h; exact ⟨List.suffix_cons _ _,Nat.lt_succ_self _⟩
     ·exact up (i1 _ _ _ h) (List.suffix_refl _)
    split at h
    ·cases hq:mK f l with
     | none=>rw [hq] at h; cases h
     | some y =>
      rw [hq] at h
      cases y with
      | none=>cases h
      | some r'=>exact up (i1 _ _ _ h) (i2 _ _ hq).1
    ·exact up (i1 _ _ _ h) (List.suffix_refl _)
  ·intro l r h
   cases l with
   | nil=>rw [mK] at h; cases h
   | cons b l =>
    have up:∀ {x:Bytes},r <:+ x/\r.length < x.length->x <:+ l->r <:+ (b::l)/\r.length < (b::l).length:=λ hx hy=>⟨(hx.1.trans hy).trans (List.suffix_cons _ _),by have:=hy.length_le; rw [aq]; omega⟩
    rw [mK] at h;split at h
    ·cases h; exact ⟨List.suffix_cons _ _,Nat.lt_succ_self _⟩
    split at h
    ·exact up (i2 _ _ h) (List.drop_suffix _ _)
    split at h
    ·exact up (i2 _ _ h) (List.drop_suffix 2 l)
    split at h
    ·cases hq:kr f 1 ((b::l).drop 2) with
     | none=>rw [hq] at h; cases h
     | some y =>
      rw [hq] at h
      cases y with
      | none=>cases h
      | some r'=>exact up (i2 _ _ h) ((i1 _ _ _ hq).1.trans (List.drop_suffix 1 l))
    ·exact up (i2 _ _ h) (List.suffix_refl _)
theorem xU {l t:Bytes}{n:Nat}(h:ns l=.inr (t,n)):1<=n/\n<=l.length:=by
 cases l with
 | nil=>cases h
 | cons b r =>
  rw [ns] at h;split at h
  ·split at h
   ·rename_i hz
    cases h
    have:=(ra r).2.2.1 hz;rw [aq]; omega
   ·cases h
  ·split at h
   ·cases h
   ·cases h
    have:=kK (b::r) G;exact ⟨this.1,this.2.1⟩
def ri {α:Type}(P:α->Prop)(x:Option (PE⊕α)):Prop:=∀ q,x=some q->match q with
 | .inl e=>e.1≠0
 | .inr a=>P a
theorem qL {α:Type}{P:α->Prop}:ri P none:=by intro e h; cases h
theorem Hn {α:Type}{P:α->Prop}{a:α}(h:P a):ri P (some (.inr a)):=by intro e h'; cases h'; exact h
theorem xn {α:Type}{P:α->Prop}{k a:Int}(h:k≠0):ri P (some (.inl (k,a))):=by intro e h'; cases h'; exact h
theorem uH {α:Type}{P:α->Prop}{p:Prop} [Decidable p] {x y:Option (PE⊕α)}(h1:p->ri P x)(h2:¬p->ri P y):ri P (if p then x else y):=by
 by_cases h:p
 ·rw [if_pos h]; exact h1 h
 ·rw [if_neg h]; exact h2 h
theorem sB {k op:Int}{nm key:Bytes}{kids:List ab}{at':Int}(n:nm.length<=1000000000)(m:key.length<=1000000000)(c:kids.length<=4000000000)(h:∀ y∈kids,Sz y):Sz (ab.mk k op nm key v0 kids at') :=
 .mk (Nat.le_trans n (by decide)) (Nat.le_trans m (by decide)) Bj (Nat.le_trans c (by decide)) h
theorem BM (v:ah)(at':Int)(h:VSz v):Sz (yS v at'):=.mk (rd _) (rd _) h (rd _) (λ y hy=>by cases hy)
theorem Hd (s:Bytes)(at':Int):Sz (Dt s at'):=BM _ _ Bj
theorem m1 {a:ab}(h:Sz a):∀ y∈[a],Sz y:=λ y hy=>by rw [List.mem_singleton.1 hy]; exact h
theorem m2 {a b:ab}(h:Sz a)(g:Sz b):∀ y∈[a,b],Sz y:=λ y hy=>by
 rcases ur.1 hy with rfl | hy
 ·exact h
 ·exact m1 g y hy
theorem m3 {a b c:ab}(h:Sz a)(g:Sz b)(k:Sz c):∀ y∈[a,b,c],Sz y:=λ y hy=>by
 rcases ur.1 hy with rfl | hy
 ·exact h
 ·exact m2 g k y hy
def Kd (N:Nat)(ks:List ab):Prop:=(∀ y∈ks,Sz y)/\ks.length<=N
def Rd (n:Nat)(z:Int×Int×Bytes×List ab×Bool):Prop:=z.2.2.1.length<=4096/\(∀ y∈z.2.2.2.1,Sz y)/\z.2.2.2.1.length<=n
structure Fct (f:Nat):Prop where
 e:∀ b l,Gl l->hC Sz (tl b l) (iJ f b l)
 b:∀ Iy b l,Gl l->hC Sz (tl b l) (q9 f Iy b l)
 bl:∀ Iy b x l,Sz x->Gl l->hC Sz l (sO f Iy b x l)
 u:∀ b l,Gl l->hC Sz (tl b l) (unS f b l)
 pl:∀ b x l,Sz x->Gl l->hC Sz l (nq f b x l)
 p:∀ b l,Gl l->hC Sz (tl b l) (pB f b l)
 s:∀ b l,Gl l->(hd b l).Ar=3->hC Sz (tl b l) (wY f b l)
 n:∀ b l,Gl l->(hd b l).Ar=1->hC Sz (tl b l) (qI f b l)
 i:∀ e l,Gl l->hC (Kd l.length) (tl true l) (mt f e l)
 t:∀ l,Gl l->hC (Kd (2*l.length)) (tl true l) (vg f l)
 k:∀ l,Gl l->hC Sz (tl true l) (si f l)
 lo:∀ a k l,Gl l->hC Sz l (rf f a k l)
 tm:∀ (s:Bytes) (a:Int),0<=a->a+(s.length:Int)<=1000000000->ri Sz (qj f s a)
 r:∀ (frm pos:Int) (text:Bytes) (parts:List ab) (IX:Bool) (s:Bytes) (n:Nat),0<=pos->pos+(s.length:Int)<=1000000000->text.length<=4096->(∀ y∈parts,Sz y)->parts.length+2*s.length<=n->ri (Rd n) (lh f frm pos text parts IX s)
 w:∀ (s:Bytes) (a:Int),0<=a->a+(s.length:Int)<=1000000000->ri Sz (lK f s a)
theorem tc {l p:Bytes}(h:hasPrefix l p=true):p.length<=l.length:=by
 unfold hasPrefix at h;exact (List.isPrefixOf_iff_prefix.1 h).length_le
theorem AM {s:Bytes}{k:Int}(h:ns s=.inl k):k≠0:=by
 cases s with
 | nil=>cases h; decide
 | cons b r =>
  rw [ns] at h;split at h
  ·split at h
   ·cases h
   ·cases h; assumption
  ·split at h
   ·cases h; decide
   ·cases h
theorem DK {frm pos:Int}{text:Bytes}{parts:List ab}(h:∀ y∈parts,Sz y):(∀ y∈flS frm pos text parts,Sz y)/\(flS frm pos text parts).length<=parts.length+1:=by
 unfold flS;split
 ·refine ⟨λ y hy=>?_,by simp⟩;rcases List.mem_append.1 hy with hy | hy
  ·exact h y hy
  ·rw [List.mem_singleton.1 hy]; exact Hd _ _
 ·exact ⟨h,by omega⟩
theorem xZ {at':Int}{n:Nat}{z:Int×Int×Bytes×List ab×Bool}(hn:n<=3000000000)(h:Rd n z):Sz (vP at' z):=by
 obtain ⟨frm,pos,text,parts,IX⟩:=z;obtain ⟨h1,h2,h3⟩:=h;simp only at h1 h2 h3;unfold vP;have:=DK (frm:=frm) (pos:=pos) (text:=text) h2
 cases IX with
 | true=>exact sB (by decide) (by decide) O this.1
 | false=>exact Hd _ _
theorem Hq {e:ab}(h:Sz e)(at':Int):Sz (ab.mk e.Ar e.fOp e.AI e.E' e.A' e.By at'):=by
 cases h with
 | mk n k v c kids=>exact .mk n k v c kids
abbrev sfx (l:List af):l <:+ l:=List.suffix_refl l
theorem fct:∀ f,Fct f:=by
 intro f
 induction f with
 | zero =>
  constructor
  ·intro b l _; rw [iJ]; exact jE
  ·intro v b l _; rw [q9]; exact jE
  ·intro v b x l _ _; rw [sO]; exact jE
  ·intro b l _; rw [unS]; exact jE
  ·intro b x l _ _; rw [nq]; exact jE
  ·intro b l _; rw [pB]; exact jE
  ·intro b l _ _; rw [wY]; exact jE
  ·intro b l _ _; rw [qI]; exact jE
  ·intro b l _; rw [mt]; exact jE
  ·intro l _; rw [vg]; exact jE
  ·intro l _; rw [si]; exact jE
  ·intro a k l _; rw [rf]; exact jE
  ·intro s a _ _; rw [qj]; exact qL
  ·intro a b c d e g n _ _ _ _ _; rw [lh]; exact qL
  ·intro s a _ _; rw [lK]; exact qL
 | succ f ih =>
  constructor
  ·intro b l g;rw [iJ];refine ek (ih.b 0 b l g) (sfx _) λ c l1 z1 s1 g1=>dC (λ hs=>?_) (λ _=>fk z1 s1 g1);exact ek (ih.e b _ (glt g1 hs)) (t1 (t1 s1)) λ a l2 z2 s2 g2=>ek (j5 g2) (t1 s2) λ _ l3 _ s3 g3=>ek (ih.e b _ g3) (t1 s3) λ d l4 z4 s4 g4=>fk (sB (by decide) (by decide) G (m3 z1 z2 z4)) s4 g4
  ·intro v b l g;rw [q9];exact dC (λ _=>ih.u b l g) (λ _=>ek (ih.b _ b l g) (sfx _) λ e l1 z1 s1 g1=>tC (ih.bl v b e l1 z1 g1) s1)
  ·intro v b x l zx g;rw [sO]
   cases ha:x9 b l v with
   | none=>exact fk zx (sfx _) g
   | some p =>
    have hs:sgB b l p.1=true:=List.find?_some (p:=λ p:Bytes×Int=>sgB b l p.1) ha;exact ek (ih.b _ b _ (glt g hs)) (t1 (tlS b l)) λ y l1 z1 s1 g1=>tC (ih.bl v b _ l1 (sB (by decide) (by decide) G (m2 zx z1)) g1) s1
  ·intro b l g;rw [unS];refine dC (λ hs=>ek (ih.u b _ (glt g hs)) (t1 (sfx _)) λ e l1 z1 s1 g1=>fk (sB (by decide) (by decide) G (m1 z1)) s1 g1) (λ _=>dC (λ hs=>ek (ih.u b _ (glt g hs)) (t1 (sfx _)) λ e l1 z1 s1 g1=>fk (sB (by decide) (by decide) G (m1 z1)) s1 g1) (λ _=>?_));exact ek (ih.p b l g) (sfx _) λ e l1 z1 s1 g1=>tC (ih.pl b e l1 z1 g1) s1
  ·intro b x l zx g;rw [nq];refine dC (λ hs=>dC (λ hk=>?_) (λ _=>sa (by decide))) (λ _=>dC (λ hs=>?_) (λ _=>fk zx (sfx _) g))
   ·exact tC (ih.pl b _ _ (sB (gln (glt g hs)) (by decide) G (m1 zx)) (glk (glt g hs) hk (by decide))) (t1 (tlS b l))
   ·exact ek (ih.e true _ (glt g hs)) (t1 (tlS b l)) λ y l1 z1 s1 g1=>ek (j5 g1) (t1 s1) λ _ l2 _ s2 g2=>tC (ih.pl b _ _ (sB (by decide) (by decide) G (m2 zx z1)) g2) s2
  ·intro b l g;rw [pB];refine dC (λ hk=>dC (λ _=>fk (BM _ _ Bj) (sfx _) (glk g hk (by decide))) (λ h=>sa h)) (λ _=>dC (λ hk=>ih.s b l g hk) (λ _=>dC (λ hk=>ih.n b l g hk) (λ _=>?_)));refine dC (λ hs=>ek (ih.e true _ (glt g hs)) (tlS true _) λ e l1 z1 s1 g1=>ek (j5 g1) (t1 s1) λ _ l2 _ s2 g2=>fk z1 s2 g2) (λ _=>?_);refine dC (λ hs=>dC (λ hw=>tC (ih.lo _ _ _ (glw (glt g hs) hw)) (tlS true _)) (λ _=>ek (ih.i _ _ (glt g hs)) (tlS true _) λ ks l1 z1 s1 g1=>fk (sB (by decide) (by decide) (by have:=z1.2; have:=(glt g hs).2; omega) z1.1) s1 g1)) (λ _=>?_);exact dC (λ hs=>dC (λ hw=>tC (ih.lo _ _ _ (glw (glt g hs) hw)) (tlS true _)) (λ _=>ek (ih.t _ (glt g hs)) (tlS true _) λ ks l1 z1 s1 g1=>fk (sB (by decide) (by decide) (by have:=z1.2; have:=(glt g hs).2; omega) z1.1) s1 g1)) (λ _=>sa (by decide))
  ·intro b l g hk;rw [wY];intro q hq;have hb:=xo (tB (b:=b) g.1);have ht':=ih.tm (hd b l).Df ((hd b l).fAt+1) (by have:=hb.1; omega) (by have:=hb.2.2.1 hk; omega)
   cases ht:qj f (hd b l).Df ((hd b l).fAt+1) with
   | none=>rw [ht] at hq; cases hq
   | some y =>
    rw [ht] at hq;have ht':=ht' y ht;rcases y with e | e
    ·cases hq; exact ht'
    ·cases hq; exact ⟨Hq ht' _,sfx _,glk g hk (by decide)⟩
  ·intro b l g hk;have g1:=glk g hk (by decide);have gn:=gln (b:=b) g;rw [qI];refine dC (λ _=>fk (BM _ _ Bj) (sfx _) g1) (λ _=>dC (λ _=>fk (BM _ _ Bj) (sfx _) g1) (λ _=>dC (λ _=>fk (BM _ _ Bj) (sfx _) g1) (λ _=>dC (λ _=>sa (by decide)) (λ _=>?_))));exact dC (λ hs=>ek (ih.i _ _ (glt g1 hs)) (t1 (tlS b _)) λ ks l1 z1 s1 g2=>fk (sB gn (by decide) (by have:=z1.2; have:=(glt g1 hs).2; omega) z1.1) s1 g2) (λ _=>fk (sB gn (by decide) (by decide) (λ y hy=>by cases hy)) (sfx _) g1)
  ·intro e l g;have gt:=gll (b:=true) g;rw [mt];refine dC (λ hs=>fk ⟨(λ y hy=>by cases hy),rd _⟩ (sfx _) (glt g hs)) (λ _=>ek (ih.e true l g) (sfx _) λ x l1 zx s1 g1=>dC (λ hs=>?_) (λ _=>ek (j5 g1) (t1 s1) λ _ l2 _ s2 g2=>fk ⟨m1 zx,by simp only [List.length_singleton]; omega⟩ s2 g2));have h1:=s1.length_le;have h2:=gll (b:=true) g1
   exact ek (ih.i e _ (glt g1 hs)) (t1 (t1 s1)) λ r l2 z2 s2 g2=>fk ⟨λ y hy=>by
    rcases ur.1 hy with rfl | hy
    ·exact zx
    ·exact z2.1 y hy,by have:=z2.2; simp only [aq]; omega⟩ s2 g2
  ·intro l g;have gt:=gll (b:=true) g;rw [vg];refine dC (λ hs=>fk ⟨(λ y hy=>by cases hy),rd _⟩ (sfx _) (glt g hs)) (λ _=>ek (ih.k l g) (sfx _) λ k l1 z1 s1 g1=>ek (j5 g1) (t1 s1) λ _ l2 _ s2 g2=>ek (ih.e true l2 g2) (t1 s2) λ x l3 z3 s3 g3=>dC (λ hs=>?_) (λ _=>ek (j5 g3) (t1 s3) λ _ l4 _ s4 g4=>fk ⟨m2 z1 z3,by simp only [aq,cl]; omega⟩ s4 g4));have h1:=s3.length_le;have h2:=gll (b:=true) g3
   exact ek (ih.t _ (glt g3 hs)) (t1 (t1 s3)) λ r l4 z4 s4 g4=>fk ⟨λ y hy=>by
    rcases ur.1 hy with rfl | hy
    ·exact z1
    rcases ur.1 hy with rfl | hy
    ·exact z3
    ·exact z4.1 y hy,by have:=z4.2; simp only [aq]; omega⟩ s4 g4
  ·intro l g;rw [si];refine dC (λ hk=>fk (Hd _ _) (sfx _) (glk g hk (by decide))) (λ _=>dC (λ hk=>ih.s true l g hk) (λ _=>dC (λ hs=>?_) (λ _=>sa (by decide))));exact ek (ih.e true _ (glt g hs)) (tlS true _) λ e l1 z1 s1 g1=>ek (j5 g1) (t1 s1) λ _ l2 _ s2 g2=>fk z1 s2 g2
  ·intro a k l g;rw [rf];refine ek (DD g) (tlS true l) λ v l1 z1 s1 g1=>ek (P:=λ p:Bytes×Bytes=>p.1.length<=1000000000/\p.2.length<=1000000000) (l1:=l1) (dC (λ hs=>ek (DD (glt g1 hs)) (t1 (tlS true l1)) λ w l2 z2 s2 g2=>fk ⟨z2,z1⟩ s2 g2) (λ _=>fk ⟨z1,rd _⟩ (sfx _) g1)) s1 λ nk l2 zn s2 g2=>?_;refine ek (G3 g2) (t1 s2) λ _ l3 _ s3 g3=>ek (ih.e true l3 g3) (t1 s3) λ x l4 z4 s4 g4=>ek (j5 g4) (t1 s4) λ _ l5 _ s5 g5=>ek (ih.e true l5 g5) (t1 s5) λ c l6 z6 s6 g6=>?_;refine ek (P:=Kd 3) (l1:=l6) (dC (λ _=>ek (j5 g6) (tlS true l6) λ _ l7 _ s7 g7=>ek (ih.e true l7 g7) (t1 s7) λ d l8 z8 s8 g8=>fk ⟨m3 z4 z6 z8,by simp⟩ s8 g8) (λ _=>fk ⟨m2 z4 z6,by simp⟩ (sfx _) g6)) s6 λ ks l7 z7 s7 g7=>?_
   refine ek (P:=Kd 4) (l1:=l7) (dC (λ hw=>ek (ih.e true _ (glw g7 hw)) (t1 (tlS true l7)) λ e l8 z8 s8 g8=>fk ⟨λ y hy=>by
    rcases List.mem_append.1 hy with hy | hy
    ·exact z7.1 y hy
    ·exact m1 z8 y hy,by have:=z7.2; rw [dg,List.length_singleton]; omega⟩ s8 g8) (λ _=>fk ⟨z7.1,by have:=z7.2; omega⟩ (sfx _) g7)) s7 λ ks l8 z8 s8 g8=>?_
   exact ek (j5 g8) (t1 s8) λ _ l9 _ s9 g9=>fk (sB zn.1 zn.2 (by have:=z8.2; omega) z8.1) s9 g9
  ·intro s a h0 h1;rw [qj];have hr':=ih.r a a [] [] false s (2*s.length) h0 h1 (by decide) (λ y hy=>by cases hy) G;intro q hq
   cases hr:lh f a a [] [] false s with
   | none=>rw [hr] at hq; cases hq
   | some y =>
    rw [hr] at hq;have hr':=hr' y hr;rcases y with e' | z
    ·cases hq; exact hr'
    ·have hz:Sz (vP a z):=xZ O hr';simp only [vf,bt] at hq;split at hq
     ·cases hq; exact hz
     ·cases hq; assumption
  ·intro frm pos text parts IX s n h0 h1 ht hp hn
   cases s with
   | nil=>rw [lh]; exact Hn ⟨ht,hp,by simp only [cl] at hn; omega⟩
   | cons c r =>
    have hcl:(c::r).length=r.length+1:=rfl;rw [lh];refine uH (λ hx=>uH (λ _=>xn (by decide)) (λ hl=>ih.r _ _ _ _ _ _ n O ?_ ?_ hp ?_)) (λ _=>uH (λ hx=>?_) (λ _=>?_))
    ·have:=tc hx;rw [n8]; simp only [aq,cl] at this h1 ⊢; omega
    ·rw [dg]; simp only [aq,cl]; omega
    ·rw [n8]; omega
    ·cases hc:kr f 1 ((c::r).drop 2) with
     | none=>exact qL
     | some y =>
      cases y with
      | none=>exact xn (by decide)
      | some r' =>
       simp only [];have hr:=(pm f).1 _ _ _ hc;have hr2:=hr.2;have hr1:=hr.1.length_le;have hx:=tc hx;have hfl:=DK (frm:=frm) (pos:=pos) (text:=text) hp;rw [n8] at hr1 hr2;simp only [aq,cl] at hr1 hr2 h1 hx hn;have hw':=ih.w (((c::r).drop 2).take (((c::r).drop 2).length - r'.length - 1)) (pos+2) O (by simp only [List.length_take,n8,aq]; omega)
       cases hw:lK f (((c::r).drop 2).take (((c::r).drop 2).length - r'.length - 1)) (pos+2) with
       | none=>exact qL
       | some z =>
        have hw':=hw' z hw;rcases z with e | e
        ·intro e' h; cases h; exact hw'
        ·refine ih.r _ _ _ _ _ _ n O (by simp only [aq]; omega) (by decide) (λ y hy=>?_) (by rw [dg,List.length_singleton]; omega);rcases List.mem_append.1 hy with hy | hy
         ·exact hfl.1 y hy
         ·rw [List.mem_singleton.1 hy]; exact hw'
    ·cases hi:ns (c::r) with
     | inl k=>exact xn (AM hi)
     | inr tn =>
      have:=xU hi;exact uH (λ _=>xn (by decide)) (λ hl=>ih.r _ _ _ _ _ _ n O (by rw [n8]; omega) (by rw [dg]; omega) hp (by rw [n8]; omega))
  ·intro s a h0 h1;rw [lK];refine uH (λ h=>xn h) (λ hk=>?_);have hk:(iD s).2.Ar=0:=Classical.not_not.1 hk;have hx':=ih.e true _ (Ap h0 h1 hk);intro q hq
   cases hx:iJ f true ((iD s).1.map (mvT a)) with
   | none=>rw [hx] at hq; cases hq
   | some y =>
    rw [hx] at hq;have hx':=hx' y hx;rcases y with e' | ⟨x,l⟩
    ·cases hq; exact hx'
    ·simp only [] at hq;split at hq
     ·cases hq; exact hx'.1
     ·cases hq; exact (show (2:Int)≠0 by decide)
end Go.Ab.R06
end
