/- Texts of the proof, one behind the other. No statement is proved here. -/
import Derived.Test.YtihghalcmfpnaaaGreatDoorZ14Ra
import Derived.Test.YtihghalcmfpnaaaGreatDoorZ14Rb
import Derived.Test.YtihghalcmfpnaaaGreatDoorZ14Rc
import Derived.Test.YtihghalcmfpnaaaGreatDoorZ14Rd
import Derived.Test.YtihghalcmfpnaaaGreatDoorZ14Re
set_option maxHeartbeats 4000000
section
namespace Go.Ab.R06
open Go.Ab Go.Ab.RB Go.Lib
theorem xX {src:Bytes→SE⊕Bytes}{l:Bytes}(hs:∀ r e,src r=.inl e→e.1≠0){e:SE}(h:gG src l=.inl e):e.1≠0:=by
 cases l with
 | nil=>cases h; decide
 | cons b r =>
  rw [fu] at h
  split at h
  ·split at h
   ·cases h; exact (by decide:(7:Int)≠0)
   ·cases h
  split at h
  ·cases h
  split at h
  ·cases h
  split at h
  ·split at h
   ·rename_i e' he; cases h; exact hs _ _ he
   ·cases h
  split at h
  ·cases h; exact (by decide:(2:Int)≠0)
  ·cases h
theorem zT:∀ (f k:Nat),(∀ l e,ef f k l=.inl e→e.1≠0)∧(∀ n l e,hQ f k n l=.inl e→e.1≠0)
 | 0,k=>⟨λ l e h=>(by rw [ef] at h; cases h; decide),λ n l e h=>(by rw [hQ] at h; cases h; decide)⟩
 | f+1,k=>by
  have ih:=zT f
  constructor
  ·intro l e h
   cases l with
   | nil=>rw [ef] at h; cases h; decide
   | cons b r =>
    rw [gP] at h
    split at h
    ·cases h
    split at h
    ·exact (ih k).1 _ _ h
    split at h
    ·split at h
     ·cases h; exact (by decide:(4:Int)≠0)
     ·split at h
      ·rename_i e' he; cases h; exact (ih (k+1)).2 _ _ _ he
      ·exact (ih k).1 _ _ h
    split at h
    ·cases h; decide
    ·split at h
     ·cases h; exact (by decide:(2:Int)≠0)
     ·exact (ih k).1 _ _ h
  ·intro n l e h
   rw [jg] at h
   generalize d7 false l=l0 at h
   cases l0 with
   | nil=>cases h; decide
   | cons b r =>
    rw [jj] at h
    cases hq:gG (ef f k) (b::r) with
    | inl e'=>rw [hq] at h; cases h; exact xX (ih k).1 hq
    | inr z =>
     obtain ⟨c,t,l'⟩:=z
     rw [hq,iQ] at h
     split at h
     ·split at h
      ·cases h
      ·exact (ih k).2 _ _ _ h
     split at h
     ·exact (ih k).2 _ _ _ h
     ·exact (ih k).2 _ _ _ h
end Go.Ab.R06
end
section
namespace Go.Ab.R06
open Go.Proofs Go.Ab Go.Ab.RB
set_option maxRecDepth 4000
attribute [local irreducible] awp fT bn bF cv AV.sub M cT
def io (k_0:Int):Option Bool :=
 (
   if k_0=12 then
    some true
   else
    some (decide (k_0=13))
  : Option Bool).bind λ t2 =>
 some t2
def jz (k_0:Int):Option Bool :=
 (
   if k_0=3 then
    some true
   else
    if k_0=4 then
     some true
    else
     if k_0=9 then
      some true
     else
      (io k_0).bind λ r4 =>
      some r4
  : Option Bool).bind λ t6 =>
 some t6
def ip (k_0:Int)(n_1:Int):Option Bool :=
 (
   if k_0=1 then
    some true
   else
    some (decide (k_0=3))
  : Option Bool).bind λ t2 =>
 if t2=true then
  some (decide (n_1=0))
 else
  if k_0=2 then
   some (decide (1≤n_1))
  else
   (
     if k_0=4 then
      some true
     else
      some (decide (k_0=6))
    : Option Bool).bind λ t6 =>
   if t6=true then
    some (decide (n_1=1))
   else
    (
      if k_0=5 then
       some true
      else
       some (decide (k_0=7))
     : Option Bool).bind λ t9 =>
    if t9=true then
     some (decide (n_1=2))
    else
     if k_0=8 then
      some (decide (n_1=3))
     else
      (
        if k_0=9 then
         some true
        else
         some (decide (k_0=10))
       : Option Bool).bind λ t13 =>
      if t13=true then
       some true
      else
       if k_0=11 then
        ck ((2:Int)≠0) <|
        some (decide (n_1.tmod 2=0))
       else
        if k_0=12 then
         (
           if n_1=2 then
            some true
           else
            some (decide (n_1=3))
          : Option Bool).bind λ t19 =>
         some t19
        else
         if k_0=13 then
          (
            if n_1=3 then
             some true
            else
             some (decide (n_1=4))
           : Option Bool).bind λ t22 =>
          some t22
         else
          some false
def jV (v_0:ah):Option Bool :=
 (
   if v_0.fKind=0 then
    if v_0.fNum=0 then
     if v_0.fStr=([]:Bytes) then
      if (v_0.fItems.length:Int)=0 then
       some (decide ((v_0.fKeys.length:Int)=0))
      else
       some false
     else
      some false
    else
     some false
   else
    some false
  : Option Bool).bind λ t5 =>
 some t5
def gR (e_0:ac):Option Bool :=
 (
   (ip e_0.fKind (e_0.fKids.length:Int)).bind λ r1 =>
   if (!r1)=true then
    some true
   else
    (io e_0.fKind).bind λ r4 =>
    if (!r4)=true then
     if e_0.fKey=([]:Bytes) then
      (jz e_0.fKind).bind λ r8 =>
      if (!r8)=true then
       some (!decide (e_0.fName=([]:Bytes)))
      else
       some false
     else
      some true
    else
     (jz e_0.fKind).bind λ r11 =>
     if (!r11)=true then
      some (!decide (e_0.fName=([]:Bytes)))
     else
      some false
  : Option Bool).bind λ t14 =>
 if t14=true then
  some false
 else
  if e_0.fKind=1 then
   (
     if e_0.fOp=0 then
      if e_0.fValue.fKind=0 then
       some true
      else
       if e_0.fValue.fKind=1 then
        some true
       else
        if e_0.fValue.fKind=3 then
         some true
        else
         if e_0.fValue.fKind=2 then
          some (decide (0≤e_0.fValue.fNum))
         else
          some false
     else
      some false
    : Option Bool).bind λ t22 =>
   some t22
  else
   (jV e_0.fValue).bind λ r23 =>
   if (!r23)=true then
    some false
   else
    if e_0.fKind=6 then
     (
       if e_0.fOp=1 then
        some true
       else
        some (decide (e_0.fOp=2))
      : Option Bool).bind λ t28 =>
     some t28
    else
     if e_0.fKind=7 then
      (
        if 3≤e_0.fOp then
         some (decide (e_0.fOp≤15))
        else
         some false
       : Option Bool).bind λ t31 =>
      some t31
     else
      some (decide (e_0.fOp=0))
end Go.Ab.R06
end
section
namespace Go.Ab.R06
open Go.Ab Go.Ab.RB Go.Lib
theorem ckT {α:Type}(x:Option α):ck True x=x:=bS trivial
theorem CG (v:ah)(h:v.fItems.length+v.fKeys.length≤1000000000000000):iy v=jV v:=by
 unfold iy jV
 by_cases h1:v.fKind=0
 ·by_cases h2:v.fNum=0
  ·by_cases h3:v.fStr=[]
   ·simp only [if_pos h1,if_pos h2,if_pos h3]
    rw [bS (aI O O)]
    by_cases h4:(v.fItems.length:Int)=0
    ·rw [if_pos h4]
     simp only [Option.bind_some,Option.some.injEq,decide_eq_decide]; omega
    ·rw [if_neg h4]
     simp only [Option.bind_some,Option.some.injEq,decide_eq_false_iff_not]; omega
   ·simp only [if_pos h1,if_pos h2,if_neg h3]
  ·simp only [if_pos h1,if_neg h2]
 ·simp only [if_neg h1]
theorem D7 (v:ah):∃ b,jV v=some b:=by
 unfold jV
 repeat' split
 all_goals exact ⟨_,Z⟩
theorem sN (e:ac)(h:e.fValue.fItems.length+e.fValue.fKeys.length≤1000000000000000):gh e=gR e:=by
 obtain ⟨z,hz⟩:=D7 e.fValue
 have hz':=(CG e.fValue h).trans hz
 unfold gh gR hZ
 rw [hz,hz']
 clear hz hz' h
 have hk0:0≤(e.fKids.length:Int):=by omega
 have hp:(e.fKids.length:Int).tmod 2=0∨(e.fKids.length:Int).tmod 2=1:=by
  have:=Int.emod_two_eq (e.fKids.length:Int)
  rwa [Int.tmod_eq_emod_of_nonneg hk0]
 generalize (e.fKids.length:Int)=m at hk0 hp ⊢
 generalize e.fKind=k
 generalize e.fOp=op
 generalize e.fValue.fKind=vk
 generalize e.fValue.fNum=vn
 generalize e.fName=name
 generalize e.fKey=key
 by_cases hr:k < 1∨13 < k
 ·have e2:ip k m=some false:=by
   unfold ip
   simp only [show ¬ k=1 by omega,show ¬ k=2 by omega,show ¬ k=3 by omega,show ¬ k=4 by omega,show ¬ k=5 by omega,show ¬ k=6 by omega,show ¬ k=7 by omega,show ¬ k=8 by omega,show ¬ k=9 by omega,show ¬ k=10 by omega,show ¬ k=11 by omega,show ¬ k=12 by omega,show ¬ k=13 by omega,if_false,decide_false,Option.bind_some,Bool.false_eq_true]
  rw [e2]
  by_cases q:k < 1
  ·rw [if_pos q]; rfl
  ·rw [if_neg q,if_pos O]; rfl
 ·have hk:k=1∨k=2∨k=3∨k=4∨k=5∨k=6∨k=7∨k=8∨k=9∨k=10∨k=11∨k=12∨k=13:=by omega
  unfold ik iY mX ip io jz
  unfold io
  by_cases hn:name=[] <;> by_cases hke:key=[] <;> cases z <;> rcases hp with hp | hp
  all_goals (rcases hk with rfl | rfl | rfl | rfl | rfl | rfl | rfl | rfl | rfl | rfl | rfl | rfl | rfl)
  all_goals (simp [hn,hke,hp,ckT]; try done)
  all_goals (repeat' split)
  all_goals (try (simp_all; done))
  all_goals (try omega)
  all_goals (try simp_all)
  all_goals (repeat' split)
  all_goals (try (simp_all; done))
  all_goals (try omega)
end Go.Ab.R06
end
section
namespace Go.Ab.R06
open Go.Ab Go.Ab.RB
theorem Aq (s:Bytes)(hs:s.length≤1000000000000000):∀ (k i:Nat),i+k=s.length→Ev2 (λ _ m=>ca s m (i:Int)) (·=if pM (vJ s) i k then .inl () else .inr false):=by
 intro k
 induction k with
 | zero =>
  intro i hi
  refine aZ ?_
  simp only [ca]
  refine ag O (ab Z)
 | succ k ih =>
  intro i hi
  refine aZ ?_
  simp only [ca]
  refine ai O (av O ?_)
  have hb:byt s i=((s.getD i 0).toNat:Int):=gi s i
  rw [hb]
  have hor:=EI (s.getD i 0)
  have hok:=oW s i
  rw [ln,j3] at hok
  refine am (!vJ s i) ?_ ?_
  ·generalize s.getD i 0=b at hor hok ⊢
   generalize vJ s i=o at hok ⊢
   generalize iOr .u8 ((b.toNat:Nat):Int) 32=v at hor ⊢
   have hT:(ji b=true)→o=true:=λ h=>hok.2 (.inl ((ln b).1 h))
   have mk:∀ x:Bool,(x=true↔¬ (((97≤b.toNat∧b.toNat≤122)∨(65≤b.toNat∧b.toNat≤90)∨b.toNat=95)∨(i≠0∧48≤b.toNat∧b.toNat≤57)))→x=!o:=λ x hx=>eqB (by rw [hx,← hok]; simp)
   refine av O (aK (λ h=>ab (mk _ ?_)) (λ h=>aK (λ h1=>?_) (λ h1=>aK (λ h2=>?_) (λ h2=>ab (mk _ ?_)))))
   ·simp; omega
   ·refine aK (λ h3=>ab (mk _ ?_)) (λ h3=>av O (aK (λ h4=>ab (mk _ ?_)) (λ h4=>av O (ab (mk _ ?_)))))
    ·simp; omega
    ·simp; omega
    ·rw [decide_eq_true_eq]; omega
   ·refine aK (λ h3=>ab (mk _ ?_)) (λ h3=>av O (aK (λ h4=>ab (mk _ ?_)) (λ h4=>av O (ab (mk _ ?_)))))
    ·simp; omega
    ·simp; omega
    ·rw [decide_eq_true_eq]; omega
   ·simp; omega
  ·cases hk:vJ s i with
   | false=>exact ai G (ab (by simp [pM,hk]))
   | true =>
    refine ag G (av (aI O O) ?_)
    have:=ih (i+1) O
    rw [Int.natCast_add,Int.natCast_one] at this
    simpa [pM,hk] using this
theorem uV (s:Bytes)(hs:s.length≤1000000000000000):Ev2 (λ n _=>dB n s) (·=gX s):=by
 simp only [dB]
 have h:=Aq s hs s.length 0 O
 have hi:=wB s
 cases ha:pM (vJ s) 0 s.length with
 | false =>
  rw [ha] at h hi
  refine jB false (bT h) (eqB ?_)
  rw [hi]; simp
 | true =>
  rw [ha] at h hi
  refine f0 () (bT h) ?_
  refine af (·=gX s) (aK (λ h=>ab (eqB ?_)) (λ h=>ab (eqB ?_))) (λ t ht=>ab ht)
  ·rw [hi]; simp [h]
  ·rw [hi,decide_eq_true_eq]; simp [h]; omega
end Go.Ab.R06
end
section
namespace Go.Ab.R06
open Go.Ab Go.Ab.RB Go.Lib
theorem t31:(List.range 256).all (λ n=>dx .u8 (n:Int) 31 == ((n % 32:Nat):Int))=true:=by kernel_rfl
theorem t15:(List.range 256).all (λ n=>dx .u8 (n:Int) 15 == ((n % 16:Nat):Int))=true:=by kernel_rfl
theorem t7:(List.range 256).all (λ n=>dx .u8 (n:Int) 7 == ((n % 8:Nat):Int))=true:=by kernel_rfl
theorem or64 (a b:Nat)(ha:a < 4611686018427387904)(hb:b < 4611686018427387904):iOr .i64 (a:Int) (b:Int)=((a ||| b:Nat):Int):=by
 have hlt:a ||| b < 4611686018427387904:=Nat.or_lt_two_pow (n:=62) ha hb
 have e1:(BitVec.ofInt 64 (a:Int)).toNat=a:=by
  rw [BitVec.toNat_ofInt]; omega
 have e2:(BitVec.ofInt 64 (b:Int)).toNat=b:=by
  rw [BitVec.toNat_ofInt]; omega
 show IntKind.wrap .i64 (((BitVec.ofInt 64 (a:Int)) ||| (BitVec.ofInt 64 (b:Int))).toNat:Nat)=_
 rw [BitVec.toNat_or,e1,e2]
 simp [IntKind.wrap,IntKind.bits,IntKind.signed]
 omega
theorem sc (a b k:Nat)(ha:a*2 ^ k < 4611686018427387904)(hb:b < 2 ^ k)(hk:k≤20):iOr .i64 ((a*2 ^ k:Nat):Int) (b:Int)=((a*2 ^ k+b:Nat):Int):=by
 have hp:2 ^ k≤2 ^ 20:=Nat.pow_le_pow_right (by decide) hk
 have h20:(2:Nat) ^ 20=1048576:=rfl
 rw [or64 _ _ ha O]
 have:=Nat.shiftLeft_add_eq_or_of_lt hb a
 rw [Nat.shiftLeft_eq] at this
 rw [← this]
theorem sK (a k:Nat)(hk:k≤20)(ha:a*2 ^ k < 4611686018427387904):kj .i64 (a:Int) (k:Int)=((a*2 ^ k:Nat):Int):=by
 have:min (k:Int).toNat IntKind.i64.bits=k:=by
  have:IntKind.i64.bits=64:=rfl
  rw [this]; omega
 unfold kj
 rw [this]
 have e:(a:Int)*2 ^ k=((a*2 ^ k:Nat):Int):=by push_cast; rfl
 rw [e]
 generalize a*2 ^ k=v at ha
 simp [IntKind.wrap,IntKind.bits,IntKind.signed]
 omega
def Fi (l:Bytes):Int×Int:=if (decodeL l).1=65533∧(decodeL l).2=1 then (0,0) else (((decodeL l).1:Int),((decodeL l).2:Int))
theorem De (s:Bytes)(j:Nat)(lo hi:Int):eN s (j:Int) lo hi=some (decide (j < s.length∧lo≤((s.getD j 0).toNat:Int)∧((s.getD j 0).toNat:Int)≤hi)):=by
 unfold eN
 have hb:byt s (j:Int)=((s.getD j 0).toNat:Int):=gi s j
 rw [hb]
 by_cases h:j < s.length
 ·rw [if_pos O,bS O]
  by_cases h2:lo≤((s.getD j 0).toNat:Int)
  ·rw [if_pos h2,bS O]
   refine congrArg some (eqB ?_)
   rw [decide_eq_true_eq,decide_eq_true_eq]
   exact ⟨λ q=>⟨h,h2,q⟩,λ q=>q.2.2⟩
  ·rw [if_neg h2,Option.bind_some]
   symm; rw [Option.some.injEq,decide_eq_false_iff_not]
   exact λ q=>h2 q.2.1
 ·rw [if_neg O]; simp [h]
set_option maxHeartbeats 8000000 in
theorem wQ (s:Bytes)(i:Nat)(hi:i < s.length)(hs:s.length≤1000000000):lM s (i:Int)=some (Fi (s.drop i)):=by
 have hg:∀ k,(s.drop i).getD k 0=s.getD (i+k) 0:=λ k=>by
  rw [List.getD_eq_getElem?_getD,List.getElem?_drop,List.getD_eq_getElem?_getD]
 unfold lM Fi
 rw [decodeL_N,hg,hg,hg,hg,Nat.add_zero,List.length_drop]
 have b:∀ k:Nat,byt s ((i:Int)+k)=((s.getD (i+k) 0).toNat:Int):=λ k=>by
  rw [show (i:Int)+(k:Int)=((i+k:Nat):Int) by omega]; exact gi s (i+k)
 have c:∀ (k:Nat) lo hi,eN s ((i:Int)+k) lo hi=some (decide (k < s.length - i∧lo≤((s.getD (i+k) 0).toNat:Int)∧((s.getD (i+k) 0).toNat:Int)≤hi)):=λ k lo hi=>by
  rw [show (i:Int)+(k:Int)=((i+k:Nat):Int) by omega,De]
  refine congrArg some (eqB ?_)
  rw [decide_eq_true_eq,decide_eq_true_eq]
  constructor
  ·rintro ⟨h1,h2⟩; exact ⟨by omega,h2⟩
  ·rintro ⟨h1,h2⟩; exact ⟨by omega,h2⟩
 have b0:byt s (i:Int)=((s.getD i 0).toNat:Int):=gi s i
 have b1:byt s ((i:Int)+1)=((s.getD (i+1) 0).toNat:Int):=b 1
 have b2:byt s ((i:Int)+2)=((s.getD (i+2) 0).toNat:Int):=b 2
 have b3:byt s ((i:Int)+3)=((s.getD (i+3) 0).toNat:Int):=b 3
 have c1:∀ lo hi,eN s ((i:Int)+1) lo hi=_:=c 1
 have c2:∀ lo hi,eN s ((i:Int)+2) lo hi=_:=c 2
 have c3:∀ lo hi,eN s ((i:Int)+3) lo hi=_:=c 3
 simp only [b0,b1,b2,b3,c1,c2,c3]
 obtain ⟨n,hn⟩:∃ n,s.length=i+n:=⟨s.length - i,by omega⟩
 have hn1:s.length - i=n:=by omega
 have hlen:(s.length:Int)=(i:Int)+n:=by omega
 rw [hn1,hlen]
 have l0:=(s.getD i 0).toNat_lt
 have l1:=(s.getD (i+1) 0).toNat_lt
 have l2:=(s.getD (i+2) 0).toNat_lt
 have l3:=(s.getD (i+3) 0).toNat_lt
 generalize (s.getD i 0).toNat=B0 at l0 ⊢
 generalize (s.getD (i+1) 0).toNat=B1 at l1 ⊢
 generalize (s.getD (i+2) 0).toNat=B2 at l2 ⊢
 generalize (s.getD (i+3) 0).toNat=B3 at l3 ⊢
 have hnp:0 < n:=by omega
 have hnb:n≤1000000000:=by omega
 have hib:i≤1000000000:=by omega
 clear hg b c b0 b1 b2 b3 c1 c2 c3 hn1 hlen hn hi hs
 have a31:dx .u8 (B0:Int) 31=((B0 % 32:Nat):Int):=tab t31 B0 O
 have a15:dx .u8 (B0:Int) 15=((B0 % 16:Nat):Int):=tab t15 B0 O
 have a7:dx .u8 (B0:Int) 7=((B0 % 8:Nat):Int):=tab t7 B0 O
 have a1:dx .u8 (B1:Int) 63=((B1 % 64:Nat):Int):=tab t63 B1 O
 have a2:dx .u8 (B2:Int) 63=((B2 % 64:Nat):Int):=tab t63 B2 O
 have a3:dx .u8 (B3:Int) 63=((B3 % 64:Nat):Int):=tab t63 B3 O
 have two:iOr .i64 (kj .i64 ((B0 % 32:Nat):Int) 6) ((B1 % 64:Nat):Int)=((B0 % 32*64+B1 % 64:Nat):Int):=by
  have h1:kj .i64 ((B0 % 32:Nat):Int) 6=((B0 % 32*2 ^ 6:Nat):Int):=sK _ 6 (by decide) O
  rw [h1]
  exact sc _ _ 6 O O  (by decide)
 have three:iOr .i64 (iOr .i64 (kj .i64 ((B0 % 16:Nat):Int) 12) (kj .i64 ((B1 % 64:Nat):Int) 6)) ((B2 % 64:Nat):Int)=((B0 % 16*4096+B1 % 64*64+B2 % 64:Nat):Int):=by
  have h1:kj .i64 ((B0 % 16:Nat):Int) 12=((B0 % 16*2 ^ 12:Nat):Int):=sK _ 12 (by decide) O
  have h2:kj .i64 ((B1 % 64:Nat):Int) 6=((B1 % 64*2 ^ 6:Nat):Int):=sK _ 6 (by decide) O
  have h3:=sc (B0 % 16) (B1 % 64*2 ^ 6) 12 O O  (by decide)
  have h4:=sc (B0 % 16*64+B1 % 64) (B2 % 64) 6 O O  (by decide)
  rw [h1,h2,h3,show B0 % 16*2 ^ 12+B1 % 64*2 ^ 6=(B0 % 16*64+B1 % 64)*2 ^ 6 by omega,h4]
 have four:iOr .i64 (iOr .i64 (iOr .i64 (kj .i64 ((B0 % 8:Nat):Int) 18) (kj .i64 ((B1 % 64:Nat):Int) 12)) (kj .i64 ((B2 % 64:Nat):Int) 6)) ((B3 % 64:Nat):Int)=((B0 % 8*262144+B1 % 64*4096+B2 % 64*64+B3 % 64:Nat):Int):=by
  have h1:kj .i64 ((B0 % 8:Nat):Int) 18=((B0 % 8*2 ^ 18:Nat):Int):=sK _ 18 (by decide) O
  have h2:kj .i64 ((B1 % 64:Nat):Int) 12=((B1 % 64*2 ^ 12:Nat):Int):=sK _ 12 (by decide) O
  have h2':kj .i64 ((B2 % 64:Nat):Int) 6=((B2 % 64*2 ^ 6:Nat):Int):=sK _ 6 (by decide) O
  have h3:=sc (B0 % 8) (B1 % 64*2 ^ 12) 18 O O  (by decide)
  have h4:=sc (B0 % 8*64+B1 % 64) (B2 % 64*2 ^ 6) 12 O O  (by decide)
  have h5:=sc (B0 % 8*4096+B1 % 64*64+B2 % 64) (B3 % 64) 6 O O  (by decide)
  rw [h1,h2,h2',h3,show B0 % 8*2 ^ 18+B1 % 64*2 ^ 12=(B0 % 8*64+B1 % 64)*2 ^ 12 by omega,h4,show (B0 % 8*64+B1 % 64)*2 ^ 12+B2 % 64*2 ^ 6=(B0 % 8*4096+B1 % 64*64+B2 % 64)*2 ^ 6 by omega,h5]
 rw [a31,a15,a7,a1,a2,a3,two,three,four]
 have i1:inR ((i:Int)+1):=aI O O
 have i2:inR ((i:Int)+2):=aI O O
 have i3:inR ((i:Int)+3):=aI O O
 have e0:((if (i:Int) < 0 then some true else some (decide ((i:Int)+n≤i))):Option Bool)=some false:=by
  rw [if_neg O]; simp; omega
 rw [e0,Option.bind_some,if_neg G,bS O]
 unfold decodeN
 by_cases h0:B0 < 128
 ·rw [if_pos (show (B0:Int) < 128 by omega),bS (aI O O),if_pos h0]
  simp only
  rw [if_neg O]; rfl
 rw [if_neg (show ¬ (B0:Int) < 128 by omega),if_neg h0]
 have e12:((if 194≤(B0:Int) then if (B0:Int)≤223 then ck (inR ((i:Int)+1)) <| (some (decide (1 < n∧(128:Int)≤(B1:Int)∧(B1:Int)≤191))).bind λ r10=>some r10 else some false else some false):Option Bool)=some (decide (194≤B0∧B0≤223∧1 < n∧128≤B1∧B1≤191)):=by
  by_cases q1:194≤B0
  ·rw [if_pos O]
   by_cases q2:B0≤223
   ·rw [if_pos O,bS i1,Option.bind_some]
    refine congrArg some (eqB ?_)
    rw [decide_eq_true_eq,decide_eq_true_eq]; omega
   ·rw [if_neg O]; simp; omega
  ·rw [if_neg O]; simp; omega
 rw [e12,Option.bind_some]
 by_cases h12:194≤B0∧B0≤223∧1 < n∧128≤B1∧B1≤191
 ·rw [if_pos (by simp only [decide_eq_true_eq]; exact h12),bS (aI O O),bS O,bS i1,bS O,bS (aI O O)]
  rw [if_pos (show B0 / 32=6∧1 < n∧B1 / 64=2 by omega),if_pos (show B0 % 32*64+B1 % 64 ≥ 128 by omega)]
  show some _=some (if B0 % 32*64+B1 % 64=65533∧_ then _ else _)
  rw [if_neg O]; rfl
 rw [if_neg (by simp only [decide_eq_true_eq]; exact h12)]
 have hlo:((if (B0:Int)=224 then some 160 else some 128):Option Int)=some (if B0=224 then 160 else 128):=by
  by_cases q:B0=224
  ·rw [if_pos O,if_pos q]
  ·rw [if_neg O,if_neg q]
 have hhi:((if (B0:Int)=237 then some 159 else some 191):Option Int)=some (if B0=237 then 159 else 191):=by
  by_cases q:B0=237
  ·rw [if_pos O,if_pos q]
  ·rw [if_neg O,if_neg q]
 have hlo4:((if (B0:Int)=240 then some 144 else some 128):Option Int)=some (if B0=240 then 144 else 128):=by
  by_cases q:B0=240
  ·rw [if_pos O,if_pos q]
  ·rw [if_neg O,if_neg q]
 have hhi4:((if (B0:Int)=244 then some 143 else some 191):Option Int)=some (if B0=244 then 143 else 191):=by
  by_cases q:B0=244
  ·rw [if_pos O,if_pos q]
  ·rw [if_neg O,if_neg q]
 rw [hlo,Option.bind_some,hhi,Option.bind_some]
 have e32:∀ lo hi:Int,((if 224≤(B0:Int) then if (B0:Int)≤239 then ck (inR ((i:Int)+1)) <| (some (decide (1 < n∧lo≤(B1:Int)∧(B1:Int)≤hi))).bind λ r26=>if r26=true then ck (inR ((i:Int)+2)) <| (some (decide (2 < n∧(128:Int)≤(B2:Int)∧(B2:Int)≤191))).bind λ r30=>some r30 else some false else some false else some false):Option Bool)
   = some (decide (224≤B0∧B0≤239∧(1 < n∧lo≤(B1:Int)∧(B1:Int)≤hi)∧2 < n∧128≤B2∧B2≤191)):=by
  intro lo hi
  by_cases q1:224≤B0
  ·rw [if_pos O]
   by_cases q2:B0≤239
   ·rw [if_pos O,bS i1,Option.bind_some]
    by_cases q3:1 < n∧lo≤(B1:Int)∧(B1:Int)≤hi
    ·rw [if_pos (by simp only [decide_eq_true_eq]; exact q3),bS i2,Option.bind_some]
     refine congrArg some (eqB ?_)
     rw [decide_eq_true_eq,decide_eq_true_eq]
     constructor
     ·intro q; exact ⟨q1,q2,q3,by omega⟩
     ·intro q; have:=q.2.2.2; omega
    ·rw [if_neg (by simp only [decide_eq_true_eq]; exact q3)]
     symm; rw [Option.some.injEq,decide_eq_false_iff_not]
     intro q; exact q3 q.2.2.1
   ·rw [if_neg O]
    symm; rw [Option.some.injEq,decide_eq_false_iff_not]
    intro q; exact q2 q.2.1
  ·rw [if_neg O]
   symm; rw [Option.some.injEq,decide_eq_false_iff_not]
   intro q; exact q1 q.1
 rw [e32,Option.bind_some]
 by_cases h32:224≤B0∧B0≤239∧(1 < n∧(if B0=224 then 160 else 128)≤(B1:Int)∧(B1:Int)≤(if B0=237 then 159 else 191))∧2 < n∧128≤B2∧B2≤191
 ·rw [if_pos (by simp only [decide_eq_true_eq]; exact h32)]
  obtain ⟨k1,k2,⟨k3,k4,k5⟩,k6,k7,k8⟩:=h32
  have k4':128≤B1∧(B0=224→160≤B1):=by split at k4 <;> omega
  have k5':B1≤191∧(B0=237→B1≤159):=by split at k5 <;> omega
  clear k4 k5
  repeat rw [bS (by first | exact i1 | exact i2 | omega | exact aI O O)]
  rw [if_neg (show ¬ (B0 / 32=6∧1 < n∧B1 / 64=2) by omega),if_pos (show B0 / 16=14∧(1 < n∧B1 / 64=2)∧2 < n∧B2 / 64=2 by omega),if_pos (show B0 % 16*4096+B1 % 64*64+B2 % 64 ≥ 2048∧(B0 % 16*4096+B1 % 64*64+B2 % 64 < 55296∨57344≤B0 % 16*4096+B1 % 64*64+B2 % 64∧B0 % 16*4096+B1 % 64*64+B2 % 64≤1114111) by omega)]
  show some _=some (if B0 % 16*4096+B1 % 64*64+B2 % 64=65533∧(3:Nat)=1 then _ else _)
  rw [if_neg O]; rfl
 rw [if_neg (by simp only [decide_eq_true_eq]; exact h32)]
 rw [hlo4,Option.bind_some,hhi4,Option.bind_some]
 have h32':¬ (224≤B0∧B0≤239∧1 < n∧(B0=224→160≤B1)∧128≤B1∧B1≤191∧(B0=237→B1≤159)∧2 < n∧128≤B2∧B2≤191):=by
  rintro ⟨k1,k2,k3,k4,k5,k6,k7,k8⟩
  exact h32 ⟨k1,k2,⟨k3,by split <;> omega,by split <;> omega⟩,k8⟩
 clear h32 e32
 have e60:∀ lo hi:Int,((if 240≤(B0:Int) then if (B0:Int)≤244 then ck (inR ((i:Int)+1)) <| (some (decide (1 < n∧lo≤(B1:Int)∧(B1:Int)≤hi))).bind λ r50=>if r50=true then ck (inR ((i:Int)+2)) <| (some (decide (2 < n∧(128:Int)≤(B2:Int)∧(B2:Int)≤191))).bind λ r54=>if r54=true then ck (inR ((i:Int)+3)) <| (some (decide (3 < n∧(128:Int)≤(B3:Int)∧(B3:Int)≤191))).bind λ r58=>some r58 else some false else some false else some false else some false):Option Bool)
   = some (decide (240≤B0∧B0≤244∧(1 < n∧lo≤(B1:Int)∧(B1:Int)≤hi)∧(2 < n∧128≤B2∧B2≤191)∧3 < n∧128≤B3∧B3≤191)):=by
  intro lo hi
  by_cases q1:240≤B0
  ·rw [if_pos O]
   by_cases q2:B0≤244
   ·rw [if_pos O,bS i1,Option.bind_some]
    by_cases q3:1 < n∧lo≤(B1:Int)∧(B1:Int)≤hi
    ·rw [if_pos (by simp only [decide_eq_true_eq]; exact q3),bS i2,Option.bind_some]
     by_cases q4:2 < n∧128≤B2∧B2≤191
     ·rw [if_pos (by simp only [decide_eq_true_eq]; omega),bS i3,Option.bind_some]
      refine congrArg some (eqB ?_)
      rw [decide_eq_true_eq,decide_eq_true_eq]
      constructor
      ·intro q; exact ⟨q1,q2,q3,q4,by omega⟩
      ·intro q; have:=q.2.2.2.2; omega
     ·rw [if_neg (by simp only [decide_eq_true_eq]; omega)]
      symm; rw [Option.some.injEq,decide_eq_false_iff_not]
      intro q; exact q4 q.2.2.2.1
    ·rw [if_neg (by simp only [decide_eq_true_eq]; exact q3)]
     symm; rw [Option.some.injEq,decide_eq_false_iff_not]
     intro q; exact q3 q.2.2.1
   ·rw [if_neg O]
    symm; rw [Option.some.injEq,decide_eq_false_iff_not]
    intro q; exact q2 q.2.1
  ·rw [if_neg O]
   symm; rw [Option.some.injEq,decide_eq_false_iff_not]
   intro q; exact q1 q.1
 rw [e60,Option.bind_some]
 by_cases h60:240≤B0∧B0≤244∧(1 < n∧(if B0=240 then 144 else 128)≤(B1:Int)∧(B1:Int)≤(if B0=244 then 143 else 191))∧(2 < n∧128≤B2∧B2≤191)∧3 < n∧128≤B3∧B3≤191
 ·rw [if_pos (by simp only [decide_eq_true_eq]; exact h60)]
  obtain ⟨k1,k2,⟨k3,k4,k5⟩,⟨k6,k7,k8⟩,k9,k10,k11⟩:=h60
  have k4':128≤B1∧(B0=240→144≤B1):=by split at k4 <;> omega
  have k5':B1≤191∧(B0=244→B1≤143):=by split at k5 <;> omega
  clear k4 k5
  repeat rw [bS (by first | exact i1 | exact i2 | exact i3 | omega | exact aI O O)]
  rw [if_neg (show ¬ (B0 / 32=6∧1 < n∧B1 / 64=2) by omega),if_neg (show ¬ (B0 / 16=14∧(1 < n∧B1 / 64=2)∧2 < n∧B2 / 64=2) by omega),if_pos (show B0 / 8=30∧(1 < n∧B1 / 64=2)∧(2 < n∧B2 / 64=2)∧3 < n∧B3 / 64=2 by omega)]
  generalize hv:B0 % 8*262144+B1 % 64*4096+B2 % 64*64+B3 % 64=v
  rw [if_pos (show v ≥ 65536∧(v < 55296∨57344≤v∧v≤1114111) by omega)]
  show some _=some (if v=65533∧(4:Nat)=1 then _ else _)
  rw [if_neg O]; rfl
 rw [if_neg (by simp only [decide_eq_true_eq]; exact h60)]
 have h60':¬ (240≤B0∧B0≤244∧1 < n∧(B0=240→144≤B1)∧128≤B1∧B1≤191∧(B0=244→B1≤143)∧2 < n∧128≤B2∧B2≤191∧3 < n∧128≤B3∧B3≤191):=by
  rintro ⟨k1,k2,k3,k4,k5,k6,k7,k8,k9,k10,k11⟩
  exact h60 ⟨k1,k2,⟨k3,by split <;> omega,by split <;> omega⟩,⟨k8,k9,k10⟩,k11⟩
 clear h60 e60
 symm
 refine congrArg some (if_pos ?_)
 repeat' split
 all_goals first | exact ⟨Z,Z⟩ | (exfalso; omega)
theorem zq (s:Bytes)(hs:s.length≤1000000000):∀ (k i:Nat),s.length - i < k→i≤s.length→Ev2 (λ _ m=>iD s m (i:Int)) (·=if validD (s.drop i)=true then .inl () else .inr false):=by
 intro k
 induction k with
 | zero=>intro i h; omega
 | succ k ih =>
  intro i hk hi
  refine aZ ?_
  simp only [iD]
  by_cases h:i < s.length
  ·have hne:s.drop i≠[]:=by intro q; have:=congrArg List.length q; rw [List.length_drop] at this; simp at this; omega
   refine ai O (am _ (ao (wQ s i h hs) Z) ?_)
   have hv:=wg _ hne
   have hdf:=gT _ hne
   rw [List.length_drop] at hdf
   unfold Fi
   by_cases q:(decodeL (s.drop i)).1=65533∧(decodeL (s.drop i)).2=1
   ·rw [if_pos q]
    refine ai Z (ab ?_)
    rw [if_neg (λ z=>((hv.1 z).1 q))]
   ·rw [if_neg q]
    refine ag (by simp only; omega) (av (aI (by simp only; omega) (by simp only; omega)) ?_)
    have:=ih (i+(decodeL (s.drop i)).2) O O
    rw [Int.natCast_add] at this
    refine cn this λ r hr=>?_
    rw [hr,← List.drop_drop]
    by_cases z:validD ((s.drop i).drop (decodeL (s.drop i)).2)=true
    ·rw [if_pos z,if_pos (hv.2 ⟨q,z⟩)]
    ·rw [if_neg z,if_neg (λ y=>z (hv.1 y).2)]
  ·refine ag O (ab ?_)
   rw [List.drop_of_length_le O,if_pos validD_nil]
theorem yQ (s:Bytes)(hs:s.length≤1000000000):Ev2 (λ n _=>mu n s) (·=(decide (s.length≤4096)&&validD s)):=by
 simp only [mu]
 refine aK (λ h=>ab ?_) (λ h=>?_)
 ·have:¬ s.length≤4096:=by omega
  simp [this]
 ·have h':s.length≤4096:=by omega
  have l:=zq s hs (s.length+1) 0 O O
  rw [List.drop_zero] at l
  cases hv:validD s with
  | true=>rw [hv] at l; exact f0 () (bT l) (ab (by simp [h']))
  | false=>rw [hv] at l; exact jB false (bT l) G
theorem drop_at (s:Bytes){i:Nat}(h:i < s.length):s.drop i=s.getD i 0::s.drop (i+1):=by
 rw [List.getD_eq_getElem?_getD,List.getElem?_eq_getElem h,Option.getD_some]
 exact List.drop_eq_getElem_cons h
theorem EW (b:UInt8)(r:Bytes)(h:128≤b.toNat):128≤(decodeL (b::r)).1:=by
 have hN:=decN (b::r).length ((b::r).getD 0 0).toNat ((b::r).getD 1 0).toNat ((b::r).getD 2 0).toNat ((b::r).getD 3 0).toNat G (UInt8.toNat_lt _)
 rw [← decodeL_N] at hN
 rcases Nat.lt_or_ge (decodeL (b::r)).1 128 with q | q
 ·have:=(hN.2.2.2.1 q).2
  have hb0:((b::r).getD 0 0).toNat=b.toNat:=rfl
  omega
 ·exact q
end Go.Ab.R06
end
section
namespace Go.Ab
set_option autoImplicit false
inductive ah.Bd:ah→Prop where
 | mk {x:ah} (bKind:inR x.fKind) (bNum:inR x.fNum) (bStr:x.fStr.length≤gC) (bItems:x.fItems.length*80≤gC) (eItems:∀ y∈x.fItems,ah.Bd y) (bKeys:x.fKeys.length*16≤gC) (eKeys:∀ y∈x.fKeys,y.length≤gC):ah.Bd x
theorem ah.Bd.bKind {x:ah}(h:ah.Bd x):inR x.fKind:=by cases h; assumption
theorem ah.Bd.bNum {x:ah}(h:ah.Bd x):inR x.fNum:=by cases h; assumption
theorem ah.Bd.bStr {x:ah}(h:ah.Bd x):x.fStr.length≤gC:=by cases h; assumption
theorem ah.Bd.bItems {x:ah}(h:ah.Bd x):x.fItems.length*80≤gC:=by cases h; assumption
theorem ah.Bd.eItems {x:ah}(h:ah.Bd x):∀ y∈x.fItems,ah.Bd y:=by cases h; assumption
theorem ah.Bd.bKeys {x:ah}(h:ah.Bd x):x.fKeys.length*16≤gC:=by cases h; assumption
theorem ah.Bd.eKeys {x:ah}(h:ah.Bd x):∀ y∈x.fKeys,y.length≤gC:=by cases h; assumption
inductive ac.Bd:ac→Prop where
 | mk {x:ac} (bKind:inR x.fKind) (bOp:inR x.fOp) (bName:x.fName.length≤gC) (bKey:x.fKey.length≤gC) (bValue:ah.Bd x.fValue) (bKids:x.fKids.length*160≤gC) (eKids:∀ y∈x.fKids,ac.Bd y) (bAt:inR x.fAt):ac.Bd x
theorem ac.Bd.bKind {x:ac}(h:ac.Bd x):inR x.fKind:=by cases h; assumption
theorem ac.Bd.bOp {x:ac}(h:ac.Bd x):inR x.fOp:=by cases h; assumption
theorem ac.Bd.bName {x:ac}(h:ac.Bd x):x.fName.length≤gC:=by cases h; assumption
theorem ac.Bd.bKey {x:ac}(h:ac.Bd x):x.fKey.length≤gC:=by cases h; assumption
theorem ac.Bd.bValue {x:ac}(h:ac.Bd x):ah.Bd x.fValue:=by cases h; assumption
theorem ac.Bd.bKids {x:ac}(h:ac.Bd x):x.fKids.length*160≤gC:=by cases h; assumption
theorem ac.Bd.eKids {x:ac}(h:ac.Bd x):∀ y∈x.fKids,ac.Bd y:=by cases h; assumption
theorem ac.Bd.bAt {x:ac}(h:ac.Bd x):inR x.fAt:=by cases h; assumption
inductive ax.Bd:ax→Prop where
 | mk {x:ax} (bKind:inR x.fKind) (bAt:inR x.fAt) (bName:x.fName.length≤gC):ax.Bd x
theorem ax.Bd.bKind {x:ax}(h:ax.Bd x):inR x.fKind:=by cases h; assumption
theorem ax.Bd.bAt {x:ax}(h:ax.Bd x):inR x.fAt:=by cases h; assumption
theorem ax.Bd.bName {x:ax}(h:ax.Bd x):x.fName.length≤gC:=by cases h; assumption
inductive bQ.Bd:bQ→Prop where
 | mk {x:bQ} (bcount:inR x.fcount):bQ.Bd x
theorem bQ.Bd.bcount {x:bQ}(h:bQ.Bd x):inR x.fcount:=by cases h; assumption
inductive ad.Bd:ad→Prop where
 | mk {x:ad} (bKind:inR x.fKind) (bText:x.fText.length≤gC) (bAt:inR x.fAt):ad.Bd x
theorem ad.Bd.bKind {x:ad}(h:ad.Bd x):inR x.fKind:=by cases h; assumption
theorem ad.Bd.bText {x:ad}(h:ad.Bd x):x.fText.length≤gC:=by cases h; assumption
theorem ad.Bd.bAt {x:ad}(h:ad.Bd x):inR x.fAt:=by cases h; assumption
inductive cB.Bd:cB→Prop where
 | mk {x:cB} (bL:x.fL.length*32≤gC) (eL:∀ y∈x.fL,ad.Bd y) (bI:inR x.fI) (bIn:inR x.fIn) (bD:ax.Bd x.fD):cB.Bd x
theorem cB.Bd.bL {x:cB}(h:cB.Bd x):x.fL.length*32≤gC:=by cases h; assumption
theorem cB.Bd.eL {x:cB}(h:cB.Bd x):∀ y∈x.fL,ad.Bd y:=by cases h; assumption
theorem cB.Bd.bI {x:cB}(h:cB.Bd x):inR x.fI:=by cases h; assumption
theorem cB.Bd.bIn {x:cB}(h:cB.Bd x):inR x.fIn:=by cases h; assumption
theorem cB.Bd.bD {x:cB}(h:cB.Bd x):ax.Bd x.fD:=by cases h; assumption
inductive al.Bd:al→Prop where
 | mk {x:al} (bs:x.fs.length≤gC) (bat:inR x.fat) (bi:inR x.fi) (bfrom:inR x.ffrom) (btext:x.ftext.length≤gC) (bparts:x.fparts.length*160≤gC) (eparts:∀ y∈x.fparts,ac.Bd y):al.Bd x
theorem al.Bd.bs {x:al}(h:al.Bd x):x.fs.length≤gC:=by cases h; assumption
theorem al.Bd.bat {x:al}(h:al.Bd x):inR x.fat:=by cases h; assumption
theorem al.Bd.bi {x:al}(h:al.Bd x):inR x.fi:=by cases h; assumption
theorem al.Bd.bfrom {x:al}(h:al.Bd x):inR x.ffrom:=by cases h; assumption
theorem al.Bd.btext {x:al}(h:al.Bd x):x.ftext.length≤gC:=by cases h; assumption
theorem al.Bd.bparts {x:al}(h:al.Bd x):x.fparts.length*160≤gC:=by cases h; assumption
theorem al.Bd.eparts {x:al}(h:al.Bd x):∀ y∈x.fparts,ac.Bd y:=by cases h; assumption
inductive ae.Bd:ae→Prop where
 | mk {x:ae} (bl:x.fl.length*32≤gC) (el:∀ y∈x.fl,ad.Bd y) (bat:inR x.fat) (bnest:inR x.fnest) (bbase:inR x.fbase) (bbad:ax.Bd x.fbad):ae.Bd x
theorem ae.Bd.bl {x:ae}(h:ae.Bd x):x.fl.length*32≤gC:=by cases h; assumption
theorem ae.Bd.el {x:ae}(h:ae.Bd x):∀ y∈x.fl,ad.Bd y:=by cases h; assumption
theorem ae.Bd.bat {x:ae}(h:ae.Bd x):inR x.fat:=by cases h; assumption
theorem ae.Bd.bnest {x:ae}(h:ae.Bd x):inR x.fnest:=by cases h; assumption
theorem ae.Bd.bbase {x:ae}(h:ae.Bd x):inR x.fbase:=by cases h; assumption
theorem ae.Bd.bbad {x:ae}(h:ae.Bd x):ax.Bd x.fbad:=by cases h; assumption
end Go.Ab
end
section
namespace Go.Ab.R06
open Go.Ab Go.Ab.RB Go.Lib
theorem uB {P:Int→Prop}{i:Nat}(h:P ((i+1:Nat):Int)):P ((i:Int)+1):=by rwa [Int.natCast_add,Int.natCast_one] at h
theorem zW {α:Type} [Inhabited α] (l:List α){i:Nat}(h:i < l.length):l.drop i=lat l (i:Int)::l.drop (i+1):=by
 rw [mK l i h]; exact List.drop_eq_getElem_cons h
def oQ (v:ah):Prop:=v.fKind=1∧v.fNum≠0∧v.fNum≠1∨v.fKind≠1∧v.fKind≠2∧v.fNum≠0∨v.fKind≠3∧v.fStr≠[]∨v.fItems≠[]∨v.fKeys≠[]
theorem xF {α:Type}(l:List α):(0 < (l.length:Int))↔l≠[]:=by rw [← List.length_pos_iff]; omega
theorem vH {α:Type}(l:List α):((l.length:Int)=0)↔l=[]:=by rw [← List.length_eq_zero_iff]; omega
theorem ze (v:ah)(h0:0≤v.fKind)(h3:v.fKind≤3):∃ b,iP v=some b∧(b=true↔¬ oQ v):=by
 unfold iP oQ
 have hk:v.fKind=0∨v.fKind=1∨v.fKind=2∨v.fKind=3:=by omega
 clear h0 h3
 rcases hk with h | h | h | h <;> by_cases a:v.fNum=0 <;> by_cases b:v.fNum=1 <;> by_cases c:v.fStr=[] <;> by_cases d:v.fItems=[] <;> by_cases e:v.fKeys=[] <;> simp [h,a,b,c,d,e,xF,vH,BL,A9]
theorem yX (v:ah)(h0:0≤v.fKind)(h3:v.fKind≤3):∃ b,lu v=some b∧(b=true↔¬ oQ v):=by
 unfold lu oQ
 have hk:v.fKind=0∨v.fKind=1∨v.fKind=2∨v.fKind=3:=by omega
 clear h0 h3
 rcases hk with h | h | h | h <;> by_cases a:v.fNum=0 <;> by_cases b:v.fNum=1 <;> by_cases c:v.fStr=[] <;> by_cases d:v.fItems=[] <;> by_cases e:v.fKeys=[] <;> simp [h,a,b,c,d,e,xF,vH,BL,A9]
theorem qZ {v:ah}(h:oQ v):u6 v=1:=if_pos h
theorem sf {v:ah}(h:¬ oQ v):u6 v=if v.fKind=2∧¬ (-ju≤v.fNum∧v.fNum≤ju) then 5 else if v.fKind=3∧4096 < v.fStr.length then 3 else if v.fKind=3∧validD v.fStr=false then 1 else 0:=if_neg h
def tK (s:Bytes):Int:=if 4096 < s.length then 3 else if validD s=false then 1 else 0
theorem EO (s:Bytes):ja s=some (tK s):=by
 unfold ja tK
 by_cases h:4096 < s.length
 ·rw [if_pos O,if_pos h]
 ·rw [if_neg O,if_neg h,Fe,Option.bind_some]
  have:decide (s.length≤4096)=true:=by rw [decide_eq_true_eq]; omega
  rw [this,Bool.true_and]
  cases validD s <;> rfl
theorem EX (s:Bytes):Ev2 (λ n _=>ka n s) (·=tK s):=by
 simp only [ka]
 unfold tK
 refine aK (λ h=>ab (by rw [if_pos O])) (λ h=>?_)
 rw [if_neg (show ¬ 4096 < s.length by omega)]
 refine am _ (yQ s O) ?_
 have:decide (s.length≤4096)=true:=by rw [decide_eq_true_eq]; omega
 rw [this,Bool.true_and]
 cases validD s with
 | true=>exact ag (by decide) (ab Z)
 | false=>exact ai (by decide) (ab Z)
theorem xJ:tK []=0:=by unfold tK; rw [if_neg (by decide)]; rfl
theorem Cz (v:ah)(h0:0≤v.fKind)(h3:v.fKind≤3):Ev2 (λ n _=>gx n v) (·=u6 v):=by
 obtain ⟨b,hb,hi⟩:=ze v h0 h3
 simp only [gx]
 refine am _ (ao hb Z) (aK (λ h=>ab ?_) (λ h=>?_))
 ·have:oQ v:=Classical.byContradiction λ k=>by rw [hi.2 k] at h; simp at h
  rw [qZ this]
 ·have hg:¬ oQ v:=hi.1 (by simpa using h)
  rw [sf hg]
  by_cases h2:v.fKind=2
  ·simp only [h2,if_true,true_and]
   by_cases hv:-ju≤v.fNum∧v.fNum≤ju
   ·refine f0 () (am _ (ao (tv _) Z) (ag (by simp [hv]) (ab Z))) (ab ?_)
    rw [if_neg (by simpa using hv),if_neg O,if_neg O]
   ·refine jB 5 (am _ (ao (tv _) Z) (ai (by simp [hv]) (ab Z))) ?_
    rw [if_pos hv]
  ·by_cases h5:v.fKind=3
   ·refine jB (tK v.fStr) (ag h2 (ai h5 (am _ (ao (EO _) Z) (ab Z)))) ?_
    rw [if_neg O]; unfold tK; simp only [h5,true_and]
   ·refine f0 () (ag h2 (ag h5 (ag O (ab Z)))) (ab ?_)
    rw [if_neg O,if_neg O,if_neg O]
theorem Gt (v:ah)(h0:0≤v.fKind)(h3:v.fKind≤3):Ev2 (λ n _=>rt n v) (·=u6 v):=by
 obtain ⟨b,hb,hi⟩:=yX v h0 h3
 simp only [rt]
 refine am _ (ao hb Z) (aK (λ h=>ab ?_) (λ h=>?_))
 ·have:oQ v:=Classical.byContradiction λ k=>by rw [hi.2 k] at h; simp at h
  rw [qZ this]
 ·have hg:¬ oQ v:=hi.1 (by simpa using h)
  rw [sf hg]
  have nv:p9 v.fNum=some (decide (-ju≤v.fNum∧v.fNum≤ju)):=tv v.fNum
  have tail:v.fKeys=[]:=by unfold oQ at hg; simp only [not_or] at hg; exact Classical.not_not.1 hg.2.2.2.2
  have str:v.fKind≠3→v.fStr=[]:=λ k=>by unfold oQ at hg; simp only [not_or] at hg; exact Classical.byContradiction λ q=>hg.2.2.1 ⟨k,q⟩
  have last:Ev2 (λ n _=>(ka n v.fStr).bind λ r9=>if r9=0 then jn (ia n v n 0) λ _=>some 0 else some r9) (·=tK v.fStr):=by
   refine am _ (EX _) (aK (λ h=>?_) (λ h=>ab Z))
   refine f0 () (bT (f:=λ n m=>ia n v m 0) (aZ ?_)) (ab h.symm)
   simp only [ia]
   exact ag (by rw [tail]; decide) (ab Z)
  by_cases h2:v.fKind=2
  ·simp only [h2,if_true,true_and]
   refine am (!decide (-ju≤v.fNum∧v.fNum≤ju)) (am _ (ao nv Z) (ab Z)) (aK (λ h=>ab ?_) (λ h=>?_))
   ·rw [if_pos (λ k=>by rw [decide_eq_true k] at h; exact absurd h (by decide))]
   ·rw [if_neg (show ¬ ¬ (-ju≤v.fNum∧v.fNum≤ju) from λ k=>h (by rw [decide_eq_false k]; rfl)),if_neg O,if_neg O]
    rw [str O,xJ] at last
    rw [str O]
    exact last
  ·refine am false (ag h2 (ab Z)) (ag (by decide) ?_)
   rw [if_neg O]
   by_cases h5:v.fKind=3
   ·simp only [h5,true_and]; exact last
   ·rw [if_neg O,if_neg O]
    rw [str h5,xJ] at last
    rw [str h5]
    exact last
theorem wu {v:ah}(h:u6 v=0):v.fItems=[]:=by
 have hg:¬ oQ v:=λ k=>by rw [qZ k] at h; cases h
 unfold oQ at hg; simp only [not_or] at hg; exact Classical.not_not.1 hg.2.2.2.1
theorem AK (v:ah)(h0:0≤v.fKind)(h3:v.fKind≤3):Ev2 (λ n _=>gf n v) (·=u6 v):=by
 simp only [gf]
 refine af (λ r=>r.1=u6 v) (cq ?_) (λ r hr=>ab hr)
 simp only [cO]
 refine ag (by decide) (ag (by decide) (av (by decide) (am _ (Cz v h0 h3) (aK (λ h=>?_) (λ h=>ab Z)))))
 refine f0 1 (bT (f:=λ n m=>cQ (cO n) v 1 m 0 (0+1)) (aZ ?_)) (ab h.symm)
 simp only [cQ]
 exact ag (by rw [wu h]; decide) (ab Z)
theorem Cw (k:Int):ik k=some (decide (k=3∨k=4∨k=9∨k=12∨k=13)):=by
 unfold ik iY
 by_cases a:k=3
 ·simp [a]
 by_cases b:k=4
 ·simp [b]
 by_cases c:k=9
 ·simp [c]
 by_cases d:k=12
 ·simp [d]
 simp [a,b,c,d]
theorem xE (k:Int):jz k=some (decide (k=3∨k=4∨k=9∨k=12∨k=13)):=by
 unfold jz io
 by_cases a:k=3
 ·simp [a]
 by_cases b:k=4
 ·simp [b]
 by_cases c:k=9
 ·simp [c]
 by_cases d:k=12
 ·simp [d]
 simp [a,b,c,d]
section
variable {α β:Type}
theorem ug {p:Prop} [Decidable p] {a b:Option α}(h1:p→∃ r,a=some r)(h2:¬p→∃ r,b=some r):∃ r,(if p then a else b)=some r:=by
 by_cases h:p
 ·simpa only [if_pos h] using h1 h
 ·simpa only [if_neg h] using h2 h
theorem qt {g:Option β}{k:β→Option α}(h:∃ r,g=some r)(hk:∀ x,∃ r,k x=some r):∃ r,g.bind k=some r:=by
 obtain ⟨x,rfl⟩:=h
 exact hk x
theorem xB {p:Prop} [Decidable p] {a:Option α}(hp:p)(h:∃ r,a=some r):∃ r,ck p a=some r:=by rw [bS hp]; exact h
end
theorem Bu (k:Int):∃ r,io k=some r:=by unfold io; repeat' (first | exact ⟨_,rfl⟩ | refine qt ?_ (λ _=>?_) | refine ug (λ _=>?_) (λ _=>?_) | refine xB (by decide) ?_)
theorem E4 (k n:Int):∃ r,ip k n=some r:=by unfold ip; repeat' (first | exact ⟨_,rfl⟩ | exact Bu _ | exact ⟨_,xE _⟩ | refine qt ?_ (λ _=>?_) | refine ug (λ _=>?_) (λ _=>?_) | refine xB (by decide) ?_)
theorem ww (e:ac):∃ r,gR e=some r:=by unfold gR; repeat' (first | exact ⟨_,rfl⟩ | exact Bu _ | exact ⟨_,xE _⟩ | exact E4 _ _ | exact D7 _ | refine qt ?_ (λ _=>?_) | refine ug (λ _=>?_) (λ _=>?_) | refine xB (by decide) ?_)
inductive VSz:ah→Prop where
 | mk {x:ah} (v:x.fItems.length+x.fKeys.length≤1000000000000000) (sub:∀ y∈x.fItems,VSz y):VSz x
theorem VSz.v {x:ah}(h:VSz x):x.fItems.length+x.fKeys.length≤1000000000000000:=by cases h; assumption
theorem zm {k n:Int}{s:Bytes}:VSz (.mk k n s [] []):=.mk (Nat.zero_le _) (λ _ h=>by cases h)
inductive Sz:ac→Prop where
 | mk {x:ac} (n:x.fName.length≤1000000000000000) (k:x.fKey.length≤1000000000000000) (w:VSz x.fValue) (c:x.fKids.length≤1000000000000000) (kids:∀ y∈x.fKids,Sz y):Sz x
theorem Sz.n {x:ac}(h:Sz x):x.fName.length≤1000000000000000:=by cases h; assumption
theorem Sz.k {x:ac}(h:Sz x):x.fKey.length≤1000000000000000:=by cases h; assumption
theorem Sz.w {x:ac}(h:Sz x):VSz x.fValue:=by cases h; assumption
theorem Sz.v {x:ac}(h:Sz x):x.fValue.fItems.length+x.fValue.fKeys.length≤1000000000000000:=h.w.v
theorem Sz.kids {x:ac}(h:Sz x):∀ y∈x.fKids,Sz y:=by cases h; assumption
theorem vG {e:ac}(hb:Sz e):gR e=some (rS e):=by
 have h:=sN e hb.v
 obtain ⟨r,hr⟩:=ww e
 unfold rS
 rw [h,hr]; rfl
theorem B6 {e:ac}(hb:Sz e):gh e=some (rS e):=by
 rw [sN e hb.v,vG hb]
theorem vb {e:ac}(hb:Sz e)(h:rS e=true)(hk:e.fKind=1):0≤e.fValue.fKind∧e.fValue.fKind≤3:=by
 have h1:=vG hb
 rw [h] at h1
 unfold gR at h1
 generalize (Option.bind (ip e.fKind (e.fKids.length:Int)) _:Option Bool)=o at h1
 cases o with
 | none=>cases h1
 | some t =>
  cases t with
  | true=>cases h1
  | false =>
   simp only [Option.bind_some,Bool.false_eq_true,if_false,hk,if_true] at h1
   by_cases a:e.fOp=0
   ·by_cases b:e.fValue.fKind=0
    ·omega
    ·by_cases c:e.fValue.fKind=1
     ·omega
     ·by_cases d:e.fValue.fKind=3
      ·omega
      ·by_cases f:e.fValue.fKind=2
       ·omega
       ·simp [a,b,c,d,f] at h1
   ·simp [a] at h1
theorem FA {e:ac}(hb:Sz e):Ev2 (λ n _=>iz n e) (·=oo e):=by
 have b1:=hb.n
 have b2:=hb.k
 simp only [iz]
 unfold oo
 refine am _ (ao (B6 hb) Z) (aK (λ h=>ab (by rw [if_pos (by simpa using h)])) (λ h=>?_))
 have h:rS e=true:=by simpa using h
 rw [if_neg (show ¬ rS e=false by rw [h]; decide)]
 refine aK (λ hk=>?_) (λ hk=>?_)
 ·rw [if_pos hk]
  exact am _ (AK _ (vb hb h hk).1 (vb hb h hk).2) (ab Z)
 rw [if_neg hk]
 refine am (decide ((e.fKind=3∨e.fKind=4∨e.fKind=9∨e.fKind=12∨e.fKind=13)∧(gX e.fName=false∨e.fKind≠4∧oj e.fName=true))) ?_ ?_
 ·refine am _ (ao (Cw _) Z) (aK (λ hn=>?_) (λ hn=>ab ?_))
  ·have hn:=of_decide_eq_true hn
   rw [show decide ((e.fKind=3∨e.fKind=4∨e.fKind=9∨e.fKind=12∨e.fKind=13)∧(gX e.fName=false∨e.fKind≠4∧oj e.fName=true))=decide (gX e.fName=false∨e.fKind≠4∧oj e.fName=true) by simp only [hn,true_and]]
   refine am _ (uV _ O) (aK (λ hi=>ab ?_) (λ hi=>aK (λ h4=>ab ?_) (λ h4=>am _ (ao (rC _) Z) (ab ?_))))
   ·have hi:gX e.fName=false:=by simpa using hi
    simp [hi]
   ·have hi:gX e.fName=true:=by simpa using hi
    simp [hi,h4]
   ·have hi:gX e.fName=true:=by simpa using hi
    simp [hi,h4]
  ·have hn:¬ (e.fKind=3∨e.fKind=4∨e.fKind=9∨e.fKind=12∨e.fKind=13):=λ k=>hn (decide_eq_true k)
   simp only [hn,false_and,decide_false]
 ·refine aK (λ hq=>ab (by rw [if_pos (of_decide_eq_true hq)])) (λ hq=>?_)
  rw [if_neg (λ k=>hq (decide_eq_true k))]
  refine am (decide (e.fKey≠[]∧(gX e.fKey=false∨oj e.fKey=true))) ?_ ?_
  ·refine aK (λ hk=>ab (by simp [hk])) (λ hk=>?_)
   refine am _ (uV _ O) (aK (λ hi=>ab ?_) (λ hi=>am _ (ao (rC _) Z) (ab ?_)))
   ·have hi:gX e.fKey=false:=by simpa using hi
    simp [hi,hk]
   ·have hi:gX e.fKey=true:=by simpa using hi
    simp [hi,hk]
  ·refine aK (λ hq=>ab (by rw [if_pos (of_decide_eq_true hq)])) (λ hq=>ab ?_)
   rw [if_neg (λ k=>hq (decide_eq_true k))]
theorem F6 {e:ac}(hb:Sz e):∀ (c lv:Nat) (ci li:Int),ci=c→li=lv→c≤4096→lv≤33 →
  Ev2 (λ n _=>bj n (bQ.mk ci) e li) (λ r=>r.1=(nb c lv e).1∧r.2=bQ.mk (((nb c lv e).2:Nat):Int)∧(nb c lv e).2≤4096):=by
 induction hb with
 | @mk x sn sk sv hs skids ih =>
  intro c lv ci li hc hl h1 h2
  have hb:Sz x:=.mk sn sk sv hs skids
  refine cq ?_
  simp only [bj]
  rw [uk]
  refine aK (λ h=>?_) (λ h=>?_)
  ·rw [if_pos O]; exact ab ⟨rfl,by rw [hc],h1⟩
  rw [if_neg (show ¬ 32 < lv by omega)]
  refine aK (λ h5=>?_) (λ h5=>?_)
  ·rw [if_pos O]; exact ab ⟨rfl,by rw [hc],h1⟩
  rw [if_neg (show ¬ 4096≤c by omega)]
  refine av (aI O O) ?_
  refine am _ (FA hb) ?_
  refine aK (λ h0=>?_) (λ h0=>?_)
  ·rw [if_pos h0]
   have loop:∀ (k i c:Nat) (ci:Int),i+k=x.fKids.length→ci=c→c≤4096→Ev2 (λ n m=>bp (bj n) x li m (i:Int) ci) (λ s=>(np c (lv+1) (x.fKids.drop i)).2≤4096∧s=if (np c (lv+1) (x.fKids.drop i)).1=0 then .inl (((np c (lv+1) (x.fKids.drop i)).2:Nat):Int) else .inr ((np c (lv+1) (x.fKids.drop i)).1,bQ.mk (((np c (lv+1) (x.fKids.drop i)).2:Nat):Int))):=by
    intro k
    induction k with
    | zero =>
     intro i c ci hi hc h6
     refine aZ ?_
     simp only [bp]
     rw [List.drop_eq_nil_of_le O]
     exact ag O (ab ⟨by rw [np]; exact h6,by rw [np,hc]; rfl⟩)
    | succ k ihk =>
     intro i c ci hi hc h6
     refine aZ ?_
     simp only [bp]
     rw [zW _ (show i < x.fKids.length by omega),pE]
     refine ai O (av O (av (aI O O) ?_))
     refine af _ (ih _ (yn O) c (lv+1) ci (li+1) hc O h6 O) ?_
     rintro ⟨r1,r2⟩ ⟨q1,q2,q3⟩
     simp only at q1 q2
     subst q1 q2
     refine aK (λ h8=>?_) (λ h8=>?_)
     ·simp only [if_pos h8]
      refine av (aI O O) ?_
      exact uB (P:=λ j=>Ev2 (λ n m=>bp (bj n) x li m j _) _) (ihk (i+1) _ _ O rfl q3)
     ·simp only [if_neg h8]; exact ab ⟨q3,rfl⟩
   refine ee (cn (bT (f:=λ n m=>bp (bj n) x li m 0 (ci+1)) (loop x.fKids.length 0 (c+1) (ci+1) O O O)) ?_)
   rintro s ⟨s1,s2⟩
   simp only [List.drop_zero] at s1 s2
   subst s2
   by_cases h9:(np (c+1) (lv+1) x.fKids).1=0
   ·simp only [if_pos h9]; exact ab ⟨h9.symm,rfl,s1⟩
   ·rw [if_neg h9]; exact ⟨rfl,rfl,s1⟩
  ·rw [if_neg h0]; exact ab ⟨rfl,by rw [hc,Int.natCast_add,Int.natCast_one],by omega⟩
theorem Dp {e:ac}(hb:Sz e):Ev2 (λ n _=>gD n e) (·=chk e):=by
 simp only [gD]
 exact af _ (F6 hb 0 1 0 1 Z Z (by decide) (by decide)) (λ r hr=>ab hr.1)
end Go.Ab.R06
end
section
namespace Go.Ab.R06
open Go.Ab Go.Ab.RB Go.Lib
theorem tlS (b:Bool)(l:List ad):tl b l <:+ l:=by
 unfold tl nf
 cases b
 ·exact List.tail_suffix _
 ·exact (List.tail_suffix _).trans (List.dropWhile_suffix _)
theorem t1 {b:Bool}{l m:List ad}(h:l <:+ m):tl b l <:+ m:=(tlS b l).trans h
def Gl (l:List ad):Prop:=Gd l∧l.length≤1000000000
def fE {α:Type}(P:α→Prop)(l0:List ad)(x:PR α):Prop:=∀ q,x=some q→match q with
 | .inl e=>e.1≠0
 | .inr (a,l')=>P a∧l' <:+ l0∧Gl l'
theorem ig {α:Type}{P:α→Prop}{l0:List ad}:fE P l0 none:=by intro q h; cases h
theorem du {α:Type}{P:α→Prop}{l0 l':List ad}{a:α}(p:P a)(h:l' <:+ l0)(g:Gl l'):fE P l0 (pok a l'):=by intro q h'; cases h'; exact ⟨p,h,g⟩
theorem qe {α:Type}{P:α→Prop}{l0:List ad}{k a:Int}(h:k≠0):fE P l0 (per k a):=by intro q h'; cases h'; exact h
theorem cE {α:Type}{P:α→Prop}{p:Prop} [Decidable p] {l0:List ad}{x y:PR α}(h1:p→fE P l0 x)(h2:¬p→fE P l0 y):fE P l0 (if p then x else y):=by
 by_cases h:p
 ·rw [if_pos h]; exact h1 h
 ·rw [if_neg h]; exact h2 h
theorem bH {α β:Type}{x:PR α}{k:α→List ad→PR β}{q:PE⊕(β×List ad)}(h:pb x k=some q):(∃ e,x=some (.inl e)∧q=.inl e)∨(∃ a l,x=some (.inr (a,l))∧k a l=some q):=by
 cases x with
 | none=>cases h
 | some y =>
  rcases y with e | ⟨a,l⟩
  ·cases h; exact .inl ⟨e,rfl,rfl⟩
  ·exact .inr ⟨a,l,Z,h⟩
theorem cZ {α β:Type}{P:α→Prop}{P':β→Prop}{l0 l1:List ad}{x:PR α}{k:α→List ad→PR β}(h:fE P l1 x)(hs:l1 <:+ l0)(hk:∀ a l',P a→l' <:+ l0→Gl l'→fE P' l0 (k a l')):fE P' l0 (pb x k):=by
 intro q hq
 rcases bH hq with ⟨e,hx,rfl⟩ | ⟨a,l,hx,hq⟩
 ·exact h _ hx
 ·exact hk a l (h _ hx).1 ((h _ hx).2.1.trans hs) (h _ hx).2.2 q hq
theorem rb {α:Type}{P:α→Prop}{l0 l1:List ad}{x:PR α}(h:fE P l1 x)(hs:l1 <:+ l0):fE P l0 x:=by
 intro q hq
 have:=h q hq
 rcases q with e | ⟨a,l'⟩
 ·exact this
 ·exact ⟨this.1,this.2.1.trans hs,this.2.2⟩
theorem glk {b:Bool}{l:List ad}{k:Int}(g:Gl l)(h:(hd b l).fKind=k)(hk:k≠6):Gl (tl b l):=⟨x9 (mC g.1) O,Nat.le_trans (tlS b l).length_le g.2⟩
theorem glt {b:Bool}{l:List ad}{s:Bytes}(g:Gl l)(h:sgB b l s=true):Gl (tl b l):=glk g (nV.1 h).1 (by decide)
theorem glw {b:Bool}{l:List ad}{s:Bytes}(g:Gl l)(h:wdB b l s=true):Gl (tl b l):=glk g (ui.1 h).1 (by decide)
theorem gln {b:Bool}{l:List ad}(g:Gl l):(hd b l).fText.length≤1000000000:=by
 have:=rp (mC (b:=b) g.1)
 have h1:=this.1
 have h2:=this.2.1
 omega
theorem gll {b:Bool}{l:List ad}(g:Gl l):(tl b l).length < l.length:=E8 (mC g.1)
abbrev Tr {α:Type}:α→Prop:=λ _=>True
abbrev Nm:Bytes→Prop:=λ s=>s.length≤1000000000
theorem cy {b:Bool}{s:Bytes}{l:List ad}(g:Gl l):fE Tr (tl b l) (fG b s l):=cE (λ h=>du trivial (List.suffix_refl _) (glt g h)) (λ _=>qe (by decide))
theorem w9 {b:Bool}{s:Bytes}{l:List ad}(g:Gl l):fE Tr (tl b l) (uq b s l):=cE (λ h=>du trivial (List.suffix_refl _) (glw g h)) (λ _=>qe (by decide))
theorem ml {b:Bool}{l:List ad}(g:Gl l):fE Nm (tl b l) (rY b l):=cE (λ h=>du (gln g) (List.suffix_refl _) (glk g h.1 (by decide))) (λ _=>qe (by decide))
theorem tG:∀ (f c:Nat) (l:Bytes) (e:SE),fF f c l=.inl e→e.1≠0
 | 0,c,l,e,h=>by rw [fF] at h; cases h; decide
 | f+1,c,l,e,h=>by
  rw [gI] at h
  cases hsk:d7 true l with
  | nil =>
   rw [hsk,jS] at h
   split at h
   ·cases h; decide
   ·cases h
  | cons b r =>
   rw [hsk,jk] at h
   split at h
   ·cases h; exact (show (2:Int)≠0 by decide)
   split at h
   ·cases h; exact (show (14:Int)≠0 by decide)
   cases ht:gG (ef f 0) (b::r) with
   | inl e' =>
    rw [ht] at h; cases h
    show e'.1≠0
    exact xX (λ x y hxy=>(zT f 0).1 x y hxy) ht
   | inr z =>
    obtain ⟨k,t,l'⟩:=z
    rw [ht,jR] at h
    cases hs:fF f (c+1) l' with
    | inl e'=>rw [hs] at h; cases h; exact tG f (c+1) l' _ hs
    | inr ts'=>rw [hs] at h; cases h
theorem DV {src:Bytes→SE⊕Bytes}{l:Bytes}(hsrc:∀ r r',src r=.inr r'→r'.length < r.length){c:Int}{t l':Bytes}(h:gG src l=.inr (c,t,l')):c≠6∧t.length≤l.length∧(c=3→t.length+2≤l.length)∧(c=2→t.all eq=true):=by
 cases l with
 | nil=>cases h
 | cons b r =>
  rw [fu] at h
  split at h
  ·split at h
   ·cases h
   ·cases h
    exact ⟨by decide,(List.takeWhile_prefix _).length_le,(λ h=>absurd h (by decide)),(λ h=>absurd h (by decide))⟩
  split at h
  ·cases h
   exact ⟨by decide,(List.takeWhile_prefix _).length_le,(λ h=>absurd h (by decide)),λ _=>List.all_takeWhile⟩
  split at h
  ·cases h; exact ⟨by decide,by simp,(λ h=>absurd h (by decide)),(λ h=>absurd h (by decide))⟩
  split at h
  ·split at h
   ·cases h
   ·rename_i r' hr
    cases h
    have:=hsrc r _ hr
    simp only [List.length_take,List.length_cons]
    exact ⟨by decide,by omega,λ _=>by omega,(λ h=>absurd h (by decide))⟩
  split at h
  ·cases h
  ·rename_i hs
   cases h
   exact ⟨by decide,(ry hs).2,(λ h=>absurd h (by decide)),(λ h=>absurd h (by decide))⟩
theorem od (c:Bool)(l:Bytes):(d7 c l).length≤l.length:=by
 have h1:=(List.dropWhile_suffix (p:=eg) (l:=l)).length_le
 unfold d7
 split
 ·rename_i b r hb
  rw [hb] at h1
  split
  ·exact Nat.le_trans (List.dropWhile_suffix _).length_le h1
  ·exact h1
 ·exact Nat.zero_le _
theorem vv (s:Bytes)(a:Int)(h0:0≤a)(h1:a+(s.length:Int)≤1000000000):∀ (f c:Nat) (l:Bytes) (ts:List Tk),l.length≤s.length→fF f c l=.inr ts→Gd ((ts.map (tkS s)).map (mvT a))∧(∀ t∈ts.map (tkS s),t.fKind=3→t.fText.length+2≤l.length)∧ts.length≤l.length+1
 | 0,c,l,ts,_,h=>by rw [fF] at h; cases h
 | f+1,c,l,ts,hl,h=>by
  rw [gI] at h
  have hk:=od true l
  cases hsk:d7 true l with
  | nil =>
   rw [hsk,jS] at h
   split at h
   ·cases h
   ·cases h
    refine ⟨⟨⟨?_,?_,λ h=>absurd (show (6:Int)=3 from h) (by decide),λ h=>absurd (show (6:Int)=2 from h) (by decide)⟩,.inl ⟨Z,Z⟩⟩,?_,by simp⟩
    ·show 0≤(s.length:Int) - ((0:Nat):Int)+a; omega
    ·show (s.length:Int) - ((0:Nat):Int)+a+((0:Nat):Int)≤_; omega
    ·intro t ht hk; simp only [List.map_cons,List.map_nil,List.mem_singleton] at ht; subst ht; cases hk
  | cons b r =>
   rw [hsk] at hk
   rw [hsk,jk] at h
   split at h
   ·cases h
   split at h
   ·cases h
   cases ht:gG (ef f 0) (b::r) with
   | inl e=>rw [ht] at h; cases h
   | inr z =>
    obtain ⟨k,t,l'⟩:=z
    rw [ht,jR] at h
    obtain ⟨b1,b2,b3,b4⟩:=DV (λ x y hxy=>((iS f 0).1 x y hxy).2) ht
    have b5:=(kV (λ x y _ hxy=>(iS f 0).1 x y hxy) ht).2
    cases hs:fF f (c+1) l' with
    | inl e=>rw [hs] at h; cases h
    | inr ts' =>
     rw [hs] at h; cases h
     obtain ⟨i1,i2,i3⟩:=vv s a h0 h1 f (c+1) l' ts' O hs
     have hn:(b::r).length≤s.length:=by omega
     refine ⟨⟨⟨?_,?_,?_,b4⟩,.inr ⟨b1,i1⟩⟩,?_,by simp only [List.length_cons] at i3 b5 hk ⊢; omega⟩
     ·show 0≤(s.length:Int) - ((b::r).length:Int)+a; omega
     ·show (s.length:Int) - ((b::r).length:Int)+a+(t.length:Int)≤_; omega
     ·intro hk3
      have:=b3 hk3
      show (s.length:Int) - ((b::r).length:Int)+a+1+(t.length:Int)≤_; omega
     ·intro y hy hy3
      rw [List.map_cons] at hy
      rcases List.mem_cons.1 hy with rfl | hy
      ·have:=b3 hy3
       show t.length+2≤_; omega
      ·have:=i2 y hy hy3
       omega
theorem nT {s:Bytes}{a:Int}(h0:0≤a)(h1:a+(s.length:Int)≤1000000000)(h:(dQ s).2.fKind=0):Gd ((dQ s).1.map (mvT a))∧(∀ t∈(dQ s).1,t.fKind=3→t.fText.length+2≤s.length)∧(dQ s).1.length≤65537:=by
 unfold dQ at h ⊢
 split
 ·rename_i hl; rw [if_pos hl] at h; cases h
 ·rename_i hl
  rw [if_neg hl] at h
  cases hs:fF (s.length+1) 0 s with
  | inl e =>
   rw [hs] at h
   exact absurd h (tG _ _ _ e hs)
  | inr ts =>
   obtain ⟨i1,i2,i3⟩:=vv s a h0 h1 _ _ s ts (Nat.le_refl _) hs
   refine ⟨i1,i2,?_⟩
   show ([]++ts.map (tkS s)).length≤_
   rw [List.nil_append,List.length_map]; omega
theorem oN {s:Bytes}{a:Int}(h0:0≤a)(h1:a+(s.length:Int)≤1000000000)(h:(dQ s).2.fKind=0):Gl ((dQ s).1.map (mvT a)) :=
 ⟨(nT h0 h1 h).1,by have:=(nT h0 h1 h).2.2; rw [List.length_map]; omega⟩
theorem iG:∀ (f:Nat),(∀ d l r,fO f d l=some (some r)→r <:+ l∧r.length < l.length)∧(∀ l r,iu f l=some (some r)→r <:+ l∧r.length < l.length)
 | 0=>⟨λ d l r h=>(by rw [fO] at h; cases h),λ l r h=>(by rw [iu] at h; cases h)⟩
 | f+1=>by
  obtain ⟨i1,i2⟩:=iG f
  constructor
  ·intro d l r h
   cases l with
   | nil=>rw [fO] at h; cases h
   | cons b l =>
    have up:∀ {x:Bytes},r <:+ x∧r.length < x.length→x <:+ l→r <:+ (b::l)∧r.length < (b::l).length:=λ hx hy=>⟨(hx.1.trans hy).trans (List.suffix_cons _ _),by have:=hy.length_le; rw [List.length_cons]; omega⟩
    rw [fO] at h
    split at h
    ·exact up (i1 _ _ _ h) (List.suffix_refl _)
    split at h
    ·split at h
     ·cases h; exact ⟨List.suffix_cons _ _,Nat.lt_succ_self _⟩
     ·exact up (i1 _ _ _ h) (List.suffix_refl _)
    split at h
    ·cases hq:iu f l with
     | none=>rw [hq] at h; cases h
     | some y =>
      rw [hq] at h
      cases y with
      | none=>cases h
      | some r'=>exact up (i1 _ _ _ h) (i2 _ _ hq).1
    ·exact up (i1 _ _ _ h) (List.suffix_refl _)
  ·intro l r h
   cases l with
   | nil=>rw [iu] at h; cases h
   | cons b l =>
    have up:∀ {x:Bytes},r <:+ x∧r.length < x.length→x <:+ l→r <:+ (b::l)∧r.length < (b::l).length:=λ hx hy=>⟨(hx.1.trans hy).trans (List.suffix_cons _ _),by have:=hy.length_le; rw [List.length_cons]; omega⟩
    rw [iu] at h
    split at h
    ·cases h; exact ⟨List.suffix_cons _ _,Nat.lt_succ_self _⟩
    split at h
    ·exact up (i2 _ _ h) (List.drop_suffix _ _)
    split at h
    ·exact up (i2 _ _ h) (List.drop_suffix 2 l)
    split at h
    ·cases hq:fO f 1 ((b::l).drop 2) with
     | none=>rw [hq] at h; cases h
     | some y =>
      rw [hq] at h
      cases y with
      | none=>cases h
      | some r'=>exact up (i2 _ _ h) ((i1 _ _ _ hq).1.trans (List.drop_suffix 1 l))
    ·exact up (i2 _ _ h) (List.suffix_refl _)
theorem oJ {l t:Bytes}{n:Nat}(h:jG l=.inr (t,n)):1≤n∧n≤l.length:=by
 cases l with
 | nil=>cases h
 | cons b r =>
  rw [jG] at h
  split at h
  ·split at h
   ·rename_i hz
    cases h
    have:=(nS r).2.2.1 hz
    rw [List.length_cons]; omega
   ·cases h
  ·split at h
   ·cases h
   ·cases h
    have:=gT (b::r) G
    exact ⟨this.1,this.2.1⟩
def nQ {α:Type}(P:α→Prop)(x:Option (PE⊕α)):Prop:=∀ q,x=some q→match q with
 | .inl e=>e.1≠0
 | .inr a=>P a
theorem oh {α:Type}{P:α→Prop}:nQ P none:=by intro e h; cases h
theorem F5 {α:Type}{P:α→Prop}{a:α}(h:P a):nQ P (some (.inr a)):=by intro e h'; cases h'; exact h
theorem uS {α:Type}{P:α→Prop}{k a:Int}(h:k≠0):nQ P (some (.inl (k,a))):=by intro e h'; cases h'; exact h
theorem q9 {α:Type}{P:α→Prop}{p:Prop} [Decidable p] {x y:Option (PE⊕α)}(h1:p→nQ P x)(h2:¬p→nQ P y):nQ P (if p then x else y):=by
 by_cases h:p
 ·rw [if_pos h]; exact h1 h
 ·rw [if_neg h]; exact h2 h
theorem nE {k op:Int}{nm key:Bytes}{kids:List ac}{at':Int}(n:nm.length≤1000000000)(m:key.length≤1000000000)(c:kids.length≤4000000000)(h:∀ y∈kids,Sz y):Sz (ac.mk k op nm key v0 kids at') :=
 .mk (Nat.le_trans n (by decide)) (Nat.le_trans m (by decide)) zm (Nat.le_trans c (by decide)) h
theorem A6 (v:ah)(at':Int)(h:VSz v):Sz (uO v at'):=.mk (Nat.zero_le _) (Nat.zero_le _) h (Nat.zero_le _) (λ y hy=>by cases hy)
theorem El (s:Bytes)(at':Int):Sz (yL s at'):=A6 _ _ zm
theorem m1 {a:ac}(h:Sz a):∀ y∈[a],Sz y:=λ y hy=>by rw [List.mem_singleton.1 hy]; exact h
theorem m2 {a b:ac}(h:Sz a)(g:Sz b):∀ y∈[a,b],Sz y:=λ y hy=>by
 rcases List.mem_cons.1 hy with rfl | hy
 ·exact h
 ·exact m1 g y hy
theorem m3 {a b c:ac}(h:Sz a)(g:Sz b)(k:Sz c):∀ y∈[a,b,c],Sz y:=λ y hy=>by
 rcases List.mem_cons.1 hy with rfl | hy
 ·exact h
 ·exact m2 g k y hy
def Kd (N:Nat)(ks:List ac):Prop:=(∀ y∈ks,Sz y)∧ks.length≤N
def Rd (n:Nat)(z:Int×Int×Bytes×List ac×Bool):Prop:=z.2.2.1.length≤4096∧(∀ y∈z.2.2.2.1,Sz y)∧z.2.2.2.1.length≤n
structure Fct (f:Nat):Prop where
 e:∀ b l,Gl l→fE Sz (tl b l) (eC f b l)
 b:∀ lev b l,Gl l→fE Sz (tl b l) (kK f lev b l)
 bl:∀ lev b x l,Sz x→Gl l→fE Sz l (lx f lev b x l)
 u:∀ b l,Gl l→fE Sz (tl b l) (unS f b l)
 pl:∀ b x l,Sz x→Gl l→fE Sz l (iw f b x l)
 p:∀ b l,Gl l→fE Sz (tl b l) (jA f b l)
 s:∀ b l,Gl l→(hd b l).fKind=3→fE Sz (tl b l) (mf f b l)
 n:∀ b l,Gl l→(hd b l).fKind=1→fE Sz (tl b l) (jI f b l)
 i:∀ e l,Gl l→fE (Kd l.length) (tl true l) (fU f e l)
 t:∀ l,Gl l→fE (Kd (2*l.length)) (tl true l) (lw f l)
 k:∀ l,Gl l→fE Sz (tl true l) (jJ f l)
 lo:∀ a k l,Gl l→fE Sz l (iV f a k l)
 tm:∀ (s:Bytes) (a:Int),0≤a→a+(s.length:Int)≤1000000000→nQ Sz (gV f s a)
 r:∀ (frm pos:Int) (text:Bytes) (parts:List ac) (opn:Bool) (s:Bytes) (n:Nat),0≤pos→pos+(s.length:Int)≤1000000000→text.length≤4096→(∀ y∈parts,Sz y)→parts.length+2*s.length≤n→nQ (Rd n) (fo f frm pos text parts opn s)
 w:∀ (s:Bytes) (a:Int),0≤a→a+(s.length:Int)≤1000000000→nQ Sz (dO f s a)
theorem jM {l p:Bytes}(h:hasPrefix l p=true):p.length≤l.length:=by
 unfold hasPrefix at h
 exact (List.isPrefixOf_iff_prefix.1 h).length_le
theorem yl {s:Bytes}{k:Int}(h:jG s=.inl k):k≠0:=by
 cases s with
 | nil=>cases h; decide
 | cons b r =>
  rw [jG] at h
  split at h
  ·split at h
   ·cases h
   ·cases h; assumption
  ·split at h
   ·cases h; decide
   ·cases h
theorem Ag {frm pos:Int}{text:Bytes}{parts:List ac}(h:∀ y∈parts,Sz y):(∀ y∈flS frm pos text parts,Sz y)∧(flS frm pos text parts).length≤parts.length+1:=by
 unfold flS
 split
 ·refine ⟨λ y hy=>?_,by simp⟩
  rcases List.mem_append.1 hy with hy | hy
  ·exact h y hy
  ·rw [List.mem_singleton.1 hy]; exact El _ _
 ·exact ⟨h,by omega⟩
theorem vd {at':Int}{n:Nat}{z:Int×Int×Bytes×List ac×Bool}(hn:n≤3000000000)(h:Rd n z):Sz (ny at' z):=by
 obtain ⟨frm,pos,text,parts,opn⟩:=z
 obtain ⟨h1,h2,h3⟩:=h
 simp only at h1 h2 h3
 unfold ny
 have:=Ag (frm:=frm) (pos:=pos) (text:=text) h2
 cases opn with
 | true=>exact nE (by decide) (by decide) O this.1
 | false=>exact El _ _
theorem Gp {e:ac}(h:Sz e)(at':Int):Sz (ac.mk e.fKind e.fOp e.fName e.fKey e.fValue e.fKids at'):=by
 cases h with
 | mk n k v c kids=>exact .mk n k v c kids
abbrev sfx (l:List ad):l <:+ l:=List.suffix_refl l
theorem fct:∀ f,Fct f:=by
 intro f
 induction f with
 | zero =>
  constructor
  ·intro b l _; rw [eC]; exact ig
  ·intro v b l _; rw [kK]; exact ig
  ·intro v b x l _ _; rw [lx]; exact ig
  ·intro b l _; rw [unS]; exact ig
  ·intro b x l _ _; rw [iw]; exact ig
  ·intro b l _; rw [jA]; exact ig
  ·intro b l _ _; rw [mf]; exact ig
  ·intro b l _ _; rw [jI]; exact ig
  ·intro b l _; rw [fU]; exact ig
  ·intro l _; rw [lw]; exact ig
  ·intro l _; rw [jJ]; exact ig
  ·intro a k l _; rw [iV]; exact ig
  ·intro s a _ _; rw [gV]; exact oh
  ·intro a b c d e g n _ _ _ _ _; rw [fo]; exact oh
  ·intro s a _ _; rw [dO]; exact oh
 | succ f ih =>
  constructor
  ·intro b l g
   rw [eC]
   refine cZ (ih.b 0 b l g) (sfx _) λ c l1 z1 s1 g1=>cE (λ hs=>?_) (λ _=>du z1 s1 g1)
   exact cZ (ih.e b _ (glt g1 hs)) (t1 (t1 s1)) λ a l2 z2 s2 g2=>cZ (cy g2) (t1 s2) λ _ l3 _ s3 g3=>cZ (ih.e b _ g3) (t1 s3) λ d l4 z4 s4 g4=>du (nE (by decide) (by decide) G (m3 z1 z2 z4)) s4 g4
  ·intro v b l g
   rw [kK]
   exact cE (λ _=>ih.u b l g) (λ _=>cZ (ih.b _ b l g) (sfx _) λ e l1 z1 s1 g1=>rb (ih.bl v b e l1 z1 g1) s1)
  ·intro v b x l zx g
   rw [lx]
   cases ha:qW b l v with
   | none=>exact du zx (sfx _) g
   | some p =>
    have hs:sgB b l p.1=true:=List.find?_some (p:=λ p:Bytes×Int=>sgB b l p.1) ha
    exact cZ (ih.b _ b _ (glt g hs)) (t1 (tlS b l)) λ y l1 z1 s1 g1=>rb (ih.bl v b _ l1 (nE (by decide) (by decide) G (m2 zx z1)) g1) s1
  ·intro b l g
   rw [unS]
   refine cE (λ hs=>cZ (ih.u b _ (glt g hs)) (t1 (sfx _)) λ e l1 z1 s1 g1=>du (nE (by decide) (by decide) G (m1 z1)) s1 g1) (λ _=>cE (λ hs=>cZ (ih.u b _ (glt g hs)) (t1 (sfx _)) λ e l1 z1 s1 g1=>du (nE (by decide) (by decide) G (m1 z1)) s1 g1) (λ _=>?_))
   exact cZ (ih.p b l g) (sfx _) λ e l1 z1 s1 g1=>rb (ih.pl b e l1 z1 g1) s1
  ·intro b x l zx g
   rw [iw]
   refine cE (λ hs=>cE (λ hk=>?_) (λ _=>qe (by decide))) (λ _=>cE (λ hs=>?_) (λ _=>du zx (sfx _) g))
   ·exact rb (ih.pl b _ _ (nE (gln (glt g hs)) (by decide) G (m1 zx)) (glk (glt g hs) hk (by decide))) (t1 (tlS b l))
   ·exact cZ (ih.e true _ (glt g hs)) (t1 (tlS b l)) λ y l1 z1 s1 g1=>cZ (cy g1) (t1 s1) λ _ l2 _ s2 g2=>rb (ih.pl b _ _ (nE (by decide) (by decide) G (m2 zx z1)) g2) s2
  ·intro b l g
   rw [jA]
   refine cE (λ hk=>cE (λ _=>du (A6 _ _ zm) (sfx _) (glk g hk (by decide))) (λ h=>qe h)) (λ _=>cE (λ hk=>ih.s b l g hk) (λ _=>cE (λ hk=>ih.n b l g hk) (λ _=>?_)))
   refine cE (λ hs=>cZ (ih.e true _ (glt g hs)) (tlS true _) λ e l1 z1 s1 g1=>cZ (cy g1) (t1 s1) λ _ l2 _ s2 g2=>du z1 s2 g2) (λ _=>?_)
   refine cE (λ hs=>cE (λ hw=>rb (ih.lo _ _ _ (glw (glt g hs) hw)) (tlS true _)) (λ _=>cZ (ih.i _ _ (glt g hs)) (tlS true _) λ ks l1 z1 s1 g1=>du (nE (by decide) (by decide) (by have:=z1.2; have:=(glt g hs).2; omega) z1.1) s1 g1)) (λ _=>?_)
   exact cE (λ hs=>cE (λ hw=>rb (ih.lo _ _ _ (glw (glt g hs) hw)) (tlS true _)) (λ _=>cZ (ih.t _ (glt g hs)) (tlS true _) λ ks l1 z1 s1 g1=>du (nE (by decide) (by decide) (by have:=z1.2; have:=(glt g hs).2; omega) z1.1) s1 g1)) (λ _=>qe (by decide))
  ·intro b l g hk
   rw [mf]
   intro q hq
   have hb:=rp (mC (b:=b) g.1)
   have ht':=ih.tm (hd b l).fText ((hd b l).fAt+1) (by have:=hb.1; omega) (by have:=hb.2.2.1 hk; omega)
   cases ht:gV f (hd b l).fText ((hd b l).fAt+1) with
   | none=>rw [ht] at hq; cases hq
   | some y =>
    rw [ht] at hq
    have ht':=ht' y ht
    rcases y with e | e
    ·cases hq; exact ht'
    ·cases hq; exact ⟨Gp ht' _,sfx _,glk g hk (by decide)⟩
  ·intro b l g hk
   have g1:=glk g hk (by decide)
   have gn:=gln (b:=b) g
   rw [jI]
   refine cE (λ _=>du (A6 _ _ zm) (sfx _) g1) (λ _=>cE (λ _=>du (A6 _ _ zm) (sfx _) g1) (λ _=>cE (λ _=>du (A6 _ _ zm) (sfx _) g1) (λ _=>cE (λ _=>qe (by decide)) (λ _=>?_))))
   exact cE (λ hs=>cZ (ih.i _ _ (glt g1 hs)) (t1 (tlS b _)) λ ks l1 z1 s1 g2=>du (nE gn (by decide) (by have:=z1.2; have:=(glt g1 hs).2; omega) z1.1) s1 g2) (λ _=>du (nE gn (by decide) (by decide) (λ y hy=>by cases hy)) (sfx _) g1)
  ·intro e l g
   have gt:=gll (b:=true) g
   rw [fU]
   refine cE (λ hs=>du ⟨(λ y hy=>by cases hy),Nat.zero_le _⟩ (sfx _) (glt g hs)) (λ _=>cZ (ih.e true l g) (sfx _) λ x l1 zx s1 g1=>cE (λ hs=>?_) (λ _=>cZ (cy g1) (t1 s1) λ _ l2 _ s2 g2=>du ⟨m1 zx,by simp only [List.length_singleton]; omega⟩ s2 g2))
   have h1:=s1.length_le
   have h2:=gll (b:=true) g1
   exact cZ (ih.i e _ (glt g1 hs)) (t1 (t1 s1)) λ r l2 z2 s2 g2=>du ⟨λ y hy=>by
    rcases List.mem_cons.1 hy with rfl | hy
    ·exact zx
    ·exact z2.1 y hy,by have:=z2.2; simp only [List.length_cons]; omega⟩ s2 g2
  ·intro l g
   have gt:=gll (b:=true) g
   rw [lw]
   refine cE (λ hs=>du ⟨(λ y hy=>by cases hy),Nat.zero_le _⟩ (sfx _) (glt g hs)) (λ _=>cZ (ih.k l g) (sfx _) λ k l1 z1 s1 g1=>cZ (cy g1) (t1 s1) λ _ l2 _ s2 g2=>cZ (ih.e true l2 g2) (t1 s2) λ x l3 z3 s3 g3=>cE (λ hs=>?_) (λ _=>cZ (cy g3) (t1 s3) λ _ l4 _ s4 g4=>du ⟨m2 z1 z3,by simp only [List.length_cons,List.length_nil]; omega⟩ s4 g4))
   have h1:=s3.length_le
   have h2:=gll (b:=true) g3
   exact cZ (ih.t _ (glt g3 hs)) (t1 (t1 s3)) λ r l4 z4 s4 g4=>du ⟨λ y hy=>by
    rcases List.mem_cons.1 hy with rfl | hy
    ·exact z1
    rcases List.mem_cons.1 hy with rfl | hy
    ·exact z3
    ·exact z4.1 y hy,by have:=z4.2; simp only [List.length_cons]; omega⟩ s4 g4
  ·intro l g
   rw [jJ]
   refine cE (λ hk=>du (El _ _) (sfx _) (glk g hk (by decide))) (λ _=>cE (λ hk=>ih.s true l g hk) (λ _=>cE (λ hs=>?_) (λ _=>qe (by decide))))
   exact cZ (ih.e true _ (glt g hs)) (tlS true _) λ e l1 z1 s1 g1=>cZ (cy g1) (t1 s1) λ _ l2 _ s2 g2=>du z1 s2 g2
  ·intro a k l g
   rw [iV]
   refine cZ (ml g) (tlS true l) λ v l1 z1 s1 g1=>cZ (P:=λ p:Bytes×Bytes=>p.1.length≤1000000000∧p.2.length≤1000000000) (l1:=l1) (cE (λ hs=>cZ (ml (glt g1 hs)) (t1 (tlS true l1)) λ w l2 z2 s2 g2=>du ⟨z2,z1⟩ s2 g2) (λ _=>du ⟨z1,Nat.zero_le _⟩ (sfx _) g1)) s1 λ nk l2 zn s2 g2=>?_
   refine cZ (w9 g2) (t1 s2) λ _ l3 _ s3 g3=>cZ (ih.e true l3 g3) (t1 s3) λ x l4 z4 s4 g4=>cZ (cy g4) (t1 s4) λ _ l5 _ s5 g5=>cZ (ih.e true l5 g5) (t1 s5) λ c l6 z6 s6 g6=>?_
   refine cZ (P:=Kd 3) (l1:=l6) (cE (λ _=>cZ (cy g6) (tlS true l6) λ _ l7 _ s7 g7=>cZ (ih.e true l7 g7) (t1 s7) λ d l8 z8 s8 g8=>du ⟨m3 z4 z6 z8,by simp⟩ s8 g8) (λ _=>du ⟨m2 z4 z6,by simp⟩ (sfx _) g6)) s6 λ ks l7 z7 s7 g7=>?_
   refine cZ (P:=Kd 4) (l1:=l7) (cE (λ hw=>cZ (ih.e true _ (glw g7 hw)) (t1 (tlS true l7)) λ e l8 z8 s8 g8=>du ⟨λ y hy=>by
    rcases List.mem_append.1 hy with hy | hy
    ·exact z7.1 y hy
    ·exact m1 z8 y hy,by have:=z7.2; rw [List.length_append,List.length_singleton]; omega⟩ s8 g8) (λ _=>du ⟨z7.1,by have:=z7.2; omega⟩ (sfx _) g7)) s7 λ ks l8 z8 s8 g8=>?_
   exact cZ (cy g8) (t1 s8) λ _ l9 _ s9 g9=>du (nE zn.1 zn.2 (by have:=z8.2; omega) z8.1) s9 g9
  ·intro s a h0 h1
   rw [gV]
   have hr':=ih.r a a [] [] false s (2*s.length) h0 h1 (by decide) (λ y hy=>by cases hy) G
   intro q hq
   cases hr:fo f a a [] [] false s with
   | none=>rw [hr] at hq; cases hq
   | some y =>
    rw [hr] at hq
    have hr':=hr' y hr
    rcases y with e' | z
    ·cases hq; exact hr'
    ·have hz:Sz (ny a z):=vd O hr'
     simp only [kW,Option.some.injEq] at hq
     split at hq
     ·cases hq; exact hz
     ·cases hq; assumption
  ·intro frm pos text parts opn s n h0 h1 ht hp hn
   cases s with
   | nil=>rw [fo]; exact F5 ⟨ht,hp,by simp only [List.length_nil] at hn; omega⟩
   | cons c r =>
    have hcl:(c::r).length=r.length+1:=rfl
    rw [fo]
    refine q9 (λ hx=>q9 (λ _=>uS (by decide)) (λ hl=>ih.r _ _ _ _ _ _ n O ?_ ?_ hp ?_)) (λ _=>q9 (λ hx=>?_) (λ _=>?_))
    ·have:=jM hx
     rw [List.length_drop]; simp only [List.length_cons,List.length_nil] at this h1 ⊢; omega
    ·rw [List.length_append]; simp only [List.length_cons,List.length_nil]; omega
    ·rw [List.length_drop]; omega
    ·cases hc:fO f 1 ((c::r).drop 2) with
     | none=>exact oh
     | some y =>
      cases y with
      | none=>exact uS (by decide)
      | some r' =>
       simp only []
       have hr:=(iG f).1 _ _ _ hc
       have hr2:=hr.2
       have hr1:=hr.1.length_le
       have hx:=jM hx
       have hfl:=Ag (frm:=frm) (pos:=pos) (text:=text) hp
       rw [List.length_drop] at hr1 hr2
       simp only [List.length_cons,List.length_nil] at hr1 hr2 h1 hx hn
       have hw':=ih.w (((c::r).drop 2).take (((c::r).drop 2).length - r'.length - 1)) (pos+2) O (by simp only [List.length_take,List.length_drop,List.length_cons]; omega)
       cases hw:dO f (((c::r).drop 2).take (((c::r).drop 2).length - r'.length - 1)) (pos+2) with
       | none=>exact oh
       | some z =>
        have hw':=hw' z hw
        rcases z with e | e
        ·intro e' h; cases h; exact hw'
        ·refine ih.r _ _ _ _ _ _ n O (by simp only [List.length_cons]; omega) (by decide) (λ y hy=>?_) (by rw [List.length_append,List.length_singleton]; omega)
         rcases List.mem_append.1 hy with hy | hy
         ·exact hfl.1 y hy
         ·rw [List.mem_singleton.1 hy]; exact hw'
    ·cases hi:jG (c::r) with
     | inl k=>exact uS (yl hi)
     | inr tn =>
      have:=oJ hi
      exact q9 (λ _=>uS (by decide)) (λ hl=>ih.r _ _ _ _ _ _ n O (by rw [List.length_drop]; omega) (by rw [List.length_append]; omega) hp (by rw [List.length_drop]; omega))
  ·intro s a h0 h1
   rw [dO]
   refine q9 (λ h=>uS h) (λ hk=>?_)
   have hk:(dQ s).2.fKind=0:=Classical.not_not.1 hk
   have hx':=ih.e true _ (oN h0 h1 hk)
   intro q hq
   cases hx:eC f true ((dQ s).1.map (mvT a)) with
   | none=>rw [hx] at hq; cases hq
   | some y =>
    rw [hx] at hq
    have hx':=hx' y hx
    rcases y with e' | ⟨x,l⟩
    ·cases hq; exact hx'
    ·simp only [] at hq
     split at hq
     ·cases hq; exact hx'.1
     ·cases hq; exact (show (2:Int)≠0 by decide)
theorem eF {L:List ad}{base:Int}(hL:Gd (L.map (mvT base)))(hlen:L.length≤1000000000){i:Nat}{nest:Int}{b:Bool}{l:List ad}(s:Bytes){q:PE⊕(Unit×List ad)}(h0:0≤nest)(hb:b=decide (0 < nest))(h:Pos L base i (nest+1) true l)(hq:fG true s l=some q) :
  Ev2 (λ n _=>bf n (.mk L (i:Int) (nest+1) base dOk) s) (Cp L base nest b q):=by subst hb; exact B9 hL hlen s h0 h hq
theorem fy {L:List ad}{base:Int}(hL:Gd (L.map (mvT base)))(hlen:L.length≤1000000000){i:Nat}{nest:Int}{b:Bool}{l:List ad}{e:PE}(s:Bytes)(he:e.1≠0)(h0:0≤nest)(hb:b=decide (0 < nest))(h:Pos L base i (nest+1) true l) :
  Ev2 (λ n _=>bf n (.mk L (i:Int) (nest+1) base (eD e)) s) (λ z=>∃ (j:Nat) (l':List ad),z=.mk L (j:Int) nest base (eD e)∧Pos L base j nest b l'):=by subst hb; exact Dn hL hlen s he h0 h
theorem sg6 {b:Bool}{l:List ad}{s:Bytes}(h:sgB b l s=true):(hd b l).fKind≠6:=by have:=(nV.1 h).1; omega
theorem wd6 {b:Bool}{l:List ad}{s:Bytes}(h:wdB b l s=true):(hd b l).fKind≠6:=by have:=(ui.1 h).1; omega
theorem D5 (e:ac):ac.mk e.fKind e.fOp e.fName e.fKey (ah.mk e.fValue.fKind e.fValue.fNum e.fValue.fStr e.fValue.fItems e.fValue.fKeys) e.fKids e.fAt=e:=by
 obtain ⟨k,op,nm,key,⟨vk,vn,vs,vi,vks⟩,kids,at'⟩:=e; rfl
def Fl {α:Type}(F:Nat→ae→Option (α×ae))(b:Bool)(l:List ad)(x:PR α):Prop :=
 ∀ (L:List ad) (base:Int),Gd (L.map (mvT base))→L.length≤1000000000→∀ (i:Nat) (nest:Int) (q:PE⊕(α×List ad)),Pos L base i nest b l→x=some q→Ev2 (λ n _=>F n (.mk L (i:Int) nest base dOk)) (Out L base nest b q)
def FlC {α:Type}(F:Nat→ae→Option (α×ae))(l:List ad)(x:PR α):Prop :=
 ∀ (L:List ad) (base:Int),Gd (L.map (mvT base))→L.length≤1000000000→∀ (i:Nat) (nest:Int) (b:Bool) (q:PE⊕(α×List ad)),0≤nest→b=decide (0 < nest)→Pos L base i (nest+1) true l→x=some q→Ev2 (λ n _=>F n (.mk L (i:Int) (nest+1) base dOk)) (Out L base nest b q)
def CP (L:List ad)(base nest:Int)(en:Bytes)(out:List ac)(q:PE⊕(List ac×List ad))(r:List ac×List ad×Int×Int×Int×Int×Int×Bytes):Prop:=match q with
 | .inl e=>e.1≠0∧∃ (j:Nat) (l':List ad),((r.2=(L,(j:Int),nest,base,e.1,e.2,[])∧Pos L base j nest true l')∨(r.2=(L,(j:Int),nest,base,0,0,[])∧Pos L base j nest true l'∧fG true en l'=some (.inl e)))
 | .inr (ks,l')=>∃ (j:Nat) (l'':List ad),r=(out++ks,L,(j:Int),nest,base,0,0,[])∧Pos L base j nest true l''∧fG true en l''=some (.inr ((),l'))
def RdO (s:Bytes)(a:Int)(q:PE⊕(Int×Int×Bytes×List ac×Bool))(r:(Bytes×Int×Int×Int×Bytes×(List ac)×Bool)⊕(ax×al)):Prop:=match q with
 | .inl e=>e.1≠0∧∃ t,r=.inr (eD e,t)
 | .inr (frm,pos,text,parts,opn)=>∃ (i fr:Nat),frm=a+(fr:Int)∧pos=a+(i:Int)∧fr≤i∧i≤s.length∧parts.length≤2*i∧r=.inl (s,a,(i:Int),(fr:Int),text,parts,opn)
def WOut (q:PE⊕ac)(r:ac×ax):Prop:=match q with
 | .inl e=>e.1≠0∧r.2=eD e
 | .inr x=>r=(x,dOk)
structure Fol (f:Nat):Prop where
 e:∀ b l,Fl ay b l (eC f b l)
 b:∀ (lev:Nat) (li:Int) b l,li=lev→lev≤6→Fl (λ n p=>aO n p li) b l (kK f lev b l)
 bl:∀ (lev:Nat) (li:Int) b l (x:ac) (r5:ac×ae),li=lev→lev≤5→x.fAt=r5.1.fAt→∀ (L:List ad) (base:Int),Gd (L.map (mvT base))→L.length≤1000000000→∀ (i:Nat) (nest:Int) (q:PE⊕(ac×List ad)),Pos L base i nest b l→lx f lev b x l=some q →
  Ev2 (λ n m=>bm n (aO n) li r5 m x.fKind x.fOp x.fName x.fKey x.fValue.fKind x.fValue.fNum x.fValue.fStr x.fValue.fItems x.fValue.fKeys x.fKids L (i:Int) nest base 0 0 []) (λ s=>∃ z,s=.inr z∧Out L base nest b q z)
 u:∀ b l,Fl b8 b l (unS f b l)
 pl:∀ b l (x:ac) (r1:ac×ae),x.fAt=r1.1.fAt→∀ (L:List ad) (base:Int),Gd (L.map (mvT base))→L.length≤1000000000→∀ (i:Nat) (nest:Int) (q:PE⊕(ac×List ad)),Pos L base i nest b l→iw f b x l=some q →
  Ev2 (λ n m=>bg n (ay n) r1 m x.fKind x.fOp x.fName x.fKey x.fValue.fKind x.fValue.fNum x.fValue.fStr x.fValue.fItems x.fValue.fKeys x.fKids L (i:Int) nest base 0 0 []) (λ s=>∃ z,s=.inr z∧Out L base nest b q z)
 p:∀ b l,Fl bV b l (jA f b l)
 s:∀ b l,(hd b l).fKind=3→Fl cP b l (mf f b l)
 n:∀ b l,(hd b l).fKind=1→Fl dk b l (jI f b l)
 i:∀ (en:Bytes) (l:List ad) (out:List ac),Gd l→out.length+l.length≤1000000000→∀ (L:List ad) (base:Int),Gd (L.map (mvT base))→L.length≤1000000000→∀ (i:Nat) (nest:Int) (q:PE⊕(List ac×List ad)),Pos L base i nest true l→fU f en l=some q →
  Ev2 (λ n m=>bW n (ay n) en m out L (i:Int) nest base 0 0 []) (CP L base nest en out q)
 t:∀ (l:List ad) (out:List ac),Gl l→out.length+2*l.length≤3000000000→∀ (L:List ad) (base:Int),Gd (L.map (mvT base))→L.length≤1000000000→∀ (i:Nat) (nest:Int) (q:PE⊕(List ac×List ad)),Pos L base i nest true l→lw f l=some q →
  Ev2 (λ n m=>bA n (ay n) (cp n) m out L (i:Int) nest base 0 0 []) (CP L base nest [125] out q)
 k:∀ l,Fl cp true l (jJ f l)
 lo:∀ (a k:Int) l,wdB true l [102,111,114]=true→k=12∨k=13→FlC (λ n p=>cN n p a k) l (iV f a k (tl true l))
 tm:∀ (s:Bytes) (a:Int) q,0≤a→a+(s.length:Int)≤1000000000→gV f s a=some q→Ev2 (λ n _=>eu n s a) (·=AO q)
 r:∀ (s:Bytes) (a:Int) (i fr:Nat) (text:Bytes) (parts:List ac) (opn:Bool) q,0≤a→a+(s.length:Int)≤1000000000→i≤s.length→fr≤i→text.length≤4096→parts.length≤2*i→fo f (a+(fr:Int)) (a+(i:Int)) text parts opn (s.drop i)=some q →
  Ev2 (λ n m=>bo n (aC n) m s a (i:Int) (fr:Int) text parts opn) (RdO s a q)
 w:∀ (s:Bytes) (a:Int) q,0≤a→a+(s.length:Int)≤1000000000→dO f s a=some q→Ev2 (λ n _=>dU n s a) (WOut q)
theorem Gq {f:Nat}(ih:Fol f):∀ b l,Fl ay b l (eC (f+1) b l):=by
 intro b l L base hL hlen i nest q h hq
 rw [eC] at hq
 refine cq ?_
 simp only [ay]
 rcases bH hq with ⟨e,hx,rfl⟩ | ⟨c,l1,hx,hq⟩
 ·
  refine af _ (ih.b 0 0 b l Z (by decide) L base hL hlen i nest _ h hx) ?_
  rintro ⟨z1,z2⟩ ⟨he,j,l',h2,h3⟩
  cases h2
  refine af _ (jh hL hlen _ he h3) ?_
  rintro _ ⟨j,rfl,h3⟩
  exact ai Z (ab ⟨he,j,l',Z,h3⟩)
 ·
  refine af _ (ih.b 0 0 b l Z (by decide) L base hL hlen i nest _ h hx) ?_
  rintro ⟨z1,z2⟩ ⟨h1,j,h2,h3⟩
  replace h1:z1=_:=h1; subst h1; cases h2
  refine af _ (fk hL hlen _ h3) ?_
  rintro ⟨z1,z2⟩ ⟨h1,j,h2,h3⟩
  replace h1:z1=_:=h1; subst h1; cases h2
  by_cases hs:sgB b l1 [63]=true
  ·
   rw [if_pos hs] at hq
   refine ag (by simp [hs]) ?_
   refine af _ (dN hL hlen h3 (sg6 hs)) ?_
   rintro ⟨z1,z2⟩ ⟨h1,j,h2,h3,h4,h5⟩
   replace h1:z1=_:=h1; subst h1; cases h2
   rcases bH hq with ⟨e,hx,rfl⟩ | ⟨a,l2,hx,hq⟩
   ·
    refine af _ (ih.e b _ L base hL hlen j nest _ h3 hx) ?_
    rintro ⟨z1,z2⟩ ⟨he,j,l',h2,h3⟩
    cases h2
    refine af _ (jd hL hlen _ he h3) ?_
    rintro _ ⟨j,l',rfl,h3⟩
    refine af _ (gj hL hlen he h3) ?_
    rintro ⟨z1,z2⟩ ⟨j,l',h2,h3⟩
    cases h2
    exact ab ⟨he,j,l',Z,h3⟩
   ·
    refine af _ (ih.e b _ L base hL hlen j nest _ h3 hx) ?_
    rintro ⟨z1,z2⟩ ⟨h1,j,h2,h3⟩
    replace h1:z1=_:=h1; subst h1; cases h2
    rcases bH hq with ⟨e,hx,rfl⟩ | ⟨u,l3,hx,hq⟩
    ·
     refine af _ (jq hL hlen _ h3 hx) ?_
     rintro _ ⟨he,j,l',rfl,h3⟩
     refine af _ (gj hL hlen he h3) ?_
     rintro ⟨z1,z2⟩ ⟨j,l',h2,h3⟩
     cases h2
     exact ab ⟨he,j,l',Z,h3⟩
    ·
     refine af _ (jq hL hlen _ h3 hx) ?_
     rintro _ ⟨j,rfl,h3,h4⟩
     rcases bH hq with ⟨e,hx,rfl⟩ | ⟨d,l4,hx,hq⟩
     ·
      refine af _ (ih.e b _ L base hL hlen j nest _ h3 hx) ?_
      rintro ⟨z1,z2⟩ ⟨he,j,l',h2,h3⟩
      cases h2
      exact ab ⟨he,j,l',Z,h3⟩
     ·
      refine af _ (ih.e b _ L base hL hlen j nest _ h3 hx) ?_
      rintro ⟨z1,z2⟩ ⟨h1,j,h2,h3⟩
      replace h1:z1=_:=h1; subst h1; cases h2
      cases hq
      exact ab ⟨Z,j,Z,h3⟩
  ·
   rw [if_neg hs] at hq; cases hq
   exact ai (by simpa using hs) (ab ⟨Z,j,Z,h3⟩)
theorem Ga {f:Nat}(ih:Fol f):∀ (lev:Nat) (li:Int) b l,li=lev→lev≤6→Fl (λ n p=>aO n p li) b l (kK (f+1) lev b l):=by
 intro lev li b l hli h6 L base hL hlen i nest q h hq
 rw [kK] at hq
 refine cq ?_
 simp only [aO]
 by_cases hv:5 < lev
 ·
  rw [if_pos hv] at hq
  refine ai O ?_
  refine af _ (ih.u b l L base hL hlen i nest _ h hq) ?_
  rintro ⟨z1,z2⟩ hz
  exact ab hz
 ·
  rw [if_neg hv] at hq
  refine ag O (av (aI O O) ?_)
  rcases bH hq with ⟨e,hx,rfl⟩ | ⟨c,l1,hx,hq⟩
  ·
   refine af _ (ih.b (lev+1) (li+1) b l O O  L base hL hlen i nest _ h hx) ?_
   rintro ⟨z1,z2⟩ ⟨he,j,l',h2,h3⟩
   cases h2
   subst hli
   refine ee (cn (bT (pS hL hlen he h3 O (z1,.mk L (j:Int) nest base (eD e)) _ _ _ _ _ _ _ _ _ _)) ?_)
   rintro _ ⟨z,rfl,j,l',hz1,hz2⟩
   exact ⟨he,j,l',hz1,hz2⟩
  ·
   refine af _ (ih.b (lev+1) (li+1) b l O O  L base hL hlen i nest _ h hx) ?_
   rintro ⟨z1,z2⟩ ⟨h1,j,h2,h3⟩
   replace h1:z1=_:=h1; subst h1; cases h2
   refine ee (cn (bT (ih.bl lev li b _ _ (_,.mk L (j:Int) nest base dOk) hli O rfl L base hL hlen j nest q h3 hq)) ?_)
   rintro _ ⟨z,rfl,hz⟩
   exact hz
theorem E2 {f:Nat}(ih:Fol f):∀ (lev:Nat) (li:Int) b l (x:ac) (r5:ac×ae),li=lev→lev≤5→x.fAt=r5.1.fAt→∀ (L:List ad) (base:Int),Gd (L.map (mvT base))→L.length≤1000000000→∀ (i:Nat) (nest:Int) (q:PE⊕(ac×List ad)),Pos L base i nest b l→lx (f+1) lev b x l=some q →
  Ev2 (λ n m=>bm n (aO n) li r5 m x.fKind x.fOp x.fName x.fKey x.fValue.fKind x.fValue.fNum x.fValue.fStr x.fValue.fItems x.fValue.fKeys x.fKids L (i:Int) nest base 0 0 []) (λ s=>∃ z,s=.inr z∧Out L base nest b q z):=by
 intro lev li b l x r5 hli hl5 hat L base hL hlen i nest q h hq
 rw [lx] at hq
 refine aZ ?_
 simp only [bm]
 subst hli
 refine am _ (ao (uE hl5) Z) ?_
 have ha:=zV hL hlen ((sa lev).map (·.1)) yf h
 rw [Bc] at ha
 have eta:ac.mk x.fKind x.fOp x.fName x.fKey (ah.mk x.fValue.fKind x.fValue.fNum x.fValue.fStr x.fValue.fItems x.fValue.fKeys) x.fKids r5.1.fAt=x:=by rw [← hat]; exact D5 x
 rw [eta]
 cases hp:qW b l lev with
 | none =>
  rw [hp] at ha hq
  cases hq
  refine af _ ha ?_
  rintro _ ⟨j,rfl,h3⟩
  exact ai Z (ab ⟨_,Z,Z,j,Z,h3⟩)
 | some p =>
  rw [hp] at ha hq
  obtain ⟨hm,hs⟩:=Dv hp
  refine af _ ha ?_
  rintro _ ⟨j,rfl,h3⟩
  refine ag Bool.false_ne_true ?_
  refine af _ (dN hL hlen h3 (sg6 hs)) ?_
  rintro ⟨z1,z2⟩ ⟨h1,j,h2,h3,h4,h5⟩
  replace h1:z1=_:=h1; subst h1; cases h2
  refine av (aI O O) ?_
  have hq:pb (kK f (lev+1) b (tl b l)) (λ y l=>lx f lev b (ac.mk 7 p.2 [] [] v0 [x,y] x.fAt) l)=some q:=hq
  rcases bH hq with ⟨e,hx,rfl⟩ | ⟨y,l1,hx,hq⟩
  ·
   refine af _ (ih.b (lev+1) ((lev:Int)+1) b _ O O  L base hL hlen j nest _ h3 hx) ?_
   rintro ⟨z1,z2⟩ ⟨he,j,l',h2,h3⟩
   cases h2
   refine am _ (D6 hl5 hm) ?_
   refine cn (pS hL hlen he h3 hl5 r5 _ _ _ _ _ _ _ _ _ _) ?_
   rintro _ ⟨z,rfl,j,l',hz1,hz2⟩
   exact ⟨z,Z,he,j,l',hz1,hz2⟩
  ·
   refine af _ (ih.b (lev+1) ((lev:Int)+1) b _ O O  L base hL hlen j nest _ h3 hx) ?_
   rintro ⟨z1,z2⟩ ⟨h1,j,h2,h3⟩
   replace h1:z1=_:=h1; subst h1; cases h2
   refine am _ (D6 hl5 hm) ?_
   exact ih.bl lev lev b _ (ac.mk 7 p.2 [] [] v0 [x,_] x.fAt) r5 Z hl5 hat L base hL hlen j nest q h3 hq
theorem AJ {f:Nat}(ih:Fol f):∀ b l,Fl cj b l (pb (jA f b l) λ e l=>iw f b e l):=by
 intro b l L base hL hlen i nest q h hq
 refine cq ?_
 simp only [cj]
 rcases bH hq with ⟨e,hx,rfl⟩ | ⟨c,l1,hx,hq⟩
 ·
  refine af _ (ih.p b l L base hL hlen i nest _ h hx) ?_
  rintro ⟨z1,z2⟩ ⟨he,j,l',h2,h3⟩
  cases h2
  refine ee (cn (bT (lA hL hlen he h3 (z1,.mk L (j:Int) nest base (eD e)) _ _ _ _ _ _ _ _ _ _)) ?_)
  rintro _ ⟨z,rfl,j,l',hz1,hz2⟩
  exact ⟨he,j,l',hz1,hz2⟩
 ·
  refine af _ (ih.p b l L base hL hlen i nest _ h hx) ?_
  rintro ⟨z1,z2⟩ ⟨h1,j,h2,h3⟩
  replace h1:z1=_:=h1; subst h1; cases h2
  refine ee (cn (bT (ih.pl b _ _ (_,.mk L (j:Int) nest base dOk) Z L base hL hlen j nest q h3 hq)) ?_)
  rintro _ ⟨z,rfl,hz⟩
  exact hz
theorem FQ {f:Nat}(ih:Fol f):∀ b l,Fl b8 b l (unS (f+1) b l):=by
 intro b l L base hL hlen i nest q h hq
 rw [unS] at hq
 refine cq ?_
 simp only [b8]
 by_cases hs:sgB b l [33]=true
 ·
  rw [if_pos hs] at hq
  refine af (λ t=>∃ j:Nat,t=(1,L,(j:Int),nest,base,0,0,[])∧Pos L base j nest b l) ?_ ?_
  ·
   refine af _ (fk hL hlen _ h) ?_
   rintro ⟨z1,z2⟩ ⟨h1,j,h2,h3⟩
   replace h1:z1=_:=h1; subst h1; cases h2
   exact ai hs (ab ⟨j,Z,h3⟩)
  ·
   rintro _ ⟨j,rfl,h3⟩
   refine ag (show ¬ (1:Int)=0 by decide) ?_
   refine af _ (dN hL hlen h3 (sg6 hs)) ?_
   rintro ⟨z1,z2⟩ ⟨h1,j,h2,h3,h4,h5⟩
   replace h1:z1=_:=h1; subst h1; cases h2
   rcases bH hq with ⟨e,hx,rfl⟩ | ⟨c,l1,hx,hq⟩
   ·
    refine af _ (ih.u b _ L base hL hlen j nest _ h3 hx) ?_
    rintro ⟨z1,z2⟩ ⟨he,j,l',h2,h3⟩
    cases h2
    exact ab ⟨he,j,l',Z,h3⟩
   ·
    refine af _ (ih.u b _ L base hL hlen j nest _ h3 hx) ?_
    rintro ⟨z1,z2⟩ ⟨h1,j,h2,h3⟩
    replace h1:z1=_:=h1; subst h1; cases h2
    cases hq
    exact ab ⟨Z,j,Z,h3⟩
 rw [if_neg hs] at hq
 by_cases hs2:sgB b l [45]=true
 ·
  rw [if_pos hs2] at hq
  refine af (λ t=>∃ j:Nat,t=(2,L,(j:Int),nest,base,0,0,[])∧Pos L base j nest b l) ?_ ?_
  ·
   refine af _ (fk hL hlen _ h) ?_
   rintro ⟨z1,z2⟩ ⟨h1,j,h2,h3⟩
   replace h1:z1=_:=h1; subst h1; cases h2
   refine ag hs ?_
   refine af _ (fk hL hlen _ h3) ?_
   rintro ⟨z1,z2⟩ ⟨h1,j,h2,h3⟩
   replace h1:z1=_:=h1; subst h1; cases h2
   exact ai hs2 (ab ⟨j,Z,h3⟩)
  ·
   rintro _ ⟨j,rfl,h3⟩
   refine ag (show ¬ (2:Int)=0 by decide) ?_
   refine af _ (dN hL hlen h3 (sg6 hs2)) ?_
   rintro ⟨z1,z2⟩ ⟨h1,j,h2,h3,h4,h5⟩
   replace h1:z1=_:=h1; subst h1; cases h2
   rcases bH hq with ⟨e,hx,rfl⟩ | ⟨c,l1,hx,hq⟩
   ·
    refine af _ (ih.u b _ L base hL hlen j nest _ h3 hx) ?_
    rintro ⟨z1,z2⟩ ⟨he,j,l',h2,h3⟩
    cases h2
    exact ab ⟨he,j,l',Z,h3⟩
   ·
    refine af _ (ih.u b _ L base hL hlen j nest _ h3 hx) ?_
    rintro ⟨z1,z2⟩ ⟨h1,j,h2,h3⟩
    replace h1:z1=_:=h1; subst h1; cases h2
    cases hq
    exact ab ⟨Z,j,Z,h3⟩
 rw [if_neg hs2] at hq
 refine af (λ t=>∃ j:Nat,t=(0,L,(j:Int),nest,base,0,0,[])∧Pos L base j nest b l) ?_ ?_
 ·
  refine af _ (fk hL hlen _ h) ?_
  rintro ⟨z1,z2⟩ ⟨h1,j,h2,h3⟩
  replace h1:z1=_:=h1; subst h1; cases h2
  refine ag hs ?_
  refine af _ (fk hL hlen _ h3) ?_
  rintro ⟨z1,z2⟩ ⟨h1,j,h2,h3⟩
  replace h1:z1=_:=h1; subst h1; cases h2
  exact ag hs2 (ab ⟨j,Z,h3⟩)
 ·
  rintro _ ⟨j,rfl,h3⟩
  refine ai Z ?_
  refine af _ (AJ ih b l L base hL hlen j nest _ h3 hq) ?_
  rintro ⟨z1,z2⟩ hz
  exact ab hz
theorem ES {f:Nat}(ih:Fol f):∀ b l (x:ac) (r1:ac×ae),x.fAt=r1.1.fAt→∀ (L:List ad) (base:Int),Gd (L.map (mvT base))→L.length≤1000000000→∀ (i:Nat) (nest:Int) (q:PE⊕(ac×List ad)),Pos L base i nest b l→iw (f+1) b x l=some q →
  Ev2 (λ n m=>bg n (ay n) r1 m x.fKind x.fOp x.fName x.fKey x.fValue.fKind x.fValue.fNum x.fValue.fStr x.fValue.fItems x.fValue.fKeys x.fKids L (i:Int) nest base 0 0 []) (λ s=>∃ z,s=.inr z∧Out L base nest b q z):=by
 intro b l x r1 hat L base hL hlen i nest q h hq
 have hn:=h.2.1
 have hb:=h.2.2.2.1
 rw [iw] at hq
 refine aZ ?_
 simp only [bg]
 have eta:ac.mk x.fKind x.fOp x.fName x.fKey (ah.mk x.fValue.fKind x.fValue.fNum x.fValue.fStr x.fValue.fItems x.fValue.fKeys) x.fKids r1.1.fAt=x:=by rw [← hat]; exact D5 x
 rw [eta]
 refine ee ?_
 refine af _ (fk hL hlen _ h) ?_
 rintro ⟨z1,z2⟩ ⟨h1,j,h2,h3⟩
 replace h1:z1=_:=h1; subst h1; cases h2
 by_cases hs:sgB b l [46]=true
 ·
  rw [if_pos hs] at hq
  refine ai hs ?_
  refine af _ (dN hL hlen h3 (sg6 hs)) ?_
  rintro ⟨z1,z2⟩ ⟨h1,j,h2,h3,h4,h5⟩
  replace h1:z1=_:=h1; subst h1; cases h2
  refine af _ (eR hL hlen h3) ?_
  rintro ⟨z1,z2⟩ ⟨h1,j,h2,h3,h4,h5⟩
  replace h1:z1=_:=h1; subst h1; cases h2
  by_cases hk:(hd b (tl b l)).fKind=1
  ·
   rw [if_pos hk] at hq
   refine ai hk ?_
   refine af _ (dN hL hlen h3 O) ?_
   rintro ⟨z1,z2⟩ ⟨h1,j,h2,h3,h4,h5⟩
   replace h1:z1=_:=h1; subst h1; cases h2
   exact ab (ih.pl b _ (ac.mk 4 0 (hd b (tl b l)).fText [] v0 [x] x.fAt) r1 hat L base hL hlen j nest q h3 hq)
  ·
   rw [if_neg hk] at hq; cases hq
   refine ag hk (am _ (ao (gH _ _ _ _) Z) (ab ⟨_,Z,(by decide:(2:Int)≠0),j,_,Z,h3⟩))
 rw [if_neg hs] at hq
 refine ag hs ?_
 refine af _ (fk hL hlen _ h3) ?_
 rintro ⟨z1,z2⟩ ⟨h1,j,h2,h3⟩
 replace h1:z1=_:=h1; subst h1; cases h2
 by_cases hs2:sgB b l [91]=true
 ·
  rw [if_pos hs2] at hq
  refine ai hs2 ?_
  refine af _ (mL hL hlen h3 (sg6 hs2)) ?_
  rintro _ ⟨j,rfl,h3⟩
  rcases bH hq with ⟨e,hx,rfl⟩ | ⟨y,l1,hx,hq⟩
  ·
   refine af _ (ih.e true _ L base hL hlen j (nest+1) _ h3 hx) ?_
   rintro ⟨z1,z2⟩ ⟨he,j,l',h2,h3⟩
   cases h2
   refine af _ (fy hL hlen _ he hn hb h3) ?_
   rintro _ ⟨j,l',rfl,h3⟩
   refine ab (cn (lA hL hlen he h3 r1 _ _ _ _ _ _ _ _ _ _) ?_)
   rintro _ ⟨z,rfl,j,l',hz1,hz2⟩
   exact ⟨z,Z,he,j,l',hz1,hz2⟩
  ·
   refine af _ (ih.e true _ L base hL hlen j (nest+1) _ h3 hx) ?_
   rintro ⟨z1,z2⟩ ⟨h1,j,h2,h3⟩
   replace h1:z1=_:=h1; subst h1; cases h2
   rcases bH hq with ⟨e,hx,rfl⟩ | ⟨u,l2,hx,hq⟩
   ·
    refine af _ (eF hL hlen _ hn hb h3 hx) ?_
    rintro _ ⟨he,j,l',rfl,h3⟩
    refine ab (cn (lA hL hlen he h3 r1 _ _ _ _ _ _ _ _ _ _) ?_)
    rintro _ ⟨z,rfl,j,l',hz1,hz2⟩
    exact ⟨z,Z,he,j,l',hz1,hz2⟩
   ·
    refine af _ (eF hL hlen _ hn hb h3 hx) ?_
    rintro _ ⟨j,rfl,h3,h4⟩
    exact ab (ih.pl b _ (ac.mk 5 0 [] [] v0 [x,_] x.fAt) r1 hat L base hL hlen j nest q h3 hq)
 ·
  rw [if_neg hs2] at hq; cases hq
  exact ag hs2 (ab ⟨_,Z,Z,j,Z,h3⟩)
theorem Pos.gl {L:List ad}{base:Int}(hL:Gd (L.map (mvT base)))(hlen:L.length≤1000000000){i:Nat}{nest:Int}{b:Bool}{l:List ad}(h:Pos L base i nest b l)(hk:(hd b l).fKind≠6):Gl (tl b l):=by
 refine ⟨x9 (h.gd hL) hk,?_⟩
 have h1:=congrArg List.length (n0 (h.gd hL))
 have h2:=congrArg List.length h.2.2.2.2
 have h3:=wi b ((L.drop i).map (mvT base))
 rw [List.length_map,List.length_drop] at h3
 rw [List.length_cons] at h1
 omega
theorem ym {b:Bool}{s:Bytes}{l:List ad}{e:PE}(h:fG b s l=some (.inl e)):e.1≠0:=by
 unfold fG at h
 split at h
 ·cases h
 ·cases h; exact (show (2:Int)≠0 by decide)
def LP (L:List ad)(base nest:Int)(en:Bytes)(q:PE⊕(List ac×List ad))(r:List ac×ae):Prop:=match q with
 | .inl e=>e.1≠0∧∃ (j:Nat) (l':List ad),(r.2=.mk L (j:Int) nest base (eD e)∧Pos L base j nest true l')∨(r.2=.mk L (j:Int) nest base dOk∧Pos L base j nest true l'∧fG true en l'=some (.inl e))
 | .inr (ks,l')=>∃ (j:Nat) (l'':List ad),r.1=ks∧r.2=.mk L (j:Int) nest base dOk∧Pos L base j nest true l''∧fG true en l''=some (.inr ((),l'))
theorem nY {f:Nat}(ih:Fol f):∀ (en:Bytes) (l:List ad),Gl l→∀ (L:List ad) (base:Int),Gd (L.map (mvT base))→L.length≤1000000000→∀ (i:Nat) (nest:Int) (q:PE⊕(List ac×List ad)),Pos L base i nest true l→fU f en l=some q →
  Ev2 (λ n _=>dm n (.mk L (i:Int) nest base dOk) en) (LP L base nest en q):=by
 intro en l gl L base hL hlen i nest q h hq
 refine cq ?_
 simp only [dm]
 refine af _ (bT (ih.i en l [] gl.1 (by have:=gl.2; simp only [List.length_nil]; omega) L base hL hlen i nest q h hq)) ?_
 rintro ⟨ks,z⟩ hz
 rcases q with e | ⟨ks',l'⟩
 ·obtain ⟨he,j,l',⟨hz,h3⟩ | ⟨hz,h3,h4⟩⟩:=hz
  ·cases hz; exact ab ⟨he,j,l',.inl ⟨rfl,h3⟩⟩
  ·cases hz; exact ab ⟨he,j,l',.inr ⟨rfl,h3,h4⟩⟩
 ·obtain ⟨j,l'',hz,h3,h4⟩:=hz
  cases hz; exact ab ⟨j,l'',rfl,rfl,h3,h4⟩
theorem xG {f:Nat}(ih:Fol f):∀ (l:List ad),Gl l→∀ (L:List ad) (base:Int),Gd (L.map (mvT base))→L.length≤1000000000→∀ (i:Nat) (nest:Int) (q:PE⊕(List ac×List ad)),Pos L base i nest true l→lw f l=some q →
  Ev2 (λ n _=>cS n (.mk L (i:Int) nest base dOk)) (LP L base nest [125] q):=by
 intro l gl L base hL hlen i nest q h hq
 refine cq ?_
 simp only [cS]
 refine af _ (bT (ih.t l [] gl (by have:=gl.2; simp only [List.length_nil]; omega) L base hL hlen i nest q h hq)) ?_
 rintro ⟨ks,z⟩ hz
 rcases q with e | ⟨ks',l'⟩
 ·obtain ⟨he,j,l',⟨hz,h3⟩ | ⟨hz,h3,h4⟩⟩:=hz
  ·cases hz; exact ab ⟨he,j,l',.inl ⟨rfl,h3⟩⟩
  ·cases hz; exact ab ⟨he,j,l',.inr ⟨rfl,h3,h4⟩⟩
 ·obtain ⟨j,l'',hz,h3,h4⟩:=hz
  cases hz; exact ab ⟨j,l'',rfl,rfl,h3,h4⟩
theorem F3 {f:Nat}(ih:Fol f):∀ b l,Fl bV b l (jA (f+1) b l):=by
 intro b l L base hL hlen i nest q h hq
 have hn:=h.2.1
 have hb:=h.2.2.2.1
 rw [jA] at hq
 refine cq ?_
 simp only [bV,aV,Option.bind_some]
 refine ag Bool.false_ne_true ?_
 refine af _ (eR hL hlen h) ?_
 rintro ⟨z1,z2⟩ ⟨h1,j,h2,h3,h4,h5⟩
 replace h1:z1=_:=h1; subst h1; cases h2
 have tk:=rp (h3.gd hL)
 have t1':=tk.1
 have t2':=tk.2.1
 by_cases k2:(hd b l).fKind=2
 ·
  rw [if_pos k2] at hq
  refine ai k2 (am _ (vm _ (show (hd b l).fText.length≤1000000000 by omega)) ?_)
  by_cases hz:(vT (hd b l).fText).2=0
  ·
   rw [if_pos hz] at hq; cases hq
   refine ai hz ?_
   refine af _ (dN hL hlen h3 O) ?_
   rintro ⟨z1,z2⟩ ⟨h1,j,h2,h3,h4,h5⟩
   replace h1:z1=_:=h1; subst h1; cases h2
   exact am _ (ao Z Z) (ab ⟨Z,j,Z,h3⟩)
  ·
   rw [if_neg hz] at hq; cases hq
   exact ag hz (am _ (ao (gH _ _ _ _) Z) (ab ⟨hz,j,l,Z,h3⟩))
 rw [if_neg k2] at hq
 refine ag k2 ?_
 by_cases k3:(hd b l).fKind=3
 ·
  rw [if_pos k3] at hq
  refine ai k3 (af _ (ih.s b l k3 L base hL hlen j nest q h3 hq) ?_)
  rintro ⟨z1,z2⟩ hz
  exact ab hz
 rw [if_neg k3] at hq
 refine ag k3 ?_
 by_cases k1:(hd b l).fKind=1
 ·
  rw [if_pos k1] at hq
  refine ai k1 (af _ (ih.n b l k1 L base hL hlen j nest q h3 hq) ?_)
  rintro ⟨z1,z2⟩ hz
  exact ab hz
 rw [if_neg k1] at hq
 refine ag k1 ?_
 by_cases k4:(hd b l).fKind=4
 ·
  have sg:∀ s,sgB b l s=true↔(hd b l).fText=s:=λ s=>by rw [nV]; exact ⟨λ h=>h.2,λ h=>⟨k4,h⟩⟩
  refine ai k4 (af (Out L base nest b q) (cq ?_) (λ z hz=>ab hz))
  simp only [da]
  refine af _ (eR hL hlen h3) ?_
  rintro ⟨z1,z2⟩ ⟨h1,j,h2,h3,h4,h5⟩
  replace h1:z1=_:=h1; subst h1; cases h2
  by_cases s1:(hd b l).fText=[40]
  ·
   rw [if_pos ((sg _).2 s1)] at hq
   refine ai s1 ?_
   refine af _ (mL hL hlen h3 O) ?_
   rintro _ ⟨j,rfl,h3⟩
   rcases bH hq with ⟨e,hx,rfl⟩ | ⟨c,l1,hx,hq⟩
   ·
    refine af _ (ih.e true _ L base hL hlen j (nest+1) _ h3 hx) ?_
    rintro ⟨z1,z2⟩ ⟨he,j,l',h2,h3⟩
    cases h2
    refine af _ (fy hL hlen _ he hn hb h3) ?_
    rintro _ ⟨j,l',rfl,h3⟩
    exact ab ⟨he,j,l',Z,h3⟩
   ·
    refine af _ (ih.e true _ L base hL hlen j (nest+1) _ h3 hx) ?_
    rintro ⟨z1,z2⟩ ⟨h1,j,h2,h3⟩
    replace h1:z1=_:=h1; subst h1; cases h2
    rcases bH hq with ⟨e,hx,rfl⟩ | ⟨u,l2,hx,hq⟩
    ·
     refine af _ (eF hL hlen _ hn hb h3 hx) ?_
     rintro _ ⟨he,j,l',rfl,h3⟩
     exact ab ⟨he,j,l',Z,h3⟩
    ·
     refine af _ (eF hL hlen _ hn hb h3 hx) ?_
     rintro _ ⟨j,rfl,h3,h4⟩
     cases hq
     exact ab ⟨Z,j,Z,h3⟩
  rw [if_neg (λ h=>s1 ((sg _).1 h))] at hq
  refine ag s1 ?_
  by_cases s2:(hd b l).fText=[91]
  ·
   rw [if_pos ((sg _).2 s2)] at hq
   refine ai s2 ?_
   have gl:=h3.gl hL hlen (by omega:(hd b l).fKind≠6)
   refine af _ (mL hL hlen h3 O) ?_
   rintro _ ⟨j,rfl,h3⟩
   refine af _ (oG hL hlen _ h3) ?_
   rintro ⟨z1,z2⟩ ⟨h1,j,h2,h3⟩
   replace h1:z1=_:=h1; subst h1; cases h2
   by_cases hw:wdB true (tl b l) [102,111,114]=true
   ·
    rw [if_pos hw] at hq
    refine ai hw (af _ (ih.lo (hd b l).fAt 12 (tl b l) hw (by decide) L base hL hlen j nest b q hn hb h3 hq) ?_)
    rintro ⟨z1,z2⟩ hz
    exact ab hz
   ·
    rw [if_neg hw] at hq
    refine ag hw ?_
    rcases bH hq with ⟨e,hx,rfl⟩ | ⟨ks,l1,hx,hq⟩
    ·
     refine af _ (nY ih _ _ gl L base hL hlen j (nest+1) _ h3 hx) ?_
     rintro ⟨ys,z⟩ ⟨he,j,l',⟨hz,h3⟩ | ⟨hz,h3,hxx⟩⟩
     ·cases hz
      refine af _ (fy hL hlen _ he hn hb h3) ?_
      rintro _ ⟨j,l',rfl,h3⟩
      exact ab ⟨he,j,l',Z,h3⟩
     ·cases hz
      refine af _ (eF hL hlen _ hn hb h3 hxx) ?_
      rintro _ ⟨he,j,l',rfl,h3⟩
      exact ab ⟨he,j,l',Z,h3⟩
    ·
     refine af _ (nY ih _ _ gl L base hL hlen j (nest+1) _ h3 hx) ?_
     rintro ⟨ys,z⟩ ⟨j,l'',hy,hz,h3,hxx⟩
     cases hy; cases hz
     refine af _ (eF hL hlen _ hn hb h3 hxx) ?_
     rintro _ ⟨j,rfl,h3,h4⟩
     cases hq
     exact ab ⟨Z,j,Z,h3⟩
  rw [if_neg (λ h=>s2 ((sg _).1 h))] at hq
  refine ag s2 ?_
  by_cases s3:(hd b l).fText=[123]
  ·
   rw [if_pos ((sg _).2 s3)] at hq
   refine ai s3 ?_
   have gl:=h3.gl hL hlen (by omega:(hd b l).fKind≠6)
   refine af _ (mL hL hlen h3 O) ?_
   rintro _ ⟨j,rfl,h3⟩
   refine af _ (oG hL hlen _ h3) ?_
   rintro ⟨z1,z2⟩ ⟨h1,j,h2,h3⟩
   replace h1:z1=_:=h1; subst h1; cases h2
   by_cases hw:wdB true (tl b l) [102,111,114]=true
   ·
    rw [if_pos hw] at hq
    refine ai hw (af _ (ih.lo (hd b l).fAt 13 (tl b l) hw (by decide) L base hL hlen j nest b q hn hb h3 hq) ?_)
    rintro ⟨z1,z2⟩ hz
    exact ab hz
   ·
    rw [if_neg hw] at hq
    refine ag hw ?_
    rcases bH hq with ⟨e,hx,rfl⟩ | ⟨ks,l1,hx,hq⟩
    ·
     refine af _ (xG ih _ gl L base hL hlen j (nest+1) _ h3 hx) ?_
     rintro ⟨ys,z⟩ ⟨he,j,l',⟨hz,h3⟩ | ⟨hz,h3,hxx⟩⟩
     ·cases hz
      refine af _ (fy hL hlen _ he hn hb h3) ?_
      rintro _ ⟨j,l',rfl,h3⟩
      exact ab ⟨he,j,l',Z,h3⟩
     ·cases hz
      refine af _ (eF hL hlen _ hn hb h3 hxx) ?_
      rintro _ ⟨he,j,l',rfl,h3⟩
      exact ab ⟨he,j,l',Z,h3⟩
    ·
     refine af _ (xG ih _ gl L base hL hlen j (nest+1) _ h3 hx) ?_
     rintro ⟨ys,z⟩ ⟨j,l'',hy,hz,h3,hxx⟩
     cases hy; cases hz
     refine af _ (eF hL hlen _ hn hb h3 hxx) ?_
     rintro _ ⟨j,rfl,h3,h4⟩
     cases hq
     exact ab ⟨Z,j,Z,h3⟩
  rw [if_neg (λ h=>s3 ((sg _).1 h))] at hq; cases hq
  exact ag s3 (am _ (ao (gH _ _ _ _) Z) (ab ⟨(by decide:(2:Int)≠0),j,l,Z,h3⟩))
 ·
  have sn:∀ s,¬ sgB b l s=true:=λ s h=>k4 (nV.1 h).1
  rw [if_neg (sn _),if_neg (sn _),if_neg (sn _)] at hq; cases hq
  exact ag k4 (am _ (ao (gH _ _ _ _) Z) (ab ⟨(by decide:(2:Int)≠0),j,l,Z,h3⟩))
theorem Gm {f:Nat}(ih:Fol f):∀ b l,(hd b l).fKind=1→Fl dk b l (jI (f+1) b l):=by
 intro b l k1 L base hL hlen i nest q h hq
 have hn:=h.2.1
 have hb:=h.2.2.2.1
 rw [jI] at hq
 refine cq ?_
 simp only [dk]
 refine af _ (eR hL hlen h) ?_
 rintro ⟨z1,z2⟩ ⟨h1,j,h2,h3,h4,h5⟩
 replace h1:z1=_:=h1; subst h1; cases h2
 by_cases s1:(hd b l).fText=[110,117,108,108]
 ·
  rw [if_pos s1] at hq; cases hq
  refine ai s1 ?_
  refine af _ (dN hL hlen h3 O) ?_
  rintro ⟨z1,z2⟩ ⟨h1,j,h2,h3,h4,h5⟩
  replace h1:z1=_:=h1; subst h1; cases h2
  exact am _ (ao Z Z) (ab ⟨Z,j,Z,h3⟩)
 rw [if_neg s1] at hq
 refine ag s1 ?_
 by_cases s2:(hd b l).fText=[116,114,117,101]
 ·
  rw [if_pos s2] at hq; cases hq
  refine am true (ai s2 (ab Z)) (ai Z ?_)
  refine af _ (dN hL hlen h3 O) ?_
  rintro ⟨z1,z2⟩ ⟨h1,j,h2,h3,h4,h5⟩
  replace h1:z1=_:=h1; subst h1; cases h2
  exact am 1 (ai s2 (ab Z)) (am _ (ao Z Z) (ab ⟨Z,j,Z,h3⟩))
 rw [if_neg s2] at hq
 by_cases s3:(hd b l).fText=[102,97,108,115,101]
 ·
  rw [if_pos s3] at hq; cases hq
  refine am true (ag s2 (ab (decide_eq_true s3))) (ai Z ?_)
  refine af _ (dN hL hlen h3 O) ?_
  rintro ⟨z1,z2⟩ ⟨h1,j,h2,h3,h4,h5⟩
  replace h1:z1=_:=h1; subst h1; cases h2
  exact am 0 (ag s2 (ab Z)) (am _ (ao Z Z) (ab ⟨Z,j,Z,h3⟩))
 rw [if_neg s3] at hq
 refine am false (ag s2 (ab (decide_eq_false s3))) (ag Bool.false_ne_true (am _ (ao (rC _) Z) ?_))
 by_cases s4:oj (hd b l).fText=true
 ·
  rw [if_pos s4] at hq; cases hq
  exact ai s4 (am _ (ao (gH _ _ _ _) Z) (ab ⟨(by decide:(2:Int)≠0),j,l,Z,h3⟩))
 rw [if_neg s4] at hq
 refine ag s4 ?_
 refine af _ (dN hL hlen h3 O) ?_
 rintro ⟨z1,z2⟩ ⟨h1,j,h2,h3,h4,h5⟩
 replace h1:z1=_:=h1; subst h1; cases h2
 refine af _ (fk hL hlen _ h3) ?_
 rintro ⟨z1,z2⟩ ⟨h1,j,h2,h3⟩
 replace h1:z1=_:=h1; subst h1; cases h2
 by_cases s5:sgB b (tl b l) [40]=true
 ·
  rw [if_pos s5] at hq
  refine ag (by simp [s5]) ?_
  have gl:=h3.gl hL hlen (sg6 s5)
  refine af _ (mL hL hlen h3 (sg6 s5)) ?_
  rintro _ ⟨j,rfl,h3⟩
  rcases bH hq with ⟨e,hx,rfl⟩ | ⟨ks,l1,hx,hq⟩
  ·
   refine af _ (nY ih _ _ gl L base hL hlen j (nest+1) _ h3 hx) ?_
   rintro ⟨ys,z⟩ ⟨he,j,l',⟨hz,h3⟩ | ⟨hz,h3,hxx⟩⟩
   ·cases hz
    refine af _ (fy hL hlen _ he hn hb h3) ?_
    rintro _ ⟨j,l',rfl,h3⟩
    exact ab ⟨he,j,l',Z,h3⟩
   ·cases hz
    refine af _ (eF hL hlen _ hn hb h3 hxx) ?_
    rintro _ ⟨he,j,l',rfl,h3⟩
    exact ab ⟨he,j,l',Z,h3⟩
  ·
   refine af _ (nY ih _ _ gl L base hL hlen j (nest+1) _ h3 hx) ?_
   rintro ⟨ys,z⟩ ⟨j,l'',hy,hz,h3,hxx⟩
   cases hy; cases hz
   refine af _ (eF hL hlen _ hn hb h3 hxx) ?_
   rintro _ ⟨j,rfl,h3,h4⟩
   cases hq
   exact ab ⟨Z,j,Z,h3⟩
 ·
  rw [if_neg s5] at hq; cases hq
  exact ai (by simpa using s5) (ab ⟨Z,j,Z,h3⟩)
theorem Gf {f:Nat}(ih:Fol f):∀ (en:Bytes) (l:List ad) (out:List ac),Gd l→out.length+l.length≤1000000000→∀ (L:List ad) (base:Int),Gd (L.map (mvT base))→L.length≤1000000000→∀ (i:Nat) (nest:Int) (q:PE⊕(List ac×List ad)),Pos L base i nest true l→fU (f+1) en l=some q →
  Ev2 (λ n m=>bW n (ay n) en m out L (i:Int) nest base 0 0 []) (CP L base nest en out q):=by
 intro en l out hg hsz L base hL hlen i nest q h hq
 have gl:Gl l:=⟨hg,by omega⟩
 have gt:=gll (b:=true) gl
 rw [fU] at hq
 refine aZ ?_
 simp only [bW,aV,Option.bind_some]
 refine af (λ t=>∃ j:Nat,t=(!sgB true l en,L,(j:Int),nest,base,0,0,[])∧Pos L base j nest true l) ?_ ?_
 ·
  refine ai Z ?_
  refine af _ (fk hL hlen _ h) ?_
  rintro ⟨z1,z2⟩ ⟨h1,j,h2,h3⟩
  replace h1:z1=_:=h1; subst h1; cases h2
  exact ab ⟨j,Z,h3⟩
 rintro _ ⟨j,rfl,h3⟩
 by_cases hs:sgB true l en=true
 ·
  rw [if_pos hs] at hq; cases hq
  refine ag (by simp [hs]) (ab ⟨j,l,by rw [List.append_nil],h3,?_⟩)
  unfold fG; rw [if_pos hs]; rfl
 rw [if_neg hs] at hq
 refine ai (by simpa using hs) ?_
 rcases bH hq with ⟨e,hx,rfl⟩ | ⟨x,l1,hx,hq⟩
 ·
  refine af _ (ih.e true l L base hL hlen j nest _ h3 hx) ?_
  rintro ⟨z1,z2⟩ ⟨he,j,l',h2,h3⟩
  cases h2
  refine av (by simp only [List.length_cons,List.length_nil,List.length_append]; omega) ?_
  refine af _ (jh hL hlen _ he h3) ?_
  rintro _ ⟨j,rfl,h3⟩
  exact ai Z (ab ⟨he,j,l',.inl ⟨Z,h3⟩⟩)
 ·
  refine af _ (ih.e true l L base hL hlen j nest _ h3 hx) ?_
  rintro ⟨z1,z2⟩ ⟨h1,j,h2,h3⟩
  replace h1:z1=_:=h1; subst h1; cases h2
  have f1:=(fct f).e true l gl _ hx
  refine av (by simp only [List.length_cons,List.length_nil,List.length_append]; omega) ?_
  refine af _ (fk hL hlen _ h3) ?_
  rintro ⟨z1,z2⟩ ⟨h1,j,h2,h3⟩
  replace h1:z1=_:=h1; subst h1; cases h2
  by_cases hc:sgB true l1 [44]=true
  ·
   rw [if_pos hc] at hq
   refine ag (by simp [hc]) ?_
   have b1:=f1.2.1.length_le
   have b2:=gll (b:=true) f1.2.2
   have g2:=glt f1.2.2 hc
   refine af _ (dN hL hlen h3 (sg6 hc)) ?_
   rintro ⟨z1,z2⟩ ⟨h1,j,h2,h3,h4,h5⟩
   replace h1:z1=_:=h1; subst h1; cases h2
   rcases bH hq with ⟨e,hy,rfl⟩ | ⟨ks,l2,hy,hq⟩
   ·
    exact cn (ih.i en _ (out++[_]) g2.1 (by simp only [List.length_append,List.length_cons,List.length_nil]; omega) L base hL hlen j nest _ h3 hy) (λ r hr=>hr)
   ·
    cases hq
    refine cn (ih.i en _ (out++[_]) g2.1 (by simp only [List.length_append,List.length_cons,List.length_nil]; omega) L base hL hlen j nest _ h3 hy) ?_
    rintro r ⟨j,l'',rfl,h3,hn⟩
    exact ⟨j,l'',by rw [List.append_assoc]; rfl,h3,hn⟩
  ·
   rw [if_neg hc] at hq
   refine ai (by simpa using hc) ?_
   rcases bH hq with ⟨e,hy,rfl⟩ | ⟨u,l2,hy,hq⟩
   ·exact ab ⟨ym hy,j,l1,.inr ⟨Z,h3,hy⟩⟩
   ·cases hq
    exact ab ⟨j,l1,Z,h3,hy⟩
theorem FN {f:Nat}(ih:Fol f):∀ (l:List ad) (out:List ac),Gl l→out.length+2*l.length≤3000000000→∀ (L:List ad) (base:Int),Gd (L.map (mvT base))→L.length≤1000000000→∀ (i:Nat) (nest:Int) (q:PE⊕(List ac×List ad)),Pos L base i nest true l→lw (f+1) l=some q →
  Ev2 (λ n m=>bA n (ay n) (cp n) m out L (i:Int) nest base 0 0 []) (CP L base nest [125] out q):=by
 intro l out gl hsz L base hL hlen i nest q h hq
 have hgn:=n0 (h.gd hL)
 rw [lw] at hq
 refine aZ ?_
 simp only [bA,aV,Option.bind_some]
 refine af (λ t=>∃ j:Nat,t=(!sgB true l [125],L,(j:Int),nest,base,0,0,[])∧Pos L base j nest true l) ?_ ?_
 ·
  refine ai Z ?_
  refine af _ (fk hL hlen _ h) ?_
  rintro ⟨z1,z2⟩ ⟨h1,j,h2,h3⟩
  replace h1:z1=_:=h1; subst h1; cases h2
  exact ab ⟨j,Z,h3⟩
 rintro _ ⟨j,rfl,h3⟩
 by_cases hs:sgB true l [125]=true
 ·
  rw [if_pos hs] at hq; cases hq
  refine ag (by simp [hs]) (ab ⟨j,l,by rw [List.append_nil],h3,?_⟩)
  unfold fG; rw [if_pos hs]; rfl
 rw [if_neg hs] at hq
 refine ai (by simpa using hs) ?_
 rcases bH hq with ⟨e,hx,rfl⟩ | ⟨x,l1,hx,hq⟩
 ·
  refine af _ (ih.k l L base hL hlen j nest _ h3 hx) ?_
  rintro ⟨z1,z2⟩ ⟨he,j,l',h2,h3⟩
  cases h2
  refine av (by simp only [List.length_cons,List.length_nil,List.length_append]; omega) ?_
  refine af _ (jd hL hlen _ he h3) ?_
  rintro _ ⟨j,l',rfl,h3⟩
  refine af _ (gj hL hlen he h3) ?_
  rintro ⟨z1,z2⟩ ⟨j,l',h2,h3⟩
  cases h2
  refine av (by simp only [List.length_cons,List.length_nil,List.length_append]; omega) ?_
  refine af _ (jh hL hlen _ he h3) ?_
  rintro _ ⟨j,rfl,h3⟩
  exact ai Z (ab ⟨he,j,l',.inl ⟨Z,h3⟩⟩)
 ·
  refine af _ (ih.k l L base hL hlen j nest _ h3 hx) ?_
  rintro ⟨z1,z2⟩ ⟨h1,j,h2,h3⟩
  replace h1:z1=_:=h1; subst h1; cases h2
  refine av (by simp only [List.length_cons,List.length_nil,List.length_append]; omega) ?_
  rcases bH hq with ⟨e,hy,rfl⟩ | ⟨u,l2,hy,hq⟩
  ·
   refine af _ (jq hL hlen _ h3 hy) ?_
   rintro _ ⟨he,j,l',rfl,h3⟩
   refine af _ (gj hL hlen he h3) ?_
   rintro ⟨z1,z2⟩ ⟨j,l',h2,h3⟩
   cases h2
   refine av (by simp only [List.length_cons,List.length_nil,List.length_append]; omega) ?_
   refine af _ (jh hL hlen _ he h3) ?_
   rintro _ ⟨j,rfl,h3⟩
   exact ai Z (ab ⟨he,j,l',.inl ⟨Z,h3⟩⟩)
  ·
   refine af _ (jq hL hlen _ h3 hy) ?_
   rintro _ ⟨j,rfl,h3,h4⟩
   rcases bH hq with ⟨e,hv,rfl⟩ | ⟨y,l3,hv,hq⟩
   ·
    refine af _ (ih.e true l2 L base hL hlen j nest _ h3 hv) ?_
    rintro ⟨z1,z2⟩ ⟨he,j,l',h2,h3⟩
    cases h2
    refine av (by simp only [List.length_cons,List.length_nil,List.length_append]; omega) ?_
    refine af _ (jh hL hlen _ he h3) ?_
    rintro _ ⟨j,rfl,h3⟩
    exact ai Z (ab ⟨he,j,l',.inl ⟨Z,h3⟩⟩)
   ·
    refine af _ (ih.e true l2 L base hL hlen j nest _ h3 hv) ?_
    rintro ⟨z1,z2⟩ ⟨h1,j,h2,h3⟩
    replace h1:z1=_:=h1; subst h1; cases h2
    refine av (by simp only [List.length_cons,List.length_nil,List.length_append]; omega) ?_
    refine af _ (fk hL hlen _ h3) ?_
    rintro ⟨z1,z2⟩ ⟨h1,j,h2,h3⟩
    replace h1:z1=_:=h1; subst h1; cases h2
    by_cases hc:sgB true l3 [44]=true
    ·
     rw [if_pos hc] at hq
     refine ag (by simp [hc]) ?_
     have gt:=gll (b:=true) gl
     have f1:=(fct f).k l gl _ hx
     have f2:=cy (b:=true) (s:=[61]) f1.2.2 _ hy
     have f3:=(fct f).e true l2 f2.2.2 _ hv
     have b1:=f1.2.1.length_le
     have b2:=(f2.2.1.trans (tlS true l1)).length_le
     have b3:=(f3.2.1.trans (tlS true l2)).length_le
     have b4:=gll (b:=true) f3.2.2
     have g2:=glt f3.2.2 hc
     refine af _ (dN hL hlen h3 (sg6 hc)) ?_
     rintro ⟨z1,z2⟩ ⟨h1,j,h2,h3,h4,h5⟩
     replace h1:z1=_:=h1; subst h1; cases h2
     rcases bH hq with ⟨e,hr,rfl⟩ | ⟨ks,l4,hr,hq⟩
     ·
      exact cn (ih.t _ ((out++[_])++[_]) g2 (by simp only [List.length_append,List.length_cons,List.length_nil]; omega) L base hL hlen j nest _ h3 hr) (λ r hr=>hr)
     ·
      cases hq
      refine cn (ih.t _ ((out++[_])++[_]) g2 (by simp only [List.length_append,List.length_cons,List.length_nil]; omega) L base hL hlen j nest _ h3 hr) ?_
      rintro r ⟨j,l'',rfl,h3,hn⟩
      exact ⟨j,l'',by rw [List.append_assoc,List.append_assoc]; rfl,h3,hn⟩
    ·
     rw [if_neg hc] at hq
     refine ai (by simpa using hc) ?_
     rcases bH hq with ⟨e,hr,rfl⟩ | ⟨u,l4,hr,hq⟩
     ·exact ab ⟨ym hr,j,l3,.inr ⟨Z,h3,hr⟩⟩
     ·cases hq
      exact ab ⟨j,l3,by rw [List.append_assoc]; rfl,h3,hr⟩
theorem FP {f:Nat}(ih:Fol f):∀ l,Fl cp true l (jJ (f+1) l):=by
 intro l L base hL hlen i nest q h hq
 have hn:=h.2.1
 have hb:=h.2.2.2.1
 rw [jJ] at hq
 refine cq ?_
 simp only [cp]
 refine af _ (eR hL hlen h) ?_
 rintro ⟨z1,z2⟩ ⟨h1,j,h2,h3,h4,h5⟩
 replace h1:z1=_:=h1; subst h1; cases h2
 by_cases k1:(hd true l).fKind=1
 ·
  rw [if_pos k1] at hq; cases hq
  refine ai k1 ?_
  refine af _ (dN hL hlen h3 O) ?_
  rintro ⟨z1,z2⟩ ⟨h1,j,h2,h3,h4,h5⟩
  replace h1:z1=_:=h1; subst h1; cases h2
  exact am _ (ao Z Z) (ab ⟨Z,j,Z,h3⟩)
 rw [if_neg k1] at hq
 refine ag k1 ?_
 by_cases k3:(hd true l).fKind=3
 ·
  rw [if_pos k3] at hq
  refine ai k3 (af _ (ih.s true l k3 L base hL hlen j nest q h3 hq) ?_)
  rintro ⟨z1,z2⟩ hz
  exact ab hz
 rw [if_neg k3] at hq
 refine ag k3 ?_
 refine af _ (fk hL hlen _ h3) ?_
 rintro ⟨z1,z2⟩ ⟨h1,j,h2,h3⟩
 replace h1:z1=_:=h1; subst h1; cases h2
 by_cases s1:sgB true l [40]=true
 ·
  rw [if_pos s1] at hq
  refine ai s1 ?_
  refine af _ (mL hL hlen h3 (sg6 s1)) ?_
  rintro _ ⟨j,rfl,h3⟩
  rcases bH hq with ⟨e,hx,rfl⟩ | ⟨c,l1,hx,hq⟩
  ·
   refine af _ (ih.e true _ L base hL hlen j (nest+1) _ h3 hx) ?_
   rintro ⟨z1,z2⟩ ⟨he,j,l',h2,h3⟩
   cases h2
   refine af _ (fy hL hlen _ he hn hb h3) ?_
   rintro _ ⟨j,l',rfl,h3⟩
   exact ab ⟨he,j,l',Z,h3⟩
  ·
   refine af _ (ih.e true _ L base hL hlen j (nest+1) _ h3 hx) ?_
   rintro ⟨z1,z2⟩ ⟨h1,j,h2,h3⟩
   replace h1:z1=_:=h1; subst h1; cases h2
   rcases bH hq with ⟨e,hx,rfl⟩ | ⟨u,l2,hx,hq⟩
   ·
    refine af _ (eF hL hlen _ hn hb h3 hx) ?_
    rintro _ ⟨he,j,l',rfl,h3⟩
    exact ab ⟨he,j,l',Z,h3⟩
   ·
    refine af _ (eF hL hlen _ hn hb h3 hx) ?_
    rintro _ ⟨j,rfl,h3,h4⟩
    cases hq
    exact ab ⟨Z,j,Z,h3⟩
 ·
  rw [if_neg s1] at hq; cases hq
  exact ag s1 (am _ (ao (gH _ _ _ _) Z) (ab ⟨(by decide:(2:Int)≠0),j,l,Z,h3⟩))
theorem Fg {f:Nat}(ih:Fol f):∀ (a k:Int) l,wdB true l [102,111,114]=true→k=12∨k=13→FlC (λ n p=>cN n p a k) l (iV (f+1) a k (tl true l)):=by
 intro a k l hw hk L base hL hlen i nest b q hn hb h hq
 rw [iV] at hq
 refine cq ?_
 simp only [cN]
 refine af _ (dN hL hlen h (wd6 hw)) ?_
 rintro ⟨z1,z2⟩ ⟨h1,j,h2,h3,h4,h5⟩
 replace h1:z1=_:=h1; subst h1; cases h2
 rcases bH hq with ⟨e,hx,rfl⟩ | ⟨v,l1,hx,hq⟩
 ·
  refine af _ (kq hL hlen h3 hx) ?_
  rintro ⟨z1,z2⟩ ⟨he,j,l',h2,h3⟩
  cases h2
  refine af (λ t=>∃ (w1 w2:Bytes) (j:Nat) (l':List ad),t=(w1,w2,L,(j:Int),nest+1,base,e.1,e.2,[])∧Pos L base j (nest+1) true l') ?_ ?_
  ·refine af _ (jh hL hlen _ he h3) ?_
   rintro _ ⟨j,rfl,h3⟩
   exact ag Bool.false_ne_true (ab ⟨_,_,j,_,Z,h3⟩)
  rintro _ ⟨w1,w2,j,l',rfl,h3⟩
  refine af _ (sW hL hlen _ he h3) ?_
  rintro _ ⟨j,l',rfl,h3⟩
  refine af _ (gj hL hlen he h3) ?_
  rintro ⟨z1,z2⟩ ⟨j,l',h2,h3⟩
  cases h2
  refine av (by simp only [List.length_cons,List.length_nil,List.length_append]; omega) ?_
  refine af _ (jd hL hlen _ he h3) ?_
  rintro _ ⟨j,l',rfl,h3⟩
  refine af _ (gj hL hlen he h3) ?_
  rintro ⟨z1,z2⟩ ⟨j,l',h2,h3⟩
  cases h2
  refine av (by simp only [List.length_cons,List.length_nil,List.length_append]; omega) ?_
  refine af (λ t=>∃ (en:Bytes) (ks:List ac) (j:Nat) (l':List ad),t=(en,ks,L,(j:Int),nest+1,base,e.1,e.2,[])∧ks.length≤3∧Pos L base j (nest+1) true l') ?_ ?_
  ·refine aK (λ hk=>?_) (λ hk=>ab ⟨_,_,j,l',Z,by simp,h3⟩)
   refine af _ (jd hL hlen _ he h3) ?_
   rintro _ ⟨j,l',rfl,h3⟩
   refine af _ (gj hL hlen he h3) ?_
   rintro ⟨z1,z2⟩ ⟨j,l',h2,h3⟩
   cases h2
   refine av (by simp only [List.length_cons,List.length_nil,List.length_append]; omega) ?_
   exact ab ⟨_,_,j,l',Z,by simp,h3⟩
  rintro _ ⟨en,ks,j,l',rfl,hks,h3⟩
  refine af (λ t=>∃ (ks:List ac) (j:Nat) (l':List ad),t=(ks,L,(j:Int),nest+1,base,e.1,e.2,[])∧Pos L base j (nest+1) true l') ?_ ?_
  ·refine af _ (me hL hlen _ he h3) ?_
   rintro _ ⟨j,rfl,h3⟩
   exact ag Bool.false_ne_true (ab ⟨_,j,_,Z,h3⟩)
  rintro _ ⟨ks,j,l',rfl,h3⟩
  refine af _ (fy hL hlen _ he hn hb h3) ?_
  rintro _ ⟨j,l',rfl,h3⟩
  exact ab ⟨he,j,l',Z,h3⟩
 ·
  refine af _ (kq hL hlen h3 hx) ?_
  rintro ⟨z1,z2⟩ ⟨h1,j,h2,h3⟩
  replace h1:z1=_:=h1; subst h1; cases h2
  rcases bH hq with ⟨e,hy,rfl⟩ | ⟨nk,l2,hy,hq⟩
  ·
   refine af (λ t=>e.1≠0∧∃ (w1 w2:Bytes) (j:Nat) (l':List ad),t=(w1,w2,L,(j:Int),nest+1,base,e.1,e.2,[])∧Pos L base j (nest+1) true l') ?_ ?_
   ·
    refine af _ (fk hL hlen _ h3) ?_
    rintro ⟨z1,z2⟩ ⟨h1,j,h2,h3⟩
    replace h1:z1=_:=h1; subst h1; cases h2
    by_cases hc:sgB true l1 [44]=true
    ·
     rw [if_pos hc] at hy
     refine ai hc ?_
     refine af _ (dN hL hlen h3 (sg6 hc)) ?_
     rintro ⟨z1,z2⟩ ⟨h1,j,h2,h3,h4,h5⟩
     replace h1:z1=_:=h1; subst h1; cases h2
     rcases bH hy with ⟨e,hz,hee⟩ | ⟨v2,l3,hz,hee⟩
     ·cases hee
      refine af _ (kq hL hlen h3 hz) ?_
      rintro ⟨z1,z2⟩ ⟨he,j,l',h2,h3⟩
      cases h2
      exact ab ⟨he,_,_,j,l',Z,h3⟩
     ·cases hee
    ·
     rw [if_neg hc] at hy; cases hy
   rintro _ ⟨he,w1,w2,j,l',rfl,h3⟩
   refine af _ (sW hL hlen _ he h3) ?_
   rintro _ ⟨j,l',rfl,h3⟩
   refine af _ (gj hL hlen he h3) ?_
   rintro ⟨z1,z2⟩ ⟨j,l',h2,h3⟩
   cases h2
   refine av (by simp only [List.length_cons,List.length_nil,List.length_append]; omega) ?_
   refine af _ (jd hL hlen _ he h3) ?_
   rintro _ ⟨j,l',rfl,h3⟩
   refine af _ (gj hL hlen he h3) ?_
   rintro ⟨z1,z2⟩ ⟨j,l',h2,h3⟩
   cases h2
   refine av (by simp only [List.length_cons,List.length_nil,List.length_append]; omega) ?_
   refine af (λ t=>∃ (en:Bytes) (ks:List ac) (j:Nat) (l':List ad),t=(en,ks,L,(j:Int),nest+1,base,e.1,e.2,[])∧ks.length≤3∧Pos L base j (nest+1) true l') ?_ ?_
   ·refine aK (λ hk=>?_) (λ hk=>ab ⟨_,_,j,l',Z,by simp,h3⟩)
    refine af _ (jd hL hlen _ he h3) ?_
    rintro _ ⟨j,l',rfl,h3⟩
    refine af _ (gj hL hlen he h3) ?_
    rintro ⟨z1,z2⟩ ⟨j,l',h2,h3⟩
    cases h2
    refine av (by simp only [List.length_cons,List.length_nil,List.length_append]; omega) ?_
    exact ab ⟨_,_,j,l',Z,by simp,h3⟩
   rintro _ ⟨en,ks,j,l',rfl,hks,h3⟩
   refine af (λ t=>∃ (ks:List ac) (j:Nat) (l':List ad),t=(ks,L,(j:Int),nest+1,base,e.1,e.2,[])∧Pos L base j (nest+1) true l') ?_ ?_
   ·refine af _ (me hL hlen _ he h3) ?_
    rintro _ ⟨j,rfl,h3⟩
    exact ag Bool.false_ne_true (ab ⟨_,j,_,Z,h3⟩)
   rintro _ ⟨ks,j,l',rfl,h3⟩
   refine af _ (fy hL hlen _ he hn hb h3) ?_
   rintro _ ⟨j,l',rfl,h3⟩
   exact ab ⟨he,j,l',Z,h3⟩
  ·
   refine af (λ t=>∃ (j:Nat),t=(nk.1,nk.2,L,(j:Int),nest+1,base,0,0,[])∧Pos L base j (nest+1) true l2) ?_ ?_
   ·
    refine af _ (fk hL hlen _ h3) ?_
    rintro ⟨z1,z2⟩ ⟨h1,j,h2,h3⟩
    replace h1:z1=_:=h1; subst h1; cases h2
    by_cases hc:sgB true l1 [44]=true
    ·
     rw [if_pos hc] at hy
     refine ai hc ?_
     refine af _ (dN hL hlen h3 (sg6 hc)) ?_
     rintro ⟨z1,z2⟩ ⟨h1,j,h2,h3,h4,h5⟩
     replace h1:z1=_:=h1; subst h1; cases h2
     rcases bH hy with ⟨e,hz,hee⟩ | ⟨v2,l3,hz,hee⟩
     ·cases hee
     ·
      refine af _ (kq hL hlen h3 hz) ?_
      rintro ⟨z1,z2⟩ ⟨h1,j,h2,h3⟩
      replace h1:z1=_:=h1; subst h1; cases h2
      cases hee
      exact ab ⟨j,Z,h3⟩
    ·
     rw [if_neg hc] at hy; cases hy
     exact ag hc (ab ⟨j,Z,h3⟩)
   rintro _ ⟨j,rfl,h3⟩
   rcases bH hq with ⟨e,hx,rfl⟩ | ⟨u,l3,hx,hq⟩
   ·
    refine af _ (rq hL hlen _ h3 hx) ?_
    rintro _ ⟨he,j,l',rfl,h3⟩
    refine af _ (gj hL hlen he h3) ?_
    rintro ⟨z1,z2⟩ ⟨j,l',h2,h3⟩
    cases h2
    refine av (by simp only [List.length_cons,List.length_nil,List.length_append]; omega) ?_
    refine af _ (jd hL hlen _ he h3) ?_
    rintro _ ⟨j,l',rfl,h3⟩
    refine af _ (gj hL hlen he h3) ?_
    rintro ⟨z1,z2⟩ ⟨j,l',h2,h3⟩
    cases h2
    refine av (by simp only [List.length_cons,List.length_nil,List.length_append]; omega) ?_
    refine af (λ t=>∃ (en:Bytes) (ks:List ac) (j:Nat) (l':List ad),t=(en,ks,L,(j:Int),nest+1,base,e.1,e.2,[])∧ks.length≤3∧Pos L base j (nest+1) true l') ?_ ?_
    ·refine aK (λ hk=>?_) (λ hk=>ab ⟨_,_,j,l',Z,by simp,h3⟩)
     refine af _ (jd hL hlen _ he h3) ?_
     rintro _ ⟨j,l',rfl,h3⟩
     refine af _ (gj hL hlen he h3) ?_
     rintro ⟨z1,z2⟩ ⟨j,l',h2,h3⟩
     cases h2
     refine av (by simp only [List.length_cons,List.length_nil,List.length_append]; omega) ?_
     exact ab ⟨_,_,j,l',Z,by simp,h3⟩
    rintro _ ⟨en,ks,j,l',rfl,hks,h3⟩
    refine af (λ t=>∃ (ks:List ac) (j:Nat) (l':List ad),t=(ks,L,(j:Int),nest+1,base,e.1,e.2,[])∧Pos L base j (nest+1) true l') ?_ ?_
    ·refine af _ (me hL hlen _ he h3) ?_
     rintro _ ⟨j,rfl,h3⟩
     exact ag Bool.false_ne_true (ab ⟨_,j,_,Z,h3⟩)
    rintro _ ⟨ks,j,l',rfl,h3⟩
    refine af _ (fy hL hlen _ he hn hb h3) ?_
    rintro _ ⟨j,l',rfl,h3⟩
    exact ab ⟨he,j,l',Z,h3⟩
   ·
    refine af _ (rq hL hlen _ h3 hx) ?_
    rintro _ ⟨j,rfl,h3,h4⟩
    rcases bH hq with ⟨e,hx,rfl⟩ | ⟨x,l4,hx,hq⟩
    ·
     refine af _ (ih.e true l3 L base hL hlen j (nest+1) _ h3 hx) ?_
     rintro ⟨z1,z2⟩ ⟨he,j,l',h2,h3⟩
     cases h2
     refine av (by simp only [List.length_cons,List.length_nil,List.length_append]; omega) ?_
     refine af _ (jd hL hlen _ he h3) ?_
     rintro _ ⟨j,l',rfl,h3⟩
     refine af _ (gj hL hlen he h3) ?_
     rintro ⟨z1,z2⟩ ⟨j,l',h2,h3⟩
     cases h2
     refine av (by simp only [List.length_cons,List.length_nil,List.length_append]; omega) ?_
     refine af (λ t=>∃ (en:Bytes) (ks:List ac) (j:Nat) (l':List ad),t=(en,ks,L,(j:Int),nest+1,base,e.1,e.2,[])∧ks.length≤3∧Pos L base j (nest+1) true l') ?_ ?_
     ·refine aK (λ hk=>?_) (λ hk=>ab ⟨_,_,j,l',Z,by simp,h3⟩)
      refine af _ (jd hL hlen _ he h3) ?_
      rintro _ ⟨j,l',rfl,h3⟩
      refine af _ (gj hL hlen he h3) ?_
      rintro ⟨z1,z2⟩ ⟨j,l',h2,h3⟩
      cases h2
      refine av (by simp only [List.length_cons,List.length_nil,List.length_append]; omega) ?_
      exact ab ⟨_,_,j,l',Z,by simp,h3⟩
     rintro _ ⟨en,ks,j,l',rfl,hks,h3⟩
     refine af (λ t=>∃ (ks:List ac) (j:Nat) (l':List ad),t=(ks,L,(j:Int),nest+1,base,e.1,e.2,[])∧Pos L base j (nest+1) true l') ?_ ?_
     ·refine af _ (me hL hlen _ he h3) ?_
      rintro _ ⟨j,rfl,h3⟩
      exact ag Bool.false_ne_true (ab ⟨_,j,_,Z,h3⟩)
     rintro _ ⟨ks,j,l',rfl,h3⟩
     refine af _ (fy hL hlen _ he hn hb h3) ?_
     rintro _ ⟨j,l',rfl,h3⟩
     exact ab ⟨he,j,l',Z,h3⟩
    ·
     refine af _ (ih.e true l3 L base hL hlen j (nest+1) _ h3 hx) ?_
     rintro ⟨z1,z2⟩ ⟨h1,j,h2,h3⟩
     replace h1:z1=_:=h1; subst h1; cases h2
     refine av (by simp only [List.length_cons,List.length_nil,List.length_append]; omega) ?_
     rcases bH hq with ⟨e,hx,rfl⟩ | ⟨u,l5,hx,hq⟩
     ·
      refine af _ (jq hL hlen _ h3 hx) ?_
      rintro _ ⟨he,j,l',rfl,h3⟩
      refine af _ (gj hL hlen he h3) ?_
      rintro ⟨z1,z2⟩ ⟨j,l',h2,h3⟩
      cases h2
      refine av (by simp only [List.length_cons,List.length_nil,List.length_append]; omega) ?_
      refine af (λ t=>∃ (en:Bytes) (ks:List ac) (j:Nat) (l':List ad),t=(en,ks,L,(j:Int),nest+1,base,e.1,e.2,[])∧ks.length≤3∧Pos L base j (nest+1) true l') ?_ ?_
      ·refine aK (λ hk=>?_) (λ hk=>ab ⟨_,_,j,l',Z,by simp,h3⟩)
       refine af _ (jd hL hlen _ he h3) ?_
       rintro _ ⟨j,l',rfl,h3⟩
       refine af _ (gj hL hlen he h3) ?_
       rintro ⟨z1,z2⟩ ⟨j,l',h2,h3⟩
       cases h2
       refine av (by simp only [List.length_cons,List.length_nil,List.length_append]; omega) ?_
       exact ab ⟨_,_,j,l',Z,by simp,h3⟩
      rintro _ ⟨en,ks,j,l',rfl,hks,h3⟩
      refine af (λ t=>∃ (ks:List ac) (j:Nat) (l':List ad),t=(ks,L,(j:Int),nest+1,base,e.1,e.2,[])∧Pos L base j (nest+1) true l') ?_ ?_
      ·refine af _ (me hL hlen _ he h3) ?_
       rintro _ ⟨j,rfl,h3⟩
       exact ag Bool.false_ne_true (ab ⟨_,j,_,Z,h3⟩)
      rintro _ ⟨ks,j,l',rfl,h3⟩
      refine af _ (fy hL hlen _ he hn hb h3) ?_
      rintro _ ⟨j,l',rfl,h3⟩
      exact ab ⟨he,j,l',Z,h3⟩
     ·
      refine af _ (jq hL hlen _ h3 hx) ?_
      rintro _ ⟨j,rfl,h3,h4⟩
      rcases bH hq with ⟨e,hx,rfl⟩ | ⟨c,l6,hx,hq⟩
      ·
       refine af _ (ih.e true l5 L base hL hlen j (nest+1) _ h3 hx) ?_
       rintro ⟨z1,z2⟩ ⟨he,j,l',h2,h3⟩
       cases h2
       refine av (by simp only [List.length_cons,List.length_nil,List.length_append]; omega) ?_
       refine af (λ t=>∃ (en:Bytes) (ks:List ac) (j:Nat) (l':List ad),t=(en,ks,L,(j:Int),nest+1,base,e.1,e.2,[])∧ks.length≤3∧Pos L base j (nest+1) true l') ?_ ?_
       ·refine aK (λ hk=>?_) (λ hk=>ab ⟨_,_,j,l',Z,by simp,h3⟩)
        refine af _ (jd hL hlen _ he h3) ?_
        rintro _ ⟨j,l',rfl,h3⟩
        refine af _ (gj hL hlen he h3) ?_
        rintro ⟨z1,z2⟩ ⟨j,l',h2,h3⟩
        cases h2
        refine av (by simp only [List.length_cons,List.length_nil,List.length_append]; omega) ?_
        exact ab ⟨_,_,j,l',Z,by simp,h3⟩
       rintro _ ⟨en,ks,j,l',rfl,hks,h3⟩
       refine af (λ t=>∃ (ks:List ac) (j:Nat) (l':List ad),t=(ks,L,(j:Int),nest+1,base,e.1,e.2,[])∧Pos L base j (nest+1) true l') ?_ ?_
       ·refine af _ (me hL hlen _ he h3) ?_
        rintro _ ⟨j,rfl,h3⟩
        exact ag Bool.false_ne_true (ab ⟨_,j,_,Z,h3⟩)
       rintro _ ⟨ks,j,l',rfl,h3⟩
       refine af _ (fy hL hlen _ he hn hb h3) ?_
       rintro _ ⟨j,l',rfl,h3⟩
       exact ab ⟨he,j,l',Z,h3⟩
      ·
       refine af _ (ih.e true l5 L base hL hlen j (nest+1) _ h3 hx) ?_
       rintro ⟨z1,z2⟩ ⟨h1,j,h2,h3⟩
       replace h1:z1=_:=h1; subst h1; cases h2
       refine av (by simp only [List.length_cons,List.length_nil,List.length_append]; omega) ?_
       rcases bH hq with ⟨e,hy,rfl⟩ | ⟨ks,l7,hy,hq⟩
       ·
        refine af (λ t=>e.1≠0∧∃ (en:Bytes) (ks:List ac) (j:Nat) (l':List ad),t=(en,ks,L,(j:Int),nest+1,base,e.1,e.2,[])∧ks.length≤3∧Pos L base j (nest+1) true l') ?_ ?_
        ·refine aK (λ hk=>?_) (λ hk=>?_)
         ·
          rw [if_pos hk] at hy
          rcases bH hy with ⟨e,hz,hee⟩ | ⟨u,l8,hz,hy⟩
          ·cases hee
           refine af _ (jq hL hlen _ h3 hz) ?_
           rintro _ ⟨he,j,l',rfl,h3⟩
           refine af _ (gj hL hlen he h3) ?_
           rintro ⟨z1,z2⟩ ⟨j,l',h2,h3⟩
           cases h2
           refine av (by simp only [List.length_cons,List.length_nil,List.length_append]; omega) ?_
           exact ab ⟨he,_,_,j,l',Z,by simp,h3⟩
          ·
           refine af _ (jq hL hlen _ h3 hz) ?_
           rintro _ ⟨j,rfl,h3,h4⟩
           rcases bH hy with ⟨e,hz,hee⟩ | ⟨d,l9,hz,hee⟩
           ·cases hee
            refine af _ (ih.e true l8 L base hL hlen j (nest+1) _ h3 hz) ?_
            rintro ⟨z1,z2⟩ ⟨he,j,l',h2,h3⟩
            cases h2
            refine av (by simp only [List.length_cons,List.length_nil,List.length_append]; omega) ?_
            exact ab ⟨he,_,_,j,l',Z,by simp,h3⟩
           ·cases hee
         ·rw [if_neg hk] at hy; cases hy
        rintro _ ⟨he,en,ks,j,l',rfl,hks,h3⟩
        refine af (λ t=>∃ (ks:List ac) (j:Nat) (l':List ad),t=(ks,L,(j:Int),nest+1,base,e.1,e.2,[])∧Pos L base j (nest+1) true l') ?_ ?_
        ·refine af _ (me hL hlen _ he h3) ?_
         rintro _ ⟨j,rfl,h3⟩
         exact ag Bool.false_ne_true (ab ⟨_,j,_,Z,h3⟩)
        rintro _ ⟨ks,j,l',rfl,h3⟩
        refine af _ (fy hL hlen _ he hn hb h3) ?_
        rintro _ ⟨j,l',rfl,h3⟩
        exact ab ⟨he,j,l',Z,h3⟩
       ·
        refine af (λ t=>∃ (j:Nat),t=((if k=13 then [125] else [93]:Bytes),ks,L,(j:Int),nest+1,base,0,0,[])∧ks.length≤3∧Pos L base j (nest+1) true l7) ?_ ?_
        ·refine aK (λ hk=>?_) (λ hk=>?_)
         ·
          rw [if_pos hk] at hy
          rcases bH hy with ⟨e,hz,hee⟩ | ⟨u,l8,hz,hy⟩
          ·cases hee
          ·
           refine af _ (jq hL hlen _ h3 hz) ?_
           rintro _ ⟨j,rfl,h3,h4⟩
           rcases bH hy with ⟨e,hz,hee⟩ | ⟨d,l9,hz,hee⟩
           ·cases hee
           ·
            refine af _ (ih.e true l8 L base hL hlen j (nest+1) _ h3 hz) ?_
            rintro ⟨z1,z2⟩ ⟨h1,j,h2,h3⟩
            replace h1:z1=_:=h1; subst h1; cases h2
            refine av (by simp only [List.length_cons,List.length_nil,List.length_append]; omega) ?_
            cases hee
            exact ab ⟨j,by rw [if_pos hk]; rfl,by simp,h3⟩
         ·rw [if_neg hk] at hy; cases hy
          exact ab ⟨j,by rw [if_neg hk]; rfl,by simp,h3⟩
        rintro _ ⟨j,rfl,hks,h3⟩
        rcases bH hq with ⟨e,hy,rfl⟩ | ⟨ks2,l8,hy,hq⟩
        ·
         refine af (λ t=>e.1≠0∧∃ (ks:List ac) (j:Nat) (l':List ad),t=(ks,L,(j:Int),nest+1,base,e.1,e.2,[])∧Pos L base j (nest+1) true l') ?_ ?_
         ·
          refine af _ (oG hL hlen _ h3) ?_
          rintro ⟨z1,z2⟩ ⟨h1,j,h2,h3⟩
          replace h1:z1=_:=h1; subst h1; cases h2
          by_cases hc:wdB true l7 [105,102]=true
          ·
           rw [if_pos hc] at hy
           refine ai hc ?_
           refine af _ (dN hL hlen h3 (wd6 hc)) ?_
           rintro ⟨z1,z2⟩ ⟨h1,j,h2,h3,h4,h5⟩
           replace h1:z1=_:=h1; subst h1; cases h2
           rcases bH hy with ⟨e,hz,hee⟩ | ⟨d,l9,hz,hee⟩
           ·cases hee
            refine af _ (ih.e true _ L base hL hlen j (nest+1) _ h3 hz) ?_
            rintro ⟨z1,z2⟩ ⟨he,j,l',h2,h3⟩
            cases h2
            refine av (by simp only [List.length_cons,List.length_nil,List.length_append]; omega) ?_
            exact ab ⟨he,_,j,l',Z,h3⟩
           ·cases hee
          ·
           rw [if_neg hc] at hy; cases hy
         rintro _ ⟨he,ks,j,l',rfl,h3⟩
         refine af _ (fy hL hlen _ he hn hb h3) ?_
         rintro _ ⟨j,l',rfl,h3⟩
         exact ab ⟨he,j,l',Z,h3⟩
        ·
         refine af (λ t=>∃ (j:Nat),t=(ks2,L,(j:Int),nest+1,base,0,0,[])∧Pos L base j (nest+1) true l8) ?_ ?_
         ·
          refine af _ (oG hL hlen _ h3) ?_
          rintro ⟨z1,z2⟩ ⟨h1,j,h2,h3⟩
          replace h1:z1=_:=h1; subst h1; cases h2
          by_cases hc:wdB true l7 [105,102]=true
          ·
           rw [if_pos hc] at hy
           refine ai hc ?_
           refine af _ (dN hL hlen h3 (wd6 hc)) ?_
           rintro ⟨z1,z2⟩ ⟨h1,j,h2,h3,h4,h5⟩
           replace h1:z1=_:=h1; subst h1; cases h2
           rcases bH hy with ⟨e,hz,hee⟩ | ⟨d,l9,hz,hee⟩
           ·cases hee
           ·
            refine af _ (ih.e true _ L base hL hlen j (nest+1) _ h3 hz) ?_
            rintro ⟨z1,z2⟩ ⟨h1,j,h2,h3⟩
            replace h1:z1=_:=h1; subst h1; cases h2
            refine av (by simp only [List.length_cons,List.length_nil,List.length_append]; omega) ?_
            cases hee
            exact ab ⟨j,Z,h3⟩
          ·
           rw [if_neg hc] at hy; cases hy
           exact ag hc (ab ⟨j,Z,h3⟩)
         rintro _ ⟨j,rfl,h3⟩
         rcases bH hq with ⟨e,hx,rfl⟩ | ⟨u,l9,hx,hq⟩
         ·
          refine af _ (eF hL hlen _ hn hb h3 hx) ?_
          rintro _ ⟨he,j,l',rfl,h3⟩
          exact ab ⟨he,j,l',Z,h3⟩
         ·
          refine af _ (eF hL hlen _ hn hb h3 hx) ?_
          rintro _ ⟨j,rfl,h3,h4⟩
          cases hq
          exact ab ⟨Z,j,Z,h3⟩
theorem Gb {f:Nat}(ih:Fol f):∀ b l,(hd b l).fKind=3→Fl cP b l (mf (f+1) b l):=by
 intro b l k3 L base hL hlen i nest q h hq
 rw [mf] at hq
 refine cq ?_
 simp only [cP]
 refine af _ (eR hL hlen h) ?_
 rintro ⟨z1,z2⟩ ⟨h1,j,h2,h3,h4,h5⟩
 replace h1:z1=_:=h1; subst h1; cases h2
 have tk:=rp (h3.gd hL)
 have t1':=tk.1
 have t2':=tk.2.2.1 k3
 refine av (aI (by show _≤(hd b l).fAt+1; omega) (by show (hd b l).fAt+1≤_; omega)) ?_
 cases ht:gV f (hd b l).fText ((hd b l).fAt+1) with
 | none=>rw [ht] at hq; cases hq
 | some y =>
  rw [ht] at hq
  have hf:=(fct f).tm _ _ O O  y ht
  refine am _ (ih.tm (hd b l).fText ((hd b l).fAt+1) y O O  ht) ?_
  rcases y with e | e
  ·cases hq
   exact ag hf (am _ (ao (gH _ _ _ _) Z) (ab ⟨hf,j,l,Z,h3⟩))
  ·cases hq
   refine ai Z ?_
   refine af _ (dN hL hlen h3 O) ?_
   rintro ⟨z1,z2⟩ ⟨h1,j,h2,h3,h4,h5⟩
   replace h1:z1=_:=h1; subst h1; cases h2
   exact ab ⟨Z,j,Z,h3⟩
theorem vD {s:Bytes}{i:Nat}{b:UInt8}{r:Bytes}(h:s.drop i=b::r):s.getD i 0=b∧i < s.length∧s.drop (i+1)=r:=by
 have hi:i < s.length:=by
  rcases Nat.lt_or_ge i s.length with q | q
  ·exact q
  ·rw [List.drop_eq_nil_of_le q] at h; cases h
 rw [List.drop_eq_getElem_cons hi] at h
 injection h with h1 h2
 refine ⟨?_,hi,h2⟩
 rw [← h1]; simp [hi]
theorem Dk {s:Bytes}{i:Nat}(h:s.drop i=[]):s.length≤i:=List.drop_eq_nil_iff.1 h
theorem sI (s:Bytes)(i k:Nat):s.drop (i+k)=(s.drop i).drop k:=by rw [List.drop_drop]
theorem EC {s r:Bytes}(h:r <:+ s):s.drop (s.length - r.length)=r:=(List.suffix_iff_eq_drop.1 h).symm
theorem fq (l p:Bytes):strings_HasPrefix l p=some (hasPrefix l p):=rfl
def CO (s:Bytes)(y:Option Bytes)(r:Unit⊕Int):Prop:=match y with
 | none=>r=.inl ()∨r=.inr (-1)
 | some r'=>r=.inr ((s.length:Int) - (r'.length:Int) - 1)
def EJ (s:Bytes):Option Bytes→Int
 | none=>-1
 | some r'=>(s.length:Int) - (r'.length:Int) - 1
theorem xM {s:Bytes}{i:Int}{y:Option Bytes}(h:Ev2 (λ n m=>cz (dM n) s m i 1) (CO s y)):Ev2 (λ n _=>cr n s i) (·=EJ s y):=by
 refine cq ?_
 simp only [cr]
 refine ee (cn (bT (f:=λ n m=>cz (dM n) s m i 1) h) ?_)
 cases y with
 | none =>
  rintro r (rfl | rfl)
  ·exact ab Z
  ·rfl
 | some r'=>rintro r rfl; rfl
theorem DD {s:Bytes}{i:Int}{y:Option Bytes}(h:Ev2 (λ n m=>cJ (cr n) s m i) (CO s y)):Ev2 (λ n _=>dM n s i) (·=EJ s y):=by
 refine cq ?_
 simp only [dM]
 refine ee (cn (bT (f:=λ n m=>cJ (cr n) s m i) h) ?_)
 cases y with
 | none =>
  rintro r (rfl | rfl)
  ·exact ab Z
  ·rfl
 | some r'=>rintro r rfl; rfl
theorem Ao {s:Bytes}(hs:s.length≤1000000000):∀ (f:Nat),
  (∀ (d i:Nat) (ci di:Int) (y:Option Bytes),ci=i→di=d→1≤d→d+(s.drop i).length≤2000000000→i≤1000000010→fO f d (s.drop i)=some y→Ev2 (λ n m=>cz (dM n) s m ci di) (CO s y)) ∧
  (∀ (i:Nat) (ci:Int) (y:Option Bytes),ci=i→i≤1000000010→iu f (s.drop i)=some y→Ev2 (λ n m=>cJ (cr n) s m ci) (CO s y))
 | 0=>⟨λ d i ci di y _ _ _ _ _ h=>(by rw [fO] at h; cases h),λ i ci y _ _ h=>(by rw [iu] at h; cases h)⟩
 | f+1=>by
  obtain ⟨i1,i2⟩:=Ao hs f
  constructor
  ·intro d i ci di y hci hdi h1 hd hi h
   refine aZ ?_
   simp only [cz]
   cases hl:s.drop i with
   | nil =>
    rw [hl,fO] at h; cases h
    have:=Dk hl
    exact ag O (ab (.inl Z))
   | cons b r =>
    obtain ⟨g1,g2,g3⟩:=vD hl
    have hb:byt s ci=(b.toNat:Int):=by rw [hci,gi,g1]
    rw [hl,fO] at h
    rw [hl,List.length_cons] at hd
    refine ai O (av O ?_)
    rw [hb]
    refine ee ?_
    by_cases h123:b.toNat=123
    ·rw [if_pos h123] at h
     refine ai O (av (aI O O) (ab (av (aI (by show _≤ci+1; omega) (by show ci+1≤_; omega)) ?_)))
     exact i1 (d+1) (i+1) (ci+1) (di+1) y O O O (by rw [g3]; omega) O (by rw [g3]; exact h)
    rw [if_neg h123] at h
    refine ag O ?_
    by_cases h125:b.toNat=125
    ·rw [if_pos h125] at h
     refine ai O (av (aI O O) ?_)
     by_cases hd1:d=1
     ·rw [if_pos hd1] at h; cases h
      have hlr:r.length=s.length - (i+1):=by rw [← g3,List.length_drop]
      refine ai O (ab ?_)
      show Sum.inr ci=Sum.inr _
      congr 1; omega
     ·rw [if_neg hd1] at h
      refine ag O (ab (av (aI (by show _≤ci+1; omega) (by show ci+1≤_; omega)) ?_))
      exact i1 (d - 1) (i+1) (ci+1) (di - 1) y O O O (by rw [g3]; omega) O (by rw [g3]; exact h)
    rw [if_neg h125] at h
    refine ag O ?_
    by_cases h34:b.toNat=34
    ·rw [if_pos h34] at h
     refine ai O (av (aI O O) ?_)
     cases hq:iu f r with
     | none=>rw [hq] at h; cases h
     | some z =>
      rw [hq] at h
      refine am _ (DD (i2 (i+1) (ci+1) z O O  (by rw [g3]; exact hq))) ?_
      cases z with
      | none=>cases h; exact ai (show (-1:Int) < 0 by decide) (ab (.inr rfl))
      | some r' =>
       have hsf:=(iG f).2 _ _ hq
       have hsl:=hsf.1.length_le
       have hrl:r.length=s.length - (i+1):=by rw [← g3,List.length_drop]
       have hrs:r' <:+ s:=by rw [← g3] at hsf; exact hsf.1.trans (List.drop_suffix _ _)
       have hsd:=EC hrs
       refine ag (by show ¬ (s.length:Int) - (r'.length:Int) - 1 < 0; omega) (ab (av (aI (by show _≤(s.length:Int) - (r'.length:Int) - 1+1; omega) (by show (s.length:Int) - (r'.length:Int) - 1+1≤_; omega)) ?_))
       exact i1 d (s.length - r'.length) _ di y (by show (s.length:Int) - (r'.length:Int) - 1+1=_; omega) hdi h1 (by rw [hsd]; omega) O (by rw [hsd]; exact h)
    ·rw [if_neg h34] at h
     refine ag O (ab (av (aI (by show _≤ci+1; omega) (by show ci+1≤_; omega)) ?_))
     exact i1 d (i+1) (ci+1) di y O O O (by rw [g3]; omega) O (by rw [g3]; exact h)
  ·intro i ci y hci hi h
   refine aZ ?_
   simp only [cJ]
   cases hl:s.drop i with
   | nil =>
    rw [hl,iu] at h; cases h
    have:=Dk hl
    exact ag O (ab (.inl Z))
   | cons b r =>
    obtain ⟨g1,g2,g3⟩:=vD hl
    have hb:byt s ci=(b.toNat:Int):=by rw [hci,gi,g1]
    have hsub:sub s ci (s.length:Int)=b::r:=by rw [iC,hci,Int.toNat_natCast,hl]
    rw [hl,iu] at h
    refine ai O ?_
    rw [hb,hsub]
    refine ee (av O ?_)
    by_cases h34:b.toNat=34
    ·rw [if_pos h34] at h; cases h
     have hlr:r.length=s.length - (i+1):=by rw [← g3,List.length_drop]
     refine ai O (ab ?_)
     show Sum.inr ci=Sum.inr _
     congr 1; omega
    rw [if_neg h34] at h
    refine ag O (av O ?_)
    by_cases h92:b.toNat=92
    ·rw [if_pos h92] at h
     refine ai O (av (aI O O) (ab (av (aI O O) ?_)))
     exact i2 (i+1+1) (ci+1+1) y O O  (by rw [sI s (i+1) 1,g3]; exact h)
    rw [if_neg h92] at h
    refine ag O (av O (am _ (ao (fq _ _) Z) ?_))
    by_cases hp3:hasPrefix (b::r) [36,36,123]=true
    ·rw [if_pos hp3] at h
     refine ai hp3 (av (aI O O) (ab (av (aI O O) ?_)))
     exact i2 (i+3) (ci+2+1) y O O  (by rw [sI s i 3,hl]; exact h)
    rw [if_neg hp3] at h
    refine ag hp3 (av O (am _ (ao (fq _ _) Z) ?_))
    by_cases hp2:hasPrefix (b::r) [36,123]=true
    ·rw [if_pos hp2] at h
     refine ai hp2 (av (aI O O) ?_)
     cases hq:fO f 1 ((b::r).drop 2) with
     | none=>rw [hq] at h; cases h
     | some z =>
      rw [hq] at h
      have e2:s.drop (i+2)=(b::r).drop 2:=by rw [sI s i 2,hl]
      refine am _ (xM (i1 1 (i+2) (ci+2) 1 z O rfl (by decide) (by rw [List.length_drop]; omega) O (by rw [e2]; exact hq))) ?_
      cases z with
      | none=>cases h; exact ai (show (-1:Int) < 0 by decide) (ab (.inr rfl))
      | some r' =>
       have hsf:=(iG f).1 _ _ _ hq
       have hsl:=hsf.1.length_le
       have hrl:((b::r).drop 2).length=s.length - (i+2):=by rw [← e2,List.length_drop]
       have hrs:r' <:+ s:=by rw [← e2] at hsf; exact hsf.1.trans (List.drop_suffix _ _)
       have hsd:=EC hrs
       refine ag (by show ¬ (s.length:Int) - (r'.length:Int) - 1 < 0; omega) (ab (av (aI (by show _≤(s.length:Int) - (r'.length:Int) - 1+1; omega) (by show (s.length:Int) - (r'.length:Int) - 1+1≤_; omega)) ?_))
       exact i2 (s.length - r'.length) _ y (by show (s.length:Int) - (r'.length:Int) - 1+1=_; omega) O (by rw [hsd]; exact h)
    ·rw [if_neg hp2] at h
     refine ag hp2 (ab (av (aI O O) ?_))
     exact i2 (i+1) (ci+1) y O O  (by rw [g3]; exact h)
theorem qc:∀ (k:Nat) (l:Bytes) (a:Nat) (x:Bytes),(cb k l a).2 < l.length→cb k (l.take ((cb k l a).2+1)++x) a=cb k l a
 | 0,l,a,x,_=>by rw [cb,cb]
 | k+1,[],a,x,h=>by simp at h
 | k+1,b::r,a,x,h=>by
  have e:cb (k+1) (b::r) a=match oc b with
   | some d=>((cb k r (16*a+d)).1,(cb k r (16*a+d)).2+1)
   | none=>(a,0):=by rw [cb]; cases oc b <;> rfl
  cases hd:oc b with
  | none =>
   rw [hd] at e
   rw [e]
   show cb (k+1) (b::x) a=_
   rw [cb,hd]
  | some d =>
   rw [hd] at e
   simp only at e
   rw [e] at h ⊢
   have ih:=qc k r (16*a+d) x (by simp only [List.length_cons] at h; omega)
   show cb (k+1) (b::(r.take ((cb k r (16*a+d)).2+1)++x)) a=_
   rw [cb,hd]
   simp only [ih]
theorem xI (b:UInt8):strings_IndexByte ([48,49,50,51,52,53,54,55,56,57,97,98,99,100,101,102]:Bytes) (b.toNat:Int)=some (indexByte AG b)∧decide (0≤indexByte AG b)=(oc b).isSome:=by
 constructor
 ·unfold strings_IndexByte
  have:((b.toNat:Int).toNat.toUInt8)=b:=by simp
  rw [this]; rfl
 ·rw [tc]
  cases oc b with
  | none=>rfl
  | some d=>simp
theorem Dq (s:Bytes)(hs:s.length≤1000000000):∀ (k i a:Nat),i+k=6→i≤s.length→Ev2 (λ _ m=>bC s m (i:Int)) (·=((i+(cb k (s.drop i) a).2:Nat):Int)):=by
 intro k
 induction k with
 | zero =>
  intro i a hi hl
  refine aZ ?_
  simp only [bC]
  refine am false (aK (λ _=>ag O (ab Z)) (λ _=>ab Z)) (ag Bool.false_ne_true (ab ?_))
  rw [cb]; rfl
 | succ k ih =>
  intro i a hi hl
  refine aZ ?_
  simp only [bC]
  cases hd:s.drop i with
  | nil =>
   have:=Dk hd
   refine am false (ag O (ab Z)) (ag Bool.false_ne_true (ab ?_))
   rw [cb]; rfl
  | cons b r =>
   obtain ⟨g1,g2,g3⟩:=vD hd
   have hb:byt s (i:Int)=(b.toNat:Int):=by rw [gi,g1]
   refine am (oc b).isSome ?_ ?_
   ·refine ai O (ai O (av O ?_))
    rw [hb]
    exact am _ (ao (xI b).1 Z) (ab (xI b).2)
   ·rw [cb]
    cases hx:oc b with
    | none=>exact ag Bool.false_ne_true (ab Z)
    | some d =>
     refine ai Z (av (aI O O) ?_)
     have:=uB (P:=λ j=>Ev2 (λ _ m=>bC s m j) _) (ih (i+1) (16*a+d) O O)
     refine cn this ?_
     rintro _ rfl
     rw [g3]; congr 1; simp only []; omega
theorem CI (s:Bytes)(hs:s.length≤1000000000):Ev2 (λ n _=>dJ n s) (·=((cb 6 s 0).2:Int)):=by
 simp only [dJ]
 refine am _ (bT (f:=λ _ m=>bC s m 0) (Dq s hs 6 0 0 Z (Nat.zero_le _))) (ab ?_)
 rw [List.drop_zero,Nat.zero_add]
theorem BU (b:UInt8)(r:Bytes)(h:b.toNat < 128):decodeL (b::r)=(b.toNat,1):=by
 have e:=zl b h
 have h2:=tM (b.toNat:Int) (by unfold gk; omega) r
 rw [e] at h2
 simpa using h2
theorem FM (r:Bytes):(decodeL (92::r)).1=92:=by
 have:=BU (92:UInt8) r (by decide)
 rw [this]; rfl
theorem DN (x:Bytes):((dD (x++[34])).2.2=0→(dD (x++[34])).2.1=(x.length:Int)→(Ah (34::92::(x++[34]))).1=encodeRune (dD (x++[34])).1∧(Ah (34::92::(x++[34]))).2.2=0)∧((dD (x++[34])).2.2≠0→(Ah (34::92::(x++[34]))).2.2≠0):=by
 have h34:(34:UInt8).toNat=34:=rfl
 rw [sX,if_pos h34,mI,if_neg (show ¬ (92:UInt8).toNat=34 by decide),if_pos (FM _)]
 constructor
 ·intro h0 h1
  rw [if_pos h0,h1,Int.toNat_natCast,List.drop_left]
  have hn:(92::(x++[34])).length=(x.length+1)+1:=by simp
  rw [hn,mI,if_pos h34]
  have hr:=(nS (x++[34])).2.2.1 h0
  have hle:=kp _ hr.1
  simp only [List.nil_append]
  rw [if_neg O,if_neg O]
  exact ⟨Z,Z⟩
 ·intro h0
  rw [if_neg h0]
  exact h0
theorem Cs {c:UInt8}(h:c.toNat≠117)(t t':Bytes):dD (c::t)=dD (c::t')∧((dD (c::t)).2.2=0→(dD (c::t)).2.1=1)∧((dD (c::t)).2.2≠0→(dD (c::t)).2.2=2):=by
 have e:∀ t:Bytes,dD (c::t)=if c.toNat=110 then (10,1,0) else if c.toNat=114 then (13,1,0) else if c.toNat=116 then (9,1,0) else if c.toNat=34∨c.toNat=92 then ((c.toNat:Int),1,0) else (0,0,2):=λ t=>by
  rw [pq]
  simp only [if_neg h]
 rw [e t,e t']
 refine ⟨Z,?_⟩
 by_cases h1:c.toNat=110
 ·rw [if_pos h1]; simp
 rw [if_neg h1]
 by_cases h2:c.toNat=114
 ·rw [if_pos h2]; simp
 rw [if_neg h2]
 by_cases h3:c.toNat=116
 ·rw [if_pos h3]; simp
 rw [if_neg h3]
 by_cases h4:c.toNat=34∨c.toNat=92
 ·rw [if_pos h4]; simp
 rw [if_neg h4]; simp
theorem xR (d:UInt8)(u:Bytes):dD (117::d::u)=if d.toNat=123 then ((fm u).1,(fm u).2.1+2,(fm u).2.2) else (0,0,2):=by
 rw [pq]; rfl
theorem zf (u:Bytes)(h:(cb 6 u 0).2 < u.length):fm (u.take ((cb 6 u 0).2+1)++[34])=fm u∧((fm u).2.2=0→(fm u).2.1=(((cb 6 u 0).2+1:Nat):Int))∧((fm u).2.2≠0→(fm u).2.2=2):=by
 have e:=qc 6 u 0 [34] h
 unfold fm
 rw [e]
 generalize cb 6 u 0=H at h ⊢
 obtain ⟨v,c⟩:=H
 simp only at h ⊢
 have l1:¬ c=(u.take (c+1)++[34]).length:=by
  rw [List.length_append,List.length_take,List.length_singleton]; omega
 have g1:∀ k,k≤c→(u.take (c+1)++[34]).getD k 0=u.getD k 0:=by
  intro k hk
  rw [List.getD_eq_getElem?_getD,List.getD_eq_getElem?_getD,List.getElem?_append_left (by rw [List.length_take]; omega),List.getElem?_take_of_lt O]
 rw [if_neg l1,if_neg (show ¬ c=u.length by omega),g1 c (Nat.le_refl _),g1 0 (Nat.zero_le _)]
 refine ⟨Z,?_⟩
 split
 ·simp
 ·simp
def qi (r:Bytes):Bytes×Int×Int:=if (dD r).2.2=0 then (encodeRune (dD r).1,(dD r).2.1+1,0) else ([],0,(dD r).2.2)
theorem xK {s x:Bytes}{k:Int}(hs:s.length≤1000000000)(hxs:x.length≤100)(hk:k=((x.length+1:Nat):Int))(hx:s.take (x.length+1)=92::x){q:Bytes×Int×Int}(h0:(dD (x++[34])).2.2=0→(dD (x++[34])).2.1=(x.length:Int)∧q=(encodeRune (dD (x++[34])).1,k,0))(h1:(dD (x++[34])).2.2≠0→q=([],0,2)) :
  Ev2 (λ n _=>if (s.length:Int) < k then some (([]:Bytes),(0:Int),(40:Int)) else
   ck ((0:Int)≤0∧0≤k∧k≤(s.length:Int)) <|
   ck (([34]:Bytes).length+(sub s 0 k).length≤9223372036854775807) <|
   ck ((([34]:Bytes)++(sub s 0 k)).length+([34]:Bytes).length≤9223372036854775807) <|
   (dT n ((([34]:Bytes)++(sub s 0 k))++([34]:Bytes))).bind λ r18 =>
   if r18.2.2=0 then some (r18.1,k,0) else some (([]:Bytes),0,2)) (·=q):=by
 have hl:(92::x).length=x.length+1:=rfl
 have hxl:x.length+1≤s.length:=by
  have:=congrArg List.length hx
  rw [List.length_take,hl] at this; omega
 have hsub:sub s 0 k=92::x:=by
  subst hk
  show (s.take _).drop 0=_
  rw [List.drop_zero,Int.toNat_natCast,hx]
 rw [hsub]
 refine ag O (av O (av (by simp only [List.length_cons,List.length_nil]; omega) (av (by simp only [List.length_append,List.length_cons,List.length_nil]; omega) ?_)))
 have hsz:((([34]:Bytes)++(92::x))++([34]:Bytes)).length≤1000000000:=by simp only [List.length_append,List.length_cons,List.length_nil]; omega
 refine am _ (EM _ hsz) ?_
 have e:(([34]:Bytes)++(92::x))++([34]:Bytes)=34::92::(x++[34]):=rfl
 rw [e]
 obtain ⟨u1,u2⟩:=DN x
 by_cases hz:(dD (x++[34])).2.2=0
 ·obtain ⟨z1,z2⟩:=h0 hz
  obtain ⟨w1,w2⟩:=u1 hz z1
  exact ai w2 (ab (by rw [w1,z2]))
 ·exact ag (u2 hz) (ab (h1 hz).symm)
theorem Ec {r:Bytes}(hs:(92::r:Bytes).length≤1000000000):Ev2 (λ n _=>ge n (92::r)) (·=qi r):=by
 simp only [ge]
 have hl0:(92::r:Bytes).length=r.length+1:=rfl
 cases r with
 | nil =>
  refine f0 2 (am false (ao (fq _ _) (by decide)) (ag Bool.false_ne_true (ab Z))) ?_
  exact ai (by decide) (ab (by unfold qi; rw [if_neg (by decide)]; rfl))
 | cons c t =>
  by_cases hc:c.toNat=117
  ·have hc':c=117:=(uC (by decide)).1 hc
   subst hc'
   have hp:hasPrefix (92::117::t) [92,117]=true:=by simp [hasPrefix]
   cases t with
   | nil =>
    refine f0 4 (am true (ao (fq _ _) hp) (ai Z (am false (ag (by decide) (ab Z)) (ag Bool.false_ne_true (ag (by decide) (ab Z)))))) ?_
    exact ai (by decide) (ab (by unfold qi; rw [if_neg (by decide)]; rfl))
   | cons d u =>
    have hl:(92::117::d::u:Bytes).length=u.length+3:=rfl
    have hb:byt (92::117::d::u) 2=(d.toNat:Int):=rfl
    have e:=xR d u
    by_cases hd:d.toNat=123
    ·rw [if_pos hd] at e
     have hd':d=123:=(uC (by decide)).1 hd
     have h6:Ev2 (λ _ _=>(if (2:Int) < ((92::117::d::u:Bytes).length:Int) then ck ((0:Int)≤2∧(2:Int) < ((92::117::d::u:Bytes).length:Int)) <| some (!decide (byt (92::117::d::u) 2=123)) else some false:Option Bool)) (·=false):=by
      refine ai O (av O (ab ?_))
      rw [hb,hd]; rfl
     cases u with
     | nil =>
      refine f0 4 (am true (ao (fq _ _) hp) (ai Z (am false h6 (ag Bool.false_ne_true (ag G (ab Z)))))) ?_
      refine ai G (ab ?_)
      have hx:(fm []).2.2=40:=by decide
      unfold qi
      rw [e]
      show _=if (fm []).2.2=0 then _ else ([],0,(fm []).2.2)
      rw [hx]; rfl
     | cons v w =>
      have hlv:(v::w).length=w.length+1:=rfl
      have hsub:sub (92::117::d::v::w) 3 ((92::117::d::v::w:Bytes).length:Int)=v::w:=by rw [iC]; rfl
      have hrun:=mT 6 (v::w) 0
      refine f0 (4+((cb 6 (v::w) 0).2:Int)) (am true (ao (fq _ _) hp) (ai Z (am false h6 (ag Bool.false_ne_true (ai O (av O ?_)))))) ?_
      ·rw [hsub]
       exact am _ (CI _ O) (av (aI O O) (ab Z))
      by_cases hc:(cb 6 (v::w) 0).2=(v::w).length
      ·refine ai O (ab ?_)
       have hx:(fm (v::w)).2.2=40:=by unfold fm; simp only [hc,if_true]
       unfold qi
       rw [e]
       show _=if (fm (v::w)).2.2=0 then _ else ([],0,(fm (v::w)).2.2)
       rw [hx]; rfl
      ·obtain ⟨x1,x2,x3⟩:=zf (v::w) O
       have hlt:((v::w).take ((cb 6 (v::w) 0).2+1)).length=(cb 6 (v::w) 0).2+1:=by rw [List.length_take]; omega
       have ex:dD ((117::d::(v::w).take ((cb 6 (v::w) 0).2+1))++[34])=dD (117::d::v::w):=by
        show dD (117::d::((v::w).take ((cb 6 (v::w) 0).2+1)++[34]))=_
        rw [xR,if_pos hd,x1,e]
       refine xK (x:=117::d::(v::w).take ((cb 6 (v::w) 0).2+1)) hs (by simp only [List.length_cons,hlt]; omega) (by simp only [List.length_cons,hlt]; omega) ?_ ?_ ?_
       ·simp only [List.length_cons,hlt]; rfl
       ·rw [ex]
        intro hz
        have hz':(fm (v::w)).2.2=0:=by rw [e] at hz; exact hz
        refine ⟨?_,?_⟩
        ·rw [e]; show (fm (v::w)).2.1+2=_; rw [x2 hz']; simp only [List.length_cons,hlt]; omega
        ·unfold qi; rw [if_pos hz]
         refine Prod.ext Z (Prod.ext ?_ Z)
         rw [e]; show (fm (v::w)).2.1+2+1=4+((cb 6 (v::w) 0).2:Int); rw [x2 hz']; omega
       ·rw [ex]
        intro hz
        have hz':(fm (v::w)).2.2≠0:=by rw [e] at hz; exact hz
        unfold qi; rw [if_neg hz]
        rw [e]; show ([],0,(fm (v::w)).2.2)=_; rw [x3 hz']
    ·rw [if_neg hd] at e
     refine jB ([],0,2) (am true (ao (fq _ _) hp) (ai Z (am true (ai O (av O (ab ?_))) (ai Z (ab Z))))) ?_
     ·rw [hb]; simp; omega
     ·unfold qi; rw [e]; rfl
  ·have hp:hasPrefix (92::c::t) [92,117]=false:=by
    have:¬ c=117:=λ h=>hc (by rw [h]; rfl)
    unfold hasPrefix
    simp only [List.isPrefixOf,beq_self_eq_true,Bool.true_and]
    rw [beq_eq_false_iff_ne.2 (λ h=>this h.symm)]; rfl
   obtain ⟨o1,o2,o3⟩:=Cs hc t [34]
   refine f0 2 (am false (ao (fq _ _) hp) (ag Bool.false_ne_true (ab Z))) ?_
   refine xK (x:=[c]) hs G rfl Z ?_ ?_
   ·intro hz
    have hz:(dD (c::[34])).2.2=0:=hz
    rw [← o1] at hz
    refine ⟨?_,?_⟩
    ·show (dD (c::[34])).2.1=_; rw [← o1,o2 hz]; rfl
    ·unfold qi; rw [if_pos hz,o2 hz]
     show _=(encodeRune (dD (c::[34])).1,_,_)
     rw [← o1]; rfl
   ·intro hz
    have hz:(dD (c::[34])).2.2≠0:=hz
    rw [← o1] at hz
    unfold qi; rw [if_neg hz,o3 hz]
theorem zP (s:Bytes)(a i fr:Int)(text:Bytes)(parts:List ac)(opn:Bool)(h:inR (a+fr)):dC (.mk s a i fr text parts opn)=some (if 4096 < text.length then ax.mk 3 (a+fr) [] else dOk,.mk s a i fr text parts opn):=by
 unfold dC
 by_cases hl:4096 < text.length
 ·rw [if_pos (by show (4096:Int) < (text.length:Int); omega),if_pos hl]
  exact bS h
 ·rw [if_neg (by show ¬ (4096:Int) < (text.length:Int); omega),if_neg hl]; rfl
def ItO (s:Bytes)(a i fr:Int)(text:Bytes)(parts:List ac)(opn:Bool)(q:Int⊕(Bytes×Nat))(r:ax×al):Prop:=match q with
 | .inl k=>r.1=ax.mk k (a+i) []
 | .inr (t,n)=>if 4096 < text.length+t.length then r.1=ax.mk 3 (a+fr) [] else r=(dOk,.mk s a (i+n) fr (text++t) parts opn)
theorem Eu {s:Bytes}(hs:s.length≤1000000000){a fr:Int}{i:Nat}(ha:0≤a)(ha2:a≤1000000000)(hf:0≤fr)(hf2:fr≤1000000000)(text:Bytes)(ht:text.length≤4096)(parts:List ac)(opn:Bool){b:UInt8}{r:Bytes}(hl:s.drop i=b::r) :
  Ev2 (λ n _=>dc n (.mk s a (i:Int) fr text parts opn)) (ItO s a i fr text parts opn (jG (b::r))):=by
 obtain ⟨g1,g2,g3⟩:=vD hl
 have hsub:sub s (i:Int) (s.length:Int)=b::r:=by rw [iC,Int.toNat_natCast,hl]
 have hlen:(b::r).length=s.length - i:=by rw [← hl,List.length_drop]
 have hb0:byt (b::r) 0=(b.toNat:Int):=rfl
 have hlc:(b::r).length=r.length+1:=rfl
 have fin:∀ (t:Bytes) (n:Nat),jG (b::r)=.inr (t,n)→n≤1000000000→t.length≤1000000000→Ev2 (λ _ _=>(dC (al.mk s a ((i:Int)+(n:Int)) fr (text++t) parts opn)).bind λ r26=>some (r26.1,(al.mk r26.2.fs r26.2.fat r26.2.fi r26.2.ffrom r26.2.ftext r26.2.fparts r26.2.fopen))) (ItO s a i fr text parts opn (jG (b::r))):=by
  intro t n hi _ _
  refine am _ (ao (zP s a _ fr _ parts opn (aI O O)) Z) (ab ?_)
  rw [hi]
  unfold ItO
  simp only [List.length_append]
  by_cases hl:4096 < text.length+t.length
  ·rw [if_pos hl,if_pos hl]
  ·rw [if_neg hl,if_neg hl]
 simp only [dc]
 rw [hsub]
 refine av O ?_
 by_cases h92:b.toNat=92
 ·have hb':b=92:=(uC (by decide)).1 h92
  have hle:=nS r
  have hi:jG (b::r)=if (dD r).2.2=0 then .inr (encodeRune (dD r).1,(dD r).2.1.toNat+1) else .inl (dD r).2.2:=by rw [jG,if_pos h92]
  subst hb'
  by_cases hz:(dD r).2.2=0
  ·rw [if_pos hz] at hi
   obtain ⟨e1,e2⟩:=hle.2.2.1 hz
   have hel:=kp _ e1
   refine f0 ((i:Int)+(((dD r).2.1.toNat+1:Nat):Int),text++encodeRune (dD r).1) (av O (ai (by rw [hb0]; rfl) (am _ (Ec O) ?_))) (fin _ _ hi O O)
   unfold qi; rw [if_pos hz]
   refine ai Z (av (by (try simp only []); omega) (av (aI (by (try simp only []); omega) (by (try simp only []); omega)) (ab ?_)))
   simp only []
   congr 2; omega
  ·rw [if_neg hz] at hi
   refine jB (ax.mk (dD r).2.2 (a+(i:Int)) [],al.mk s a (i:Int) fr text parts opn) (av O (ai (by rw [hb0]; rfl) (am _ (Ec O) ?_))) ?_
   ·unfold qi; rw [if_neg hz]
    exact ag hz (av (aI (by (try simp only []); omega) (by (try simp only []); omega)) (ab Z))
   ·rw [hi]; rfl
 ·have hd:aW (b::r)=some (((decodeL (b::r)).1:Int),((decodeL (b::r)).2:Int)):=by
   unfold aW
   rw [oe _ G]
  have hdf:=gT (b::r) G
  have hq:(decodeL (b::r)).1=34↔b.toNat=34:=by
   by_cases h128:b.toNat < 128
   ·rw [BU b r h128]
   ·have:=EW b r O; omega
  have hi:jG (b::r)=if j4 (decodeL (b::r))∨b.toNat=34 then .inl 2 else .inr ((b::r).take (decodeL (b::r)).2,(decodeL (b::r)).2):=by rw [jG,if_neg h92]
  have hsb:∀ w:Nat,sub (b::r) 0 (w:Int)=(b::r).take w:=λ w=>by show ((b::r).take _).drop 0=_; rw [List.drop_zero,Int.toNat_natCast]
  generalize decodeL (b::r)=D at hd hdf hq hi
  obtain ⟨c,w⟩:=D
  simp only at hd hdf hq
  have hbad:Ev2 (λ _ _=>(if (c:Int)=65533 then if (w:Int)=1 then some true else if (c:Int) < 32 then some true else if (c:Int)=127 then some true else some (decide ((c:Int)=34)) else if (c:Int) < 32 then some true else if (c:Int)=127 then some true else some (decide ((c:Int)=34)):Option Bool)) (·=decide (j4 (c,w)∨b.toNat=34)):=by
   have mk:∀ x:Bool,(x=true↔(((c=65533∧w=1)∨c < 32∨c=127)∨c=34))→x=decide (j4 (c,w)∨b.toNat=34):=by
    intro x hx
    refine eqB ?_
    rw [hx,decide_eq_true_eq,← hq]
    rfl
   refine aK (λ h1=>aK (λ h2=>ab (mk _ ?_)) (λ h2=>aK (λ h3=>ab (mk _ ?_)) (λ h3=>aK (λ h4=>ab (mk _ ?_)) (λ h4=>ab (mk _ ?_))))) (λ h1=>aK (λ h3=>ab (mk _ ?_)) (λ h3=>aK (λ h4=>ab (mk _ ?_)) (λ h4=>ab (mk _ ?_))))
   all_goals (try rw [decide_eq_true_eq])
   all_goals (try simp only [true_iff])
   all_goals omega
  by_cases hx:j4 (c,w)∨b.toNat=34
  ·rw [if_pos hx] at hi
   refine jB (ax.mk 2 (a+(i:Int)) [],al.mk s a (i:Int) fr text parts opn) (av O (ag (by rw [hb0]; omega) (am _ (ao hd Z) (am _ hbad (ai (decide_eq_true hx) (av (aI (by (try simp only []); omega) (by (try simp only []); omega)) (ab Z))))))) ?_
   rw [hi]; rfl
  ·rw [if_neg hx] at hi
   have hw2:=hdf.2.1
   refine f0 ((i:Int)+(w:Int),text++(b::r).take w) (av O (ag (by rw [hb0]; omega) (am _ (ao hd Z) (am _ hbad (ag (by simpa using hx) ?_))))) (fin _ _ hi O (by rw [List.length_take]; omega))
   simp only [hsb]
   exact av O (av (by rw [List.length_take]; omega) (av (aI O O) (ab Z)))
theorem yh {src:Bytes→SE⊕Bytes}{l:Bytes}(hs:∀ r e n,r.length≤l.length→src r=.inl e→e.2=some n→n≤l.length){e:SE}{n:Nat}(h:gG src l=.inl e)(hn:e.2=some n):n≤l.length:=by
 cases l with
 | nil=>cases h; cases hn; exact Nat.zero_le _
 | cons b r =>
  rw [fu] at h
  split at h
  ·split at h
   ·cases h; cases hn; exact Nat.le_refl _
   ·cases h
  split at h
  ·cases h
  split at h
  ·cases h
  split at h
  ·split at h
   ·rename_i e' he
    cases h
    exact hs r e n (Nat.le_succ _) he hn
   ·cases h
  split at h
  ·cases h; cases hn; exact Nat.le_refl _
  ·cases h
theorem Bb:∀ (f k:Nat),(∀ l e n,ef f k l=.inl e→e.2=some n→n≤l.length)∧(∀ d l e n,hQ f k d l=.inl e→e.2=some n→n≤l.length)
 | 0,k=>⟨λ l e n h hn=>(by rw [ef] at h; cases h; cases hn),λ d l e n h hn=>(by rw [hQ] at h; cases h; cases hn)⟩
 | f+1,k=>by
  have ih:=Bb f
  constructor
  ·intro l e n h hn
   cases l with
   | nil=>rw [ef] at h; cases h; cases hn
   | cons b r =>
    rw [gP] at h
    split at h
    ·cases h
    split at h
    ·have:=(ih k).1 _ e n h hn
     rw [List.length_drop] at this; omega
    split at h
    ·split at h
     ·cases h; cases hn; exact Nat.le_refl _
     ·split at h
      ·rename_i e' he
       cases h
       have:=(ih (k+1)).2 _ _ e n he hn
       rw [List.length_drop] at this; omega
      ·rename_i l' he
       have h1:=((iS f (k+1)).2 _ _ _ he).2
       have:=(ih k).1 _ e n h hn
       rw [List.length_drop] at h1; omega
    ·have hX:(if b.toNat=92 then r else b::r).length≤(b::r).length:=by split <;> simp
     generalize (if b.toNat=92 then r else b::r)=X at h hX
     cases X with
     | nil=>cases h; cases hn
     | cons c t =>
      simp only at h
      split at h
      ·cases h; cases hn; exact hX
      ·have:=(ih k).1 _ e n h hn
       rw [List.length_drop] at this; omega
  ·intro d l e n h hn
   rw [jg] at h
   have hk:=od false l
   cases hsk:d7 false l with
   | nil=>rw [hsk,uD] at h; cases h; cases hn
   | cons b r =>
    rw [hsk] at hk
    rw [hsk,jj] at h
    cases ht:gG (ef f k) (b::r) with
    | inl e' =>
     rw [ht,rE] at h; cases h
     exact Nat.le_trans (yh (λ x y m hx hxy hm=>Nat.le_trans ((ih k).1 x y m hxy hm) hx) ht hn) hk
    | inr z =>
     obtain ⟨c,t,l'⟩:=z
     have h1:=(kV (λ x y _ hxy=>(iS f k).1 x y hxy) ht).2
     rw [ht,iQ] at h
     split at h
     ·split at h
      ·cases h
      ·have:=(ih k).2 _ _ e n h hn; omega
     split at h
     ·have:=(ih k).2 _ _ e n h hn; omega
     ·have:=(ih k).2 _ _ e n h hn; omega
theorem vN:∀ (f c:Nat) (l:Bytes) (e:SE) (n:Nat),fF f c l=.inl e→e.2=some n→n≤l.length
 | 0,c,l,e,n,h,hn=>by rw [fF] at h; cases h; cases hn
 | f+1,c,l,e,n,h,hn=>by
  rw [gI] at h
  have hk:=od true l
  cases hsk:d7 true l with
  | nil =>
   rw [hsk,jS] at h
   split at h
   ·cases h; cases hn; exact Nat.zero_le _
   ·cases h
  | cons b r =>
   rw [hsk] at hk
   rw [hsk,jk] at h
   split at h
   ·cases h; cases hn; exact hk
   split at h
   ·cases h; cases hn; exact hk
   cases ht:gG (ef f 0) (b::r) with
   | inl e' =>
    rw [ht] at h; cases h
    cases he:e'.2 with
    | none=>unfold CM at hn; rw [he] at hn; cases hn; exact hk
    | some m =>
     unfold CM at hn; rw [he] at hn; cases hn
     exact Nat.le_trans (yh (λ x y m hx hxy hm=>Nat.le_trans ((Bb f 0).1 x y m hxy hm) hx) ht he) hk
   | inr z =>
    obtain ⟨k,t,l'⟩:=z
    have h1:=(kV (λ x y _ hxy=>(iS f 0).1 x y hxy) ht).2
    rw [ht,jR] at h
    cases hs:fF f (c+1) l' with
    | inl e' =>
     rw [hs] at h; cases h
     have:=vN f (c+1) l' e n hs hn
     omega
    | inr ts'=>rw [hs] at h; cases h
theorem yb (s:Bytes):0≤(dQ s).2.fAt∧(dQ s).2.fAt≤(s.length:Int):=by
 unfold dQ
 split
 ·exact ⟨Int.le_refl _,by show (0:Int)≤_; omega⟩
 ·cases hs:fF (s.length+1) 0 s with
  | inr ts=>exact ⟨Int.le_refl _,by show (0:Int)≤_; omega⟩
  | inl e =>
   show 0≤(tF s 0 e).fAt∧(tF s 0 e).fAt≤_
   unfold tF
   cases he:e.2 with
   | none=>exact ⟨Int.le_refl _,by show (0:Int)≤_; omega⟩
   | some n =>
    have:=vN _ _ _ e n hs he
    exact ⟨by show 0≤(s.length:Int) - (n:Int); omega,by show (s.length:Int) - (n:Int)≤_; omega⟩
theorem FJ {f:Nat}(ih:Fol f):∀ (s:Bytes) (a:Int) q,0≤a→a+(s.length:Int)≤1000000000→dO (f+1) s a=some q→Ev2 (λ n _=>dU n s a) (WOut q):=by
 intro s a q h0 h1 hq
 rw [dO] at hq
 refine cq ?_
 simp only [dU]
 refine am _ (yj s) ?_
 by_cases hk:(dQ s).2.fKind=0
 ·rw [if_neg (by simpa using hk)] at hq
  refine ai hk ?_
  have hg:=oN h0 h1 hk
  have hlen:(dQ s).1.length≤65537:=(nT h0 h1 hk).2.2
  have hL:=hg.1
  have hL1:(dQ s).1.length≤1000000000:=by omega
  generalize hLL:(dQ s).1=L at hq hL hlen hL1
  have hne:0 < L.length:=by
   have:=sw hL
   rcases Nat.eq_zero_or_pos L.length with q | q
   ·rw [List.length_eq_zero_iff.1 q] at this; exact absurd rfl this
   ·exact q
  have hpos:Pos L a 0 1 true (L.map (mvT a)):=⟨hne,by decide,by omega,Z,Z⟩
  cases hx:eC f true (L.map (mvT a)) with
  | none=>rw [hx] at hq; cases hq
  | some y =>
   rw [hx] at hq
   have hr:=ih.e true _ L a hL hL1 0 1 y hpos hx
   rcases y with e | ⟨x,l⟩
   ·cases hq
    refine af _ hr ?_
    rintro ⟨z1,z2⟩ ⟨he,j,l',h2,h3⟩
    cases h2
    refine af (λ t=>∃ j:Nat,t=(L,(j:Int),1,a,e.1,e.2,[])) (af _ (eR hL hL1 h3) ?_) ?_
    ·rintro ⟨z1,z2⟩ ⟨h1,j,h2,h3,h4,h5⟩
     replace h1:z1=_:=h1; subst h1; cases h2
     exact aK (λ _=>ab ⟨j,Z⟩) (λ _=>am _ (ao (tY he _ _ _ _) Z) (ab ⟨j,Z⟩))
    ·rintro _ ⟨j,rfl⟩
     exact ab ⟨he,Z⟩
   ·refine af _ hr ?_
    rintro ⟨z1,z2⟩ ⟨hz,j,h2,h3⟩
    replace hz:z1=_:=hz; subst hz; cases h2
    have hq:(if (hd true l).fKind=6 then some (.inr z1) else some (.inl (2,(hd true l).fAt)))=some q:=hq
    by_cases k6:(hd true l).fKind=6
    ·rw [if_pos k6] at hq; cases hq
     refine af (λ t=>∃ j:Nat,t=(L,(j:Int),1,a,0,0,[])) (af _ (eR hL hL1 h3) ?_) ?_
     ·rintro ⟨y1,y2⟩ ⟨h1,j,h2,h3,h4,h5⟩
      replace h1:y1=_:=h1; subst h1; cases h2
      exact ai k6 (ab ⟨j,Z⟩)
     ·rintro _ ⟨j,rfl⟩
      exact ab Z
    ·rw [if_neg k6] at hq; cases hq
     refine af (λ t=>∃ j:Nat,t=(L,(j:Int),1,a,2,(hd true l).fAt,[])) (af _ (eR hL hL1 h3) ?_) ?_
     ·rintro ⟨y1,y2⟩ ⟨h1,j,h2,h3,h4,h5⟩
      replace h1:y1=_:=h1; subst h1; cases h2
      exact ag k6 (am _ (ao (gH _ _ _ _) Z) (ab ⟨j,Z⟩))
     ·rintro _ ⟨j,rfl⟩
      exact ab ⟨(by decide:(2:Int)≠0),Z⟩
 ·rw [if_pos hk] at hq; cases hq
  have:=yb s
  refine ag hk (av (aI O O) (ab ⟨hk,Z⟩))
theorem xw {s:Bytes}{a:Int}{i fr:Nat}(text:Bytes)(parts:List ac)(opn:Bool)(ha:0≤a)(h1:a+(s.length:Int)≤1000000000)(hi:i≤s.length)(hf:fr≤i)(hp:parts.length≤2*i) :
  d6 (.mk s a (i:Int) (fr:Int) text parts opn)=some (.mk s a (i:Int) (fr:Int) [] (flS (a+(fr:Int)) (a+(i:Int)) text parts) opn):=by
 unfold d6 flS
 by_cases h:fr < i
 ·rw [if_pos (by show (fr:Int) < (i:Int); omega),if_pos O]
  show ((ck (inR (a+(fr:Int))) <| ck ((parts.length+1)*160≤140737488355328) <| some (parts++[yL text (a+(fr:Int))]):Option (List ac)).bind λ f6=>some (al.mk s a (i:Int) (fr:Int) ([]:Bytes) f6 opn))=_
  rw [bS (aI O O),bS O]; rfl
 ·rw [if_neg (by show ¬ (fr:Int) < (i:Int); omega),if_neg O]; rfl
theorem rF {e:ac}(hb:Sz e):Ev2 (λ n _=>eW n e dOk) (·=AO (kW (.inr e))):=by
 simp only [eW]
 refine ai Z (am _ (Dp hb) ?_)
 by_cases h:chk e=0
 ·exact ai h (ab (by unfold kW; simp only [h,if_true]; rfl))
 ·exact ag h (ab (by unfold kW; simp only [h,if_false]; rfl))
theorem E6 {f:Nat}(ih:Fol f):∀ (s:Bytes) (a:Int) q,0≤a→a+(s.length:Int)≤1000000000→gV (f+1) s a=some q→Ev2 (λ n _=>eu n s a) (·=AO q):=by
 intro s a q h0 h1 hq
 rw [gV] at hq
 refine cq ?_
 simp only [eu]
 cases hr:fo f a a [] [] false s with
 | none=>rw [hr] at hq; cases hq
 | some y =>
  rw [hr] at hq
  have hsz:=(fct f).r a a [] [] false s (2*s.length) h0 h1 (by decide) (λ y hy=>by cases hy) G y hr
  have hread:=ih.r s a 0 0 [] [] false y h0 h1 (Nat.zero_le _) (Nat.le_refl _) (by decide) (by decide) (by simpa using hr)
  rcases y with e | ⟨frm,pos,text,parts,opn⟩
  ·cases hq
   refine af (λ r=>e.1≠0∧r.1=eD e) (cq ?_) ?_
   ·simp only [db]
    refine ee (cn (bT (f:=λ n m=>bo n (aC n) m s a 0 0 [] [] false) hread) ?_)
    rintro r ⟨he,t,rfl⟩
    exact ⟨he,Z⟩
   ·rintro ⟨r1,r2⟩ ⟨he,hz⟩
    cases hz
    exact ag he (ab Z)
  ·have hq:some (kW (.inr (ny a (frm,pos,text,parts,opn))))=some q:=hq
   cases hq
   refine af (λ r=>∃ (i fr:Nat),frm=a+(fr:Int)∧pos=a+(i:Int)∧fr≤i∧i≤s.length∧parts.length≤2*i∧r=(dOk,.mk s a (i:Int) (fr:Int) text parts opn)) (cq ?_) ?_
   ·simp only [db]
    refine ee (cn (bT (f:=λ n m=>bo n (aC n) m s a 0 0 [] [] false) hread) ?_)
    rintro r ⟨i,fr,g1,g2,g3,g4,g5,rfl⟩
    exact ab ⟨i,fr,g1,g2,g3,g4,g5,Z⟩
   ·rintro _ ⟨i,fr,rfl,rfl,g3,g4,g5,rfl⟩
    have hz:Sz (ny a (a+(fr:Int),a+(i:Int),text,parts,opn)):=vd O hsz
    refine ai Z (am _ (ao Z Z) ?_)
    cases opn with
    | true =>
     refine am (2,0,[],[],0,0,[],[],[],flS (a+(fr:Int)) (a+(i:Int)) text parts,a) (ai Z (am _ (ao (xw text parts true h0 h1 g4 g3 g5) Z) (ab Z))) ?_
     exact am _ (rF hz) (ab Z)
    | false =>
     refine am (1,0,[],[],3,0,text,[],[],[],a) (ag Bool.false_ne_true (ab Z)) ?_
     exact am _ (rF hz) (ab Z)
theorem FG {f:Nat}(ih:Fol f):∀ (s:Bytes) (a:Int) (i fr:Nat) (text:Bytes) (parts:List ac) (opn:Bool) q,0≤a→a+(s.length:Int)≤1000000000→i≤s.length→fr≤i→text.length≤4096→parts.length≤2*i→fo (f+1) (a+(fr:Int)) (a+(i:Int)) text parts opn (s.drop i)=some q →
  Ev2 (λ n m=>bo n (aC n) m s a (i:Int) (fr:Int) text parts opn) (RdO s a q):=by
 intro s a i fr text parts opn q h0 h1 hi hf ht hp hq
 refine aZ ?_
 simp only [bo]
 cases hl:s.drop i with
 | nil =>
  rw [hl,fo] at hq; cases hq
  have:=Dk hl
  exact ag O (ab ⟨i,fr,Z,Z,hf,hi,hp,Z⟩)
 | cons b r =>
  obtain ⟨g1,g2,g3⟩:=vD hl
  have hsub:sub s (i:Int) (s.length:Int)=b::r:=by rw [iC,Int.toNat_natCast,hl]
  have hlen:(b::r).length=s.length - i:=by rw [← hl,List.length_drop]
  rw [hl,fo] at hq
  refine ai O (av O ?_)
  rw [hsub]
  by_cases hp3:hasPrefix (b::r) [36,36,123]=true
  ·rw [if_pos hp3] at hq
   have hpl:=jM hp3
   simp only [List.length_cons,List.length_nil] at hpl hlen
   have hlong:=zP s a ((i:Int)+3) (fr:Int) (text++[36,123]) parts opn (aI O O)
   have htl:(text++[36,123]).length=text.length+2:=by simp
   rw [htl] at hlong
   by_cases hlg:4096 < text.length+2
   ·rw [if_pos hlg] at hq hlong; cases hq
    refine am (3,a+(fr:Int),[],s,a,(i:Int)+3,(fr:Int),text++[36,123],parts,opn) ?_ (ag (show ¬ (3:Int)=0 by decide) (ab ⟨(by decide:(3:Int)≠0),_,Z⟩))
    exact am true (ao (fq _ _) hp3) (ai Z (av (by simp only [List.length_cons,List.length_nil]; omega) (av (aI O O) (am _ (ao hlong Z) (ab Z)))))
   ·rw [if_neg hlg] at hq hlong
    refine am (0,0,[],s,a,(i:Int)+3,(fr:Int),text++[36,123],parts,opn) ?_ (ai Z ?_)
    ·exact am true (ao (fq _ _) hp3) (ai Z (av (by simp only [List.length_cons,List.length_nil]; omega) (av (aI O O) (am _ (ao hlong Z) (ab Z)))))
    ·have e3:s.drop (i+3)=(b::r).drop 3:=by rw [sI s i 3,hl]
     have:=ih.r s a (i+3) fr (text++[36,123]) parts opn q h0 h1 O O O O  (by
      rw [e3,show a+((i+3:Nat):Int)=a+(i:Int)+3 by omega]; exact hq)
     rw [show ((i+3:Nat):Int)=(i:Int)+3 by omega] at this
     exact this
  rw [if_neg hp3] at hq
  by_cases hp2:hasPrefix (b::r) [36,123]=true
  ·rw [if_pos hp2] at hq
   have hpl:=jM hp2
   simp only [List.length_cons,List.length_nil] at hpl hlen
   have e2:s.drop (i+2)=(b::r).drop 2:=by rw [sI s i 2,hl]
   have hfl:=xw text parts opn h0 h1 hi hf hp
   have hflen:(flS (a+(fr:Int)) (a+(i:Int)) text parts).length≤parts.length+1:=by unfold flS; split <;> simp
   cases hc:fO f 1 ((b::r).drop 2) with
   | none=>rw [hc] at hq; cases hq
   | some y =>
    rw [hc] at hq
    have hcl:=xM ((Ao (s:=s) O f).1 1 (i+2) ((i:Int)+2) 1 y O rfl (by decide) (by rw [List.length_drop]; omega) O (by rw [e2]; exact hc))
    have pre:∀ {P:ax×al→Prop},Ev2 (λ n _=>(aC (n+1) (al.mk s a (i:Int) (fr:Int) text parts opn))) P→Ev2 (λ n _=>(aC n (al.mk s a (i:Int) (fr:Int) text parts opn))) P:=λ h=>cq h
    cases y with
    | none =>
     cases hq
     refine am (40,a+(i:Int),[],s,a,(i:Int),(fr:Int),[],flS (a+(fr:Int)) (a+(i:Int)) text parts,true) ?_ (ag (show ¬ (40:Int)=0 by decide) (ab ⟨(by decide:(40:Int)≠0),_,Z⟩))
     refine am false (ao (fq _ _) (by simpa using hp3)) (ag Bool.false_ne_true (am true (ao (fq _ _) hp2) (ai Z ?_)))
     refine am (ax.mk 40 (a+(i:Int)) [],al.mk s a (i:Int) (fr:Int) [] (flS (a+(fr:Int)) (a+(i:Int)) text parts) true) (pre ?_) (ab Z)
     simp only [aC]
     exact am _ (ao hfl Z) (av (aI (by show _≤(i:Int)+2; omega) (by show (i:Int)+2≤_; omega)) (am _ hcl (ai (by show (-1:Int) < 0; decide) (av (aI (by show _≤a+(i:Int); omega) (by show a+(i:Int)≤_; omega)) (ab Z)))))
    | some r' =>
     simp only at hq
     have hsf:=(iG f).1 _ _ _ hc
     have hsl:=hsf.2
     have hd2:((b::r).drop 2).length=s.length - (i+2):=by rw [← e2,List.length_drop]
     have hrs:r' <:+ s:=by rw [← e2] at hsf; exact hsf.1.trans (List.drop_suffix _ _)
     have hsd:=EC hrs
     have hcp:EJ s (some r')=((s.length - r'.length - 1:Nat):Int):=by show (s.length:Int) - (r'.length:Int) - 1=_; omega
     rw [hcp] at hcl
     have hsub2:sub s ((i:Int)+2) ((s.length - r'.length - 1:Nat):Int)=((b::r).drop 2).take (((b::r).drop 2).length - r'.length - 1):=by
      rw [show (i:Int)+2=((i+2:Nat):Int) by omega,xy,List.drop_take,e2]
      congr 1; omega
     generalize hX:((b::r).drop 2).take (((b::r).drop 2).length - r'.length - 1)=X at hq hsub2
     have hXl:X.length≤((b::r).drop 2).length:=by rw [← hX,List.length_take]; omega
     cases hw:dO f X (a+(i:Int)+2) with
     | none=>rw [hw] at hq; cases hq
     | some z =>
      rw [hw] at hq
      have hwh:=ih.w X (a+(i:Int)+2) z O O  hw
      have lead:∀ {P:ax×al→Prop},Ev2 (λ n _=>(dU n X (a+(i:Int)+2)).bind λ r12=>if r12.2.fKind=0 then ck (((flS (a+(fr:Int)) (a+(i:Int)) text parts).length+1)*160≤140737488355328) <| ck (inR (((s.length - r'.length - 1:Nat):Int)+1)) <| some (ax.mk 0 0 ([]:Bytes),al.mk s a (((s.length - r'.length - 1:Nat):Int)+1) (((s.length - r'.length - 1:Nat):Int)+1) [] (flS (a+(fr:Int)) (a+(i:Int)) text parts++[r12.1]) true) else some (r12.2,al.mk s a (i:Int) (fr:Int) [] (flS (a+(fr:Int)) (a+(i:Int)) text parts) true)) P →
        Ev2 (λ n _=>(aC n (al.mk s a (i:Int) (fr:Int) text parts opn))) P:=by
       intro P hP
       refine pre ?_
       simp only [aC]
       refine am _ (ao hfl Z) (av (aI (by show _≤(i:Int)+2; omega) (by show (i:Int)+2≤_; omega)) (am _ hcl (ag O (av (aI (by show _≤(i:Int)+2; omega) (by show (i:Int)+2≤_; omega)) (av ⟨by show (0:Int)≤(i:Int)+2; omega,by show (i:Int)+2≤_; omega,by show _≤(s.length:Int); omega⟩ (av (aI (by show _≤a+(i:Int); omega) (by show a+(i:Int)≤_; omega)) (av (aI (by show _≤a+(i:Int)+2; omega) (by show a+(i:Int)+2≤_; omega)) ?_)))))))
       simp only [hsub2]
       exact hP
      rcases z with e | e
      ·cases hq
       have he:=(fct f).w X (a+(i:Int)+2) O O  _ hw
       refine am (e.1,e.2,[],s,a,(i:Int),(fr:Int),[],flS (a+(fr:Int)) (a+(i:Int)) text parts,true) ?_ (ag he (ab ⟨he,_,Z⟩))
       refine am false (ao (fq _ _) (by simpa using hp3)) (ag Bool.false_ne_true (am true (ao (fq _ _) hp2) (ai Z ?_)))
       refine am (eD e,al.mk s a (i:Int) (fr:Int) [] (flS (a+(fr:Int)) (a+(i:Int)) text parts) true) (lead (af _ hwh ?_)) (ab Z)
       rintro ⟨w1,w2⟩ ⟨_,hz⟩
       cases hz
       exact ag he (ab Z)
      ·have hq:fo f (a+(i:Int)+(((b::r).length - r'.length:Nat):Int)) (a+(i:Int)+(((b::r).length - r'.length:Nat):Int)) [] (flS (a+(fr:Int)) (a+(i:Int)) text parts++[e]) true r'=some q:=hq
       have hpos:a+(i:Int)+(((b::r).length - r'.length:Nat):Int)=a+((s.length - r'.length:Nat):Int):=by
        have:=hsf.1.length_le
        simp only [List.length_cons] at hd2 ⊢; omega
       rw [hpos] at hq
       have hi2:((s.length - r'.length - 1:Nat):Int)+1=((s.length - r'.length:Nat):Int):=by omega
       refine am (0,0,[],s,a,((s.length - r'.length:Nat):Int),((s.length - r'.length:Nat):Int),[],flS (a+(fr:Int)) (a+(i:Int)) text parts++[e],true) ?_ (ai Z ?_)
       ·refine am false (ao (fq _ _) (by simpa using hp3)) (ag Bool.false_ne_true (am true (ao (fq _ _) hp2) (ai Z ?_)))
        refine am (dOk,al.mk s a ((s.length - r'.length:Nat):Int) ((s.length - r'.length:Nat):Int) [] (flS (a+(fr:Int)) (a+(i:Int)) text parts++[e]) true) (lead (af _ hwh ?_)) (ab Z)
        rintro _ rfl
        refine ai Z (av O (av (aI O O) (ab ?_)))
        rw [hi2]; rfl
       ·exact ih.r s a (s.length - r'.length) (s.length - r'.length) [] _ true q h0 h1 O (Nat.le_refl _) (by decide) (by rw [List.length_append,List.length_singleton]; omega) (by rw [hsd]; exact hq)
  rw [if_neg hp2] at hq
  have hit:=Eu (s:=s) O (a:=a) (fr:=(fr:Int)) (i:=i) h0 O O O text ht parts opn hl
  cases hi':jG (b::r) with
  | inl k =>
   rw [hi'] at hq hit; cases hq
   have hk:=yl hi'
   refine af (λ t=>t.1=k∧t.2.1=a+(i:Int)∧t.2.2.1=[]) ?_ ?_
   ·refine am false (ao (fq _ _) (by simpa using hp3)) (ag Bool.false_ne_true (am false (ao (fq _ _) (by simpa using hp2)) (ag Bool.false_ne_true ?_)))
    refine af _ hit ?_
    rintro ⟨z1,z2⟩ hz
    have hz:z1=ax.mk k (a+(i:Int)) []:=hz
    subst hz
    exact ab ⟨Z,Z,Z⟩
   ·rintro ⟨t1,t2,t3,t4⟩ ⟨k1,k2,k3⟩
    simp only at k1 k2 k3
    subst k1 k2 k3
    exact ag hk (ab ⟨hk,_,Z⟩)
  | inr tn =>
   obtain ⟨t,n⟩:=tn
   rw [hi'] at hq hit
   have hq:(if 4096 < text.length+t.length then some (.inl (3,a+(fr:Int))) else fo f (a+(fr:Int)) (a+(i:Int)+(n:Int)) (text++t) parts opn ((b::r).drop n))=some q:=hq
   have hn:=oJ hi'
   by_cases hlg:4096 < text.length+t.length
   ·rw [if_pos hlg] at hq; cases hq
    refine af (λ t=>t.1=3∧t.2.1=a+(fr:Int)∧t.2.2.1=[]) ?_ ?_
    ·refine am false (ao (fq _ _) (by simpa using hp3)) (ag Bool.false_ne_true (am false (ao (fq _ _) (by simpa using hp2)) (ag Bool.false_ne_true ?_)))
     refine af _ hit ?_
     rintro ⟨z1,z2⟩ hz
     unfold ItO at hz
     simp only [if_pos hlg] at hz
     subst hz
     exact ab ⟨Z,Z,Z⟩
    ·rintro ⟨t1,t2,t3,t4⟩ ⟨k1,k2,k3⟩
     simp only at k1 k2 k3
     subst k1 k2 k3
     exact ag (show ¬ (3:Int)=0 by decide) (ab ⟨(by decide:(3:Int)≠0),_,Z⟩)
   ·rw [if_neg hlg] at hq
    refine am (0,0,[],s,a,(i:Int)+(n:Int),(fr:Int),text++t,parts,opn) ?_ (ai Z ?_)
    ·refine am false (ao (fq _ _) (by simpa using hp3)) (ag Bool.false_ne_true (am false (ao (fq _ _) (by simpa using hp2)) (ag Bool.false_ne_true ?_)))
     refine af _ hit ?_
     rintro ⟨z1,z2⟩ hz
     unfold ItO at hz
     simp only [if_neg hlg] at hz
     cases hz
     exact ab Z
    ·have e3:s.drop (i+n)=(b::r).drop n:=by rw [sI s i n,hl]
     have:=ih.r s a (i+n) fr (text++t) parts opn q h0 h1 O O  (by rw [List.length_append]; omega) O (by
      rw [e3,show a+((i+n:Nat):Int)=a+(i:Int)+(n:Int) by omega]; exact hq)
     rw [show ((i+n:Nat):Int)=(i:Int)+(n:Int) by omega] at this
     exact this
theorem fol:∀ f,Fol f:=by
 intro f
 induction f with
 | zero =>
  constructor
  ·intro b l L base hL hlen i nest q h hq; rw [eC] at hq; cases hq
  ·intro lev li b l _ _ L base hL hlen i nest q h hq; rw [kK] at hq; cases hq
  ·intro lev li b l x r5 _ _ _ L base hL hlen i nest q h hq; rw [lx] at hq; cases hq
  ·intro b l L base hL hlen i nest q h hq; rw [unS] at hq; cases hq
  ·intro b l x r1 _ L base hL hlen i nest q h hq; rw [iw] at hq; cases hq
  ·intro b l L base hL hlen i nest q h hq; rw [jA] at hq; cases hq
  ·intro b l _ L base hL hlen i nest q h hq; rw [mf] at hq; cases hq
  ·intro b l _ L base hL hlen i nest q h hq; rw [jI] at hq; cases hq
  ·intro en l out _ _ L base hL hlen i nest q h hq; rw [fU] at hq; cases hq
  ·intro l out _ _ L base hL hlen i nest q h hq; rw [lw] at hq; cases hq
  ·intro l L base hL hlen i nest q h hq; rw [jJ] at hq; cases hq
  ·intro a k l _ _ L base hL hlen i nest b q _ _ h hq; rw [iV] at hq; cases hq
  ·intro s a q _ _ hq; rw [gV] at hq; cases hq
  ·intro s a i fr text parts opn q _ _ _ _ _ _ hq; rw [fo] at hq; cases hq
  ·intro s a q _ _ hq; rw [dO] at hq; cases hq
 | succ f ih=>exact ⟨Gq ih,Ga ih,E2 ih,FQ ih,ES ih,F3 ih,Gb ih,Gm ih,Gf ih,FN ih,FP ih,Fg ih,E6 ih,FG ih,FJ ih⟩
inductive F2 {α β:Type}(P:α→β→Prop):List α→List β→Prop where
 | nil:F2 P [] []
 | cons {a:α} {b:β} {l:List α} {m:List β} (h:P a b) (t:F2 P l m):F2 P (a::l) (b::m)
theorem F2.app {α β:Type}{P:α→β→Prop}{a c:List α}{b d:List β}(h:F2 P a b)(g:F2 P c d):F2 P (a++c) (b++d):=by
 induction h with
 | nil=>exact g
 | cons p _ ih=>exact .cons p ih
theorem F2.len {α β:Type}{P:α→β→Prop}{a:List α}{b:List β}(h:F2 P a b):b.length=a.length:=by
 induction h with
 | nil=>rfl
 | cons p _ ih=>rw [List.length_cons,List.length_cons,ih]
theorem F2.zip {α β:Type}{P:α→β→Prop}{a:List α}{b:List β}(h:F2 P a b):∀ p∈a.zip b,P p.1 p.2:=by
 induction h with
 | nil=>intro p hp; cases hp
 | cons p _ ih =>
  intro q hq
  rw [List.zip_cons_cons] at hq
  rcases List.mem_cons.1 hq with rfl | hq
  ·exact p
  ·exact ih q hq
theorem F2.map {α β γ:Type}{P:β→γ→Prop}(f:α→β)(g:α→γ):∀ l:List α,(∀ a∈l,P (f a) (g a))→F2 P (l.map f) (l.map g)
 | [],_=>.nil
 | a::l,h=>.cons (h a List.mem_cons_self) (F2.map f g l λ b hb=>h b (List.mem_cons_of_mem _ hb))
theorem Aw:∀ {l:List ad},Gd l→∀ t∈l,TkB t
 | [],h,_,_=>h.elim
 | x::r,h,t,ht=>by
  rcases List.mem_cons.1 ht with rfl | ht
  ·exact h.1
  ·rcases h.2 with h2 | h2
   ·rw [h2.2] at ht; cases ht
   ·exact Aw h2.2 t ht
theorem f21 {α β:Type}{P:α→β→Prop}{a:α}{b:β}(h:P a b):F2 P [a] [b]:=.cons h .nil
section
variable {R:Int→Int→Prop}
def TR (R:Int→Int→Prop)(t t':ad):Prop:=t'.fKind=t.fKind∧t'.fText=t.fText∧R t.fAt t'.fAt
inductive RE (R:Int→Int→Prop):ac→ac→Prop where
 | mk {x y:ac} (k:y.fKind=x.fKind) (o:y.fOp=x.fOp) (n:y.fName=x.fName) (m:y.fKey=x.fKey) (v:y.fValue=x.fValue) (a:R x.fAt y.fAt) (c:x.fKids.length≤4000000000) (l:y.fKids.length=x.fKids.length) (s:∀ p∈x.fKids.zip y.fKids,RE R p.1 p.2):RE R x y
theorem RE.at {x y:ac}(h:RE R x y):R x.fAt y.fAt:=by cases h; assumption
theorem pK {k o:Int}{n m:Bytes}{v:ah}{ks ks':List ac}{a a':Int}(h:F2 (RE R) ks ks')(ha:R a a')(hc:ks.length≤4000000000):RE R (ac.mk k o n m v ks a) (ac.mk k o n m v ks' a') :=
 .mk Z Z Z Z Z ha hc h.len h.zip
theorem wl {v:ah}{a a':Int}(ha:R a a'):RE R (uO v a) (uO v a'):=pK .nil ha (Nat.zero_le _)
theorem Gn {x y:ac}{a a':Int}(h:RE R x y)(ha:R a a'):RE R (ac.mk x.fKind x.fOp x.fName x.fKey x.fValue x.fKids a) (ac.mk y.fKind y.fOp y.fName y.fKey y.fValue y.fKids a'):=by
 cases h with
 | mk k o n m v b c l s=>exact .mk k o n m v ha c l s
def RQ (R:Int→Int→Prop){α β:Type}(P:α→β→Prop):PR α→PR β→Prop
 | none,none=>True
 | some (.inl e),some (.inl e')=>e'.1=e.1∧R e.2 e'.2
 | some (.inr (a,l)),some (.inr (b,m))=>P a b∧F2 (TR R) l m
 | _,_=>False
def RT (R:Int→Int→Prop){α β:Type}(P:α→β→Prop):Option (PE⊕α)→Option (PE⊕β)→Prop
 | none,none=>True
 | some (.inl e),some (.inl e')=>e'.1=e.1∧R e.2 e'.2
 | some (.inr a),some (.inr b)=>P a b
 | _,_=>False
theorem eH {α β:Type}{P:α→β→Prop}{a:α}{b:β}{l m:List ad}(h:P a b)(hl:F2 (TR R) l m):RQ R P (pok a l) (pok b m):=⟨h,hl⟩
theorem qa {α β:Type}{P:α→β→Prop}{k a a':Int}(h:R a a'):RQ R P (per k a) (per k a'):=⟨Z,h⟩
theorem dl {α β:Type}{P:α→β→Prop}{p:Prop} [Decidable p] {x y:PR α}{x' y':PR β}(h1:p→RQ R P x x')(h2:¬p→RQ R P y y'):RQ R P (if p then x else y) (if p then x' else y'):=by
 by_cases h:p
 ·rw [if_pos h,if_pos h]; exact h1 h
 ·rw [if_neg h,if_neg h]; exact h2 h
theorem nJ {α β:Type}{P:α→β→Prop}{p:Prop} [Decidable p] {x y:Option (PE⊕α)}{x' y':Option (PE⊕β)}(h1:p→RT R P x x')(h2:¬p→RT R P y y'):RT R P (if p then x else y) (if p then x' else y'):=by
 by_cases h:p
 ·rw [if_pos h,if_pos h]; exact h1 h
 ·rw [if_neg h,if_neg h]; exact h2 h
theorem dX {α β γ δ:Type}{P:α→β→Prop}{P':γ→δ→Prop}{Q:α→Prop}{l0:List ad}{x:PR α}{x':PR β}{k:α→List ad→PR γ}{k':β→List ad→PR δ}(h:RQ R P x x')(hx:fE Q l0 x)
  (hk:∀ a b l m,P a b→F2 (TR R) l m→Gl l→Q a→RQ R P' (k a l) (k' b m)):RQ R P' (pb x k) (pb x' k'):=by
 match x,x',h with
 | none,none,_=>exact trivial
 | some (.inl e),some (.inl e'),h=>exact h
 | some (.inr (a,l)),some (.inr (b,m)),h=>exact hk a b l m h.1 h.2 (hx _ Z).2.2 (hx _ Z).1
theorem nf2 (b:Bool){l m:List ad}(h:F2 (TR R) l m):F2 (TR R) (nf b l) (nf b m):=by
 cases b
 ·exact h
 ·induction h with
  | nil=>exact .nil
  | @cons x y l m p t ih =>
   show F2 (TR R) ((x::l).dropWhile nlT) ((y::m).dropWhile nlT)
   rw [List.dropWhile_cons,List.dropWhile_cons,show nlT y=nlT x by unfold nlT; rw [p.1]]
   split
   ·exact ih
   ·exact .cons p t
theorem hd2 (b:Bool){l m:List ad}(g:Gl l)(h:F2 (TR R) l m):TR R (hd b l) (hd b m)∧F2 (TR R) (tl b l) (tl b m):=by
 have h1:=nf2 b h
 have h2:=sw (mC (b:=b) g.1)
 unfold hd tl
 generalize nf b l=x at h1 h2 ⊢
 generalize nf b m=y at h1 ⊢
 cases h1 with
 | nil=>exact absurd Z h2
 | cons p t=>exact ⟨p,t⟩
theorem tl2 {b:Bool}{l m:List ad}(h:F2 (TR R) l m)(g:Gl l):F2 (TR R) (tl b l) (tl b m):=(hd2 b g h).2
theorem at2 {b:Bool}{l m:List ad}(h:F2 (TR R) l m)(g:Gl l):R (hd b l).fAt (hd b m).fAt:=(hd2 b g h).1.2.2
theorem k2' {b:Bool}{l m:List ad}(h:F2 (TR R) l m)(g:Gl l):(hd b m).fKind=(hd b l).fKind:=(hd2 b g h).1.1
theorem x2 {b:Bool}{l m:List ad}(h:F2 (TR R) l m)(g:Gl l):(hd b m).fText=(hd b l).fText:=(hd2 b g h).1.2.1
theorem sg2 {b:Bool}{l m:List ad}(h:F2 (TR R) l m)(g:Gl l)(s:Bytes):sgB b m s=sgB b l s:=by unfold sgB; rw [k2' h g,x2 h g]
theorem wd2 {b:Bool}{l m:List ad}(h:F2 (TR R) l m)(g:Gl l)(s:Bytes):wdB b m s=wdB b l s:=by unfold wdB; rw [k2' h g,x2 h g]
theorem amp2 {b:Bool}{l m:List ad}(h:F2 (TR R) l m)(g:Gl l)(v:Nat):qW b m v=qW b l v:=by
 unfold qW
 congr 1
 funext p
 exact sg2 h g p.1
theorem jp {b:Bool}{s:Bytes}{l m:List ad}(h:F2 (TR R) l m)(g:Gl l):RQ R (λ _ _=>True) (fG b s l) (fG b s m):=by
 unfold fG
 rw [sg2 h g]
 exact dl (λ _=>eH trivial (tl2 h g)) (λ _=>qa (at2 h g))
theorem Fb {b:Bool}{s:Bytes}{l m:List ad}(h:F2 (TR R) l m)(g:Gl l):RQ R (λ _ _=>True) (uq b s l) (uq b s m):=by
 unfold uq
 rw [wd2 h g]
 exact dl (λ _=>eH trivial (tl2 h g)) (λ _=>qa (at2 h g))
theorem BM {b:Bool}{l m:List ad}(h:F2 (TR R) l m)(g:Gl l):RQ R Eq (rY b l) (rY b m):=by
 unfold rY
 rw [k2' h g,x2 h g]
 exact dl (λ _=>eH Z (tl2 h g)) (λ _=>qa (at2 h g))
theorem shp2 {x y:ac}(k:y.fKind=x.fKind)(o:y.fOp=x.fOp)(n:y.fName=x.fName)(m:y.fKey=x.fKey)(v:y.fValue=x.fValue)(l:y.fKids.length=x.fKids.length):rS y=rS x:=by
 unfold rS
 simp only [gh,hZ,k,o,n,m,v,l]
theorem FS {x y:ac}(k:y.fKind=x.fKind)(o:y.fOp=x.fOp)(n:y.fName=x.fName)(m:y.fKey=x.fKey)(v:y.fValue=x.fValue)(l:y.fKids.length=x.fKids.length):oo y=oo x:=by
 unfold oo
 simp only [shp2 k o n m v l,k,n,m,v]
theorem vis2 {x y:ac}(h:RE R x y):∀ c lv,nb c lv y=nb c lv x:=by
 induction h with
 | @mk x y k o n m v a c l s ih =>
  have hl:∀ (xs ys:List ac),ys.length=xs.length→(∀ p∈xs.zip ys,∀ c lv,nb c lv p.2=nb c lv p.1)→∀ c lv,np c lv ys=np c lv xs:=by
   intro xs
   induction xs with
   | nil =>
    intro ys hl _ c lv
    rw [List.length_eq_zero_iff.1 hl]
   | cons p xs ihx =>
    intro ys hl hp c lv
    cases ys with
    | nil=>cases hl
    | cons q ys =>
     rw [List.zip_cons_cons] at hp
     have h1:=hp _ List.mem_cons_self
     rw [pE,pE,h1 c lv]
     split
     ·exact ihx ys (Nat.succ.inj hl) (λ p hq=>hp p (List.mem_cons_of_mem _ hq)) _ _
     ·rfl
  intro c lv
  rw [uk,uk,FS k o n m v l,hl x.fKids y.fKids l ih]
theorem chk2 {x y:ac}(h:RE R x y):chk y=chk x:=by unfold chk; rw [vis2 h]
theorem EE {x y:ac}(h:RE R x y):RT R (RE R) (some (kW (.inr x))) (some (kW (.inr y))):=by
 unfold kW
 simp only [chk2 h]
 split
 ·exact h
 ·exact ⟨Z,h.at⟩
theorem fl2 {frm frm' pos pos':Int}{text:Bytes}{p q:List ac}(hf:R frm frm')(hd:pos' - frm'=pos - frm)(h:F2 (RE R) p q):F2 (RE R) (flS frm pos text p) (flS frm' pos' text q):=by
 unfold flS
 by_cases hlt:frm < pos
 ·rw [if_pos hlt,if_pos O]; exact h.app (f21 (wl hf))
 ·rw [if_neg hlt,if_neg O]; exact h
def RZ (R:Int→Int→Prop)(z z':Int×Int×Bytes×List ac×Bool):Prop:=R z.1 z'.1∧z'.2.1 - z'.1=z.2.1 - z.1∧z'.2.2.1=z.2.2.1∧F2 (RE R) z.2.2.2.1 z'.2.2.2.1∧z'.2.2.2.2=z.2.2.2.2
theorem EQ {a a':Int}(ha:R a a'):∀ {z z':Int×Int×Bytes×List ac×Bool},z.2.2.2.1.length≤2000000000→RZ R z z'→RE R (ny a z) (ny a' z')
 | (f,p,t,ps,o),(f',p',t',ps',o'),hc,⟨h1,h2,h3,h4,h5⟩=>by
  replace hc:ps.length≤2000000000:=hc
  replace h1:R f f':=h1
  replace h2:p' - f'=p - f:=h2
  replace h3:t'=t:=h3
  replace h4:F2 (RE R) ps ps':=h4
  replace h5:o'=o:=h5
  subst h3 h5
  unfold ny
  cases o'
  ·exact wl ha
  ·refine pK (fl2 h1 h2 h4) ha ?_
   unfold flS
   split
   ·rw [List.length_append,List.length_singleton]; omega
   ·omega
structure Al (R:Int→Int→Prop)(f:Nat):Prop where
 e:∀ b {l m},F2 (TR R) l m→Gl l→RQ R (RE R) (eC f b l) (eC f b m)
 b:∀ v b {l m},F2 (TR R) l m→Gl l→RQ R (RE R) (kK f v b l) (kK f v b m)
 bl:∀ v b {x y l m},RE R x y→F2 (TR R) l m→Gl l→RQ R (RE R) (lx f v b x l) (lx f v b y m)
 u:∀ b {l m},F2 (TR R) l m→Gl l→RQ R (RE R) (unS f b l) (unS f b m)
 pl:∀ b {x y l m},RE R x y→F2 (TR R) l m→Gl l→RQ R (RE R) (iw f b x l) (iw f b y m)
 p:∀ b {l m},F2 (TR R) l m→Gl l→RQ R (RE R) (jA f b l) (jA f b m)
 s:∀ b {l m},F2 (TR R) l m→Gl l→(hd b l).fKind=3→RQ R (RE R) (mf f b l) (mf f b m)
 n:∀ b {l m},F2 (TR R) l m→Gl l→(hd b l).fKind=1→RQ R (RE R) (jI f b l) (jI f b m)
 i:∀ en {l m},F2 (TR R) l m→Gl l→RQ R (F2 (RE R)) (fU f en l) (fU f en m)
 t:∀ {l m},F2 (TR R) l m→Gl l→RQ R (F2 (RE R)) (lw f l) (lw f m)
 k:∀ {l m},F2 (TR R) l m→Gl l→RQ R (RE R) (jJ f l) (jJ f m)
 lo:∀ {a a'} k {l m},R a a'→F2 (TR R) l m→Gl l→RQ R (RE R) (iV f a k l) (iV f a' k m)
 tm:∀ (s:Bytes) {a a':Int},R a a'→0≤a→a+(s.length:Int)≤1000000000→RT R (RE R) (gV f s a) (gV f s a')
 r:∀ {frm frm' pos pos':Int} (text:Bytes) {p q:List ac} (o:Bool) (s:Bytes),R frm frm'→R pos pos'→pos' - frm'=pos - frm→F2 (RE R) p q→0≤pos→pos+(s.length:Int)≤1000000000→RT R (RZ R) (fo f frm pos text p o s) (fo f frm' pos' text q o s)
 w:∀ (s:Bytes) {a a':Int},R a a'→0≤a→a+(s.length:Int)≤1000000000→RT R (RE R) (dO f s a) (dO f s a')
theorem alk (hR:∀ a a' d,0≤a+d→a+d≤1000000000→R a a'→R (a+d) (a'+d)):∀ f,Al R f:=by
 intro f
 induction f with
 | zero =>
  constructor
  ·intro b l m _ _; rw [eC,eC]; exact trivial
  ·intro v b l m _ _; rw [kK,kK]; exact trivial
  ·intro v b x y l m _ _ _; rw [lx,lx]; exact trivial
  ·intro b l m _ _; rw [unS,unS]; exact trivial
  ·intro b x y l m _ _ _; rw [iw,iw]; exact trivial
  ·intro b l m _ _; rw [jA,jA]; exact trivial
  ·intro b l m _ _ _; rw [mf,mf]; exact trivial
  ·intro b l m _ _ _; rw [jI,jI]; exact trivial
  ·intro en l m _ _; rw [fU,fU]; exact trivial
  ·intro l m _ _; rw [lw,lw]; exact trivial
  ·intro l m _ _; rw [jJ,jJ]; exact trivial
  ·intro a a' k l m _ _ _; rw [iV,iV]; exact trivial
  ·intro s a a' _ _ _; rw [gV,gV]; exact trivial
  ·intro a a' b b' t p q o s _ _ _ _ _ _; rw [fo,fo]; exact trivial
  ·intro s a a' _ _ _; rw [dO,dO]; exact trivial
 | succ f ih =>
  constructor
  ·intro b l m h g
   rw [eC,eC]
   refine dX (ih.b 0 b h g) ((fct f).b 0 b l g) λ c c' l1 m1' zc h1 g1 q=>?_
   simp only [sg2 h1 g1]
   refine dl (λ hs=>?_) (λ _=>eH zc h1)
   exact dX (ih.e b (tl2 h1 g1) (glt g1 hs)) ((fct f).e b _ (glt g1 hs)) λ a a' l2 m2' za h2 g2 q=>dX (jp h2 g2) (cy g2) λ _ _ l3 m3' _ h3 g3 q=>dX (ih.e b h3 g3) ((fct f).e b _ g3) λ d d' l4 m4 zd h4 _ q=>eH (pK (.cons zc (.cons za (f21 zd))) zc.at G) h4
  ·intro v b l m h g
   rw [kK,kK]
   exact dl (λ _=>ih.u b h g) (λ _=>dX (ih.b _ b h g) ((fct f).b _ b l g) λ e e' l1 m1' z1 h1 g1 q=>ih.bl v b z1 h1 g1)
  ·intro v b x y l m zx h g
   rw [lx,lx,amp2 h g]
   cases ha:qW b l v with
   | none=>exact eH zx h
   | some p =>
    have hs:sgB b l p.1=true:=List.find?_some (p:=λ p:Bytes×Int=>sgB b l p.1) ha
    exact dX (ih.b _ b (tl2 h g) (glt g hs)) ((fct f).b _ b _ (glt g hs)) λ y' y'' l1 m1' z1 h1 g1 q=>ih.bl v b (pK (.cons zx (f21 z1)) zx.at G) h1 g1
  ·intro b l m h g
   rw [unS,unS]
   simp only [sg2 h g]
   refine dl (λ hs=>dX (ih.u b (tl2 h g) (glt g hs)) ((fct f).u b _ (glt g hs)) λ e e' l1 m1' z1 h1 _ q=>eH (pK (f21 z1) (at2 h g) G) h1) (λ _=>dl (λ hs=>dX (ih.u b (tl2 h g) (glt g hs)) ((fct f).u b _ (glt g hs)) λ e e' l1 m1' z1 h1 _ q=>eH (pK (f21 z1) (at2 h g) G) h1) (λ _=>?_))
   exact dX (ih.p b h g) ((fct f).p b l g) λ e e' l1 m1' z1 h1 g1 q=>ih.pl b z1 h1 g1
  ·intro b x y l m zx h g
   rw [iw,iw]
   simp only [sg2 h g]
   refine dl (λ hs=>?_) (λ _=>dl (λ hs=>?_) (λ _=>eH zx h))
   ·have g1:=glt g hs
    have h1:=tl2 (b:=b) h g
    simp only [k2' h1 g1,x2 h1 g1]
    exact dl (λ hk=>ih.pl b (pK (f21 zx) zx.at G) (tl2 h1 g1) (glk g1 hk (by decide))) (λ _=>qa (at2 h1 g1))
   ·exact dX (ih.e true (tl2 h g) (glt g hs)) ((fct f).e true _ (glt g hs)) λ y y' l1 m1' z1 h1 g1 q=>dX (jp h1 g1) (cy g1) λ _ _ l2 m2' _ h2 g2 q=>ih.pl b (pK (.cons zx (f21 z1)) zx.at G) h2 g2
  ·intro b l m h g
   rw [jA,jA]
   simp only [sg2 h g,k2' h g,x2 h g]
   refine dl (λ hk=>dl (λ _=>eH (wl (at2 h g)) (tl2 h g)) (λ _=>qa (at2 h g))) (λ _=>dl (λ hk=>ih.s b h g hk) (λ _=>dl (λ hk=>ih.n b h g hk) (λ _=>?_)))
   refine dl (λ hs=>dX (ih.e true (tl2 h g) (glt g hs)) ((fct f).e true _ (glt g hs)) λ e e' l1 m1' z1 h1 g1 q=>dX (jp h1 g1) (cy g1) λ _ _ l2 m2' _ h2 _ q=>eH z1 h2) (λ _=>dl (λ hs=>?_) (λ _=>dl (λ hs=>?_) (λ _=>qa (at2 h g))))
   ·have g1:=glt g hs
    have h1:=tl2 (b:=b) h g
    simp only [wd2 h1 g1]
    exact dl (λ hw=>ih.lo _ (at2 h g) (tl2 h1 g1) (glw g1 hw)) (λ _=>dX (ih.i _ h1 g1) ((fct f).i _ _ g1) λ ks ks' l1 m1' z1 h2 _ q=>eH (pK z1 (at2 h g) (by have:=q.2; have:=g1.2; omega)) h2)
   ·have g1:=glt g hs
    have h1:=tl2 (b:=b) h g
    simp only [wd2 h1 g1]
    exact dl (λ hw=>ih.lo _ (at2 h g) (tl2 h1 g1) (glw g1 hw)) (λ _=>dX (ih.t h1 g1) ((fct f).t _ g1) λ ks ks' l1 m1' z1 h2 _ q=>eH (pK z1 (at2 h g) (by have:=q.2; have:=g1.2; omega)) h2)
  ·intro b l m h g hk
   rw [mf,mf,x2 h g]
   have hb:=rp (mC (b:=b) g.1)
   have ht':=ih.tm (hd b l).fText (hR _ _ 1 (by have:=hb.1; omega) (by have:=hb.2.2.1 hk; omega) (at2 (b:=b) h g)) (by have:=hb.1; omega) (by have:=hb.2.2.1 hk; omega)
   generalize gV f (hd b l).fText ((hd b l).fAt+1)=u at ht' ⊢
   generalize gV f (hd b l).fText ((hd b m).fAt+1)=v at ht' ⊢
   match u,v,ht' with
   | none,none,_=>exact trivial
   | some (.inl e),some (.inl e'),h'=>exact h'
   | some (.inr e),some (.inr e'),h'=>exact eH (Gn h' (at2 h g)) (tl2 h g)
  ·intro b l m h g hk
   have g1:=glk g hk (by decide)
   have h1:=tl2 (b:=b) h g
   rw [jI,jI]
   simp only [x2 h g,sg2 h1 g1]
   refine dl (λ _=>eH (wl (at2 h g)) h1) (λ _=>dl (λ _=>eH (wl (at2 h g)) h1) (λ _=>dl (λ _=>eH (wl (at2 h g)) h1) (λ _=>dl (λ _=>qa (at2 h g)) (λ _=>?_))))
   exact dl (λ hs=>dX (ih.i _ (tl2 h1 g1) (glt g1 hs)) ((fct f).i _ _ (glt g1 hs)) λ ks ks' l1 m1' z1 h2 _ q=>eH (pK z1 (at2 h g) (by have:=q.2; have:=(glt g1 hs).2; omega)) h2) (λ _=>eH (pK .nil (at2 h g) (Nat.zero_le _)) h1)
  ·intro en l m h g
   rw [fU,fU]
   simp only [sg2 h g]
   refine dl (λ hs=>eH .nil (tl2 h g)) (λ _=>dX (ih.e true h g) ((fct f).e true l g) λ x x' l1 m1' zx h1 g1 q=>?_)
   simp only [sg2 h1 g1]
   exact dl (λ hs=>dX (ih.i _ (tl2 h1 g1) (glt g1 hs)) ((fct f).i _ _ (glt g1 hs)) λ ks ks' l2 m2' z2 h2 _ q=>eH (.cons zx z2) h2) (λ _=>dX (jp h1 g1) (cy g1) λ _ _ l2 m2' _ h2 _ q=>eH (f21 zx) h2)
  ·intro l m h g
   rw [lw,lw]
   simp only [sg2 h g]
   refine dl (λ hs=>eH .nil (tl2 h g)) (λ _=>dX (ih.k h g) ((fct f).k l g) λ k k' l1 m1' zk h1 g1 q=>dX (jp h1 g1) (cy g1) λ _ _ l2 m2' _ h2 g2 q=>dX (ih.e true h2 g2) ((fct f).e true _ g2) λ x x' l3 m3' zx h3 g3 q=>?_)
   simp only [sg2 h3 g3]
   exact dl (λ hs=>dX (ih.t (tl2 h3 g3) (glt g3 hs)) ((fct f).t _ (glt g3 hs)) λ ks ks' l4 m4 z4 h4 _ q=>eH (.cons zk (.cons zx z4)) h4) (λ _=>dX (jp h3 g3) (cy g3) λ _ _ l4 m4 _ h4 _ q=>eH (.cons zk (f21 zx)) h4)
  ·intro l m h g
   rw [jJ,jJ]
   simp only [sg2 h g,k2' h g,x2 h g]
   refine dl (λ hk=>eH (wl (at2 h g)) (tl2 h g)) (λ _=>dl (λ hk=>ih.s true h g hk) (λ _=>dl (λ hs=>?_) (λ _=>qa (at2 h g))))
   exact dX (ih.e true (tl2 h g) (glt g hs)) ((fct f).e true _ (glt g hs)) λ e e' l1 m1' z1 h1 g1 q=>dX (jp h1 g1) (cy g1) λ _ _ l2 m2' _ h2 _ q=>eH z1 h2
  ·intro a a' k l m ha h g
   rw [iV,iV]
   refine dX (BM h g) (ml g) λ v v' l1 m1' hv h1 g1 q=>?_
   subst hv
   simp only [sg2 h1 g1]
   refine dX (P:=Eq) (Q:=Tr) (l0:=l1) (dl (λ hs=>dX (BM (tl2 h1 g1) (glt g1 hs)) (ml (glt g1 hs)) λ w w' l2 m2' hw h2 _ q=>by subst hw; exact eH Z h2) (λ _=>eH Z h1)) (cE (λ hs=>cZ (ml (glt g1 hs)) (t1 (tlS true l1)) λ w l2 z2 s2 g2=>du trivial s2 g2) (λ _=>du trivial (sfx _) g1)) λ nk nk' l2 m2' hnk h2 g2 q=>?_
   subst hnk
   refine dX (Fb h2 g2) (w9 g2) λ _ _ l3 m3' _ h3 g3 q=>dX (ih.e true h3 g3) ((fct f).e true _ g3) λ x x' l4 m4 z4 h4 g4 q=>dX (jp h4 g4) (cy g4) λ _ _ l5 m5 _ h5 g5 q=>dX (ih.e true h5 g5) ((fct f).e true _ g5) λ c c' l6 m6 z6 h6 g6 q=>?_
   refine dX (P:=F2 (RE R)) (Q:=λ ks=>ks.length≤3) (l0:=l6) (dl (λ _=>dX (jp h6 g6) (cy g6) λ _ _ l7 m7 _ h7 g7 q=>dX (ih.e true h7 g7) ((fct f).e true _ g7) λ d d' l8 m8 z8 h8 _ q=>eH (.cons z4 (.cons z6 (f21 z8))) h8) (λ _=>eH (.cons z4 (f21 z6)) h6)) (cE (λ _=>cZ (cy g6) (tlS true l6) λ _ l7 _ s7 g7=>cZ ((fct f).e true l7 g7) (t1 s7) λ d l8 z8 s8 g8=>du G s8 g8) (λ _=>du G (sfx _) g6)) λ ks ks' l7 m7 z7 h7 g7 q7=>?_
   simp only [wd2 h7 g7]
   refine dX (P:=F2 (RE R)) (Q:=λ ks=>ks.length≤4) (l0:=l7) (dl (λ hw=>dX (ih.e true (tl2 h7 g7) (glw g7 hw)) ((fct f).e true _ (glw g7 hw)) λ e e' l8 m8 z8 h8 _ q=>eH (z7.app (f21 z8)) h8) (λ _=>eH z7 h7)) (cE (λ hw=>cZ ((fct f).e true _ (glw g7 hw)) (t1 (tlS true l7)) λ e l8 z8 s8 g8=>du (by rw [List.length_append,List.length_singleton]; omega) s8 g8) (λ _=>du (Nat.le_succ_of_le q7) (sfx _) g7)) λ ks ks' l8 m8 z8 h8 g8 q8=>?_
   exact dX (jp h8 g8) (cy g8) λ _ _ l9 m9 _ h9 _ q=>eH (pK z8 ha O) h9
  ·intro s a a' ha h0 h1
   rw [gV,gV]
   have hc:=(fct f).r a a [] [] false s (2*s.length) h0 h1 (by decide) (λ y hy=>by cases hy) G
   have hr:=ih.r (p:=[]) (q:=[]) [] false s ha ha O .nil h0 h1
   generalize fo f a a [] [] false s=u at hr hc ⊢
   generalize fo f a' a' [] [] false s=v at hr ⊢
   match u,v,hr with
   | none,none,_=>exact trivial
   | some (.inl e),some (.inl e'),h'=>exact h'
   | some (.inr z),some (.inr z'),h'=>exact EE (EQ ha (by have:=(hc _ Z).2.2; omega) h')
  ·intro frm frm' pos pos' text p q o s hf hp hd hpq h0 h1
   cases s with
   | nil=>rw [fo,fo]; exact ⟨hf,hd,rfl,hpq,rfl⟩
   | cons c r =>
    have hcl:(c::r).length=r.length+1:=rfl
    rw [fo,fo]
    refine nJ (λ hx=>nJ (λ _=>⟨Z,hf⟩) (λ hl=>ih.r _ _ _ hf (hR _ _ 3 O ?_ hp) O hpq O ?_)) (λ _=>nJ (λ hx=>?_) (λ _=>?_))
    ·have:=jM hx
     simp only [List.length_cons,List.length_nil] at this h1 ⊢; omega
    ·have:=jM hx
     rw [List.length_drop]; simp only [List.length_cons,List.length_nil] at this h1 ⊢; omega
    ·cases hc:fO f 1 ((c::r).drop 2) with
     | none=>exact trivial
     | some y =>
      cases y with
      | none=>exact ⟨Z,hp⟩
      | some r' =>
       simp only []
       have hr:=(iG f).1 _ _ _ hc
       have hr2:=hr.2
       have hr1:=hr.1.length_le
       have hx:=jM hx
       rw [List.length_drop] at hr1 hr2
       simp only [List.length_cons,List.length_nil] at hr1 hr2 h1 hx
       have hw':=ih.w (((c::r).drop 2).take (((c::r).drop 2).length - r'.length - 1)) (hR _ _ 2 O O  hp) O (by simp only [List.length_take,List.length_drop,List.length_cons]; omega)
       generalize dO f (((c::r).drop 2).take (((c::r).drop 2).length - r'.length - 1)) (pos+2)=u at hw' ⊢
       generalize dO f (((c::r).drop 2).take (((c::r).drop 2).length - r'.length - 1)) (pos'+2)=v at hw' ⊢
       match u,v,hw' with
       | none,none,_=>exact trivial
       | some (.inl e),some (.inl e'),h'=>exact h'
       | some (.inr e),some (.inr e'),h'=>exact ih.r _ _ _ (hR _ _ _ O (by simp only [List.length_cons]; omega) hp) (hR _ _ _ O (by simp only [List.length_cons]; omega) hp) O ((fl2 hf hd hpq).app (f21 h')) O (by simp only [List.length_cons]; omega)
    ·cases hi:jG (c::r) with
     | inl k=>exact ⟨Z,hp⟩
     | inr tn =>
      have:=oJ hi
      exact nJ (λ _=>⟨Z,hf⟩) (λ hl=>ih.r _ _ _ hf (hR _ _ _ O O  hp) O hpq O (by rw [List.length_drop]; omega))
  ·intro s a a' ha h0 h1
   rw [dO,dO]
   refine nJ (λ h=>⟨Z,by have:=yb s; exact hR _ _ _ O O  ha⟩) (λ hk=>?_)
   have hk:(dQ s).2.fKind=0:=Classical.not_not.1 hk
   have hg:=oN h0 h1 hk
   have hx':=(fct f).e true _ hg
   have hx:=ih.e true (l:=(dQ s).1.map (mvT a)) (m:=(dQ s).1.map (mvT a')) (F2.map _ _ _ (λ t ht=>⟨Z,Z,by have hb:=Aw hg.1 (mvT a t) (List.mem_map_of_mem ht); have hb1:0≤t.fAt+a:=hb.1; have hb2:t.fAt+a+(t.fText.length:Int)≤1000000000:=hb.2.1; have:=hR a a' t.fAt O O  ha; rwa [Int.add_comm a,Int.add_comm a'] at this⟩)) hg
   generalize eC f true ((dQ s).1.map (mvT a))=u at hx hx' ⊢
   generalize eC f true ((dQ s).1.map (mvT a'))=v at hx ⊢
   match u,v,hx with
   | none,none,_=>exact trivial
   | some (.inl e),some (.inl e'),h'=>exact h'
   | some (.inr (e,l)),some (.inr (e',m)),h' =>
    have gl:=(hx' _ Z).2.2
    simp only [k2' h'.2 gl]
    exact nJ (λ _=>h'.1) (λ _=>⟨Z,at2 h'.2 gl⟩)
end
end Go.Ab.R06
end
section
namespace Go.Ab.R06
open Go.Ab Go.Ab.RB Go.Lib
section
variable {L:List ad}
def rz (L:List ad)(i:Nat)(nest:Int)(b:Bool)(l:List ad):Prop :=
 i < L.length∧0≤nest∧nest+((L.length - i:Nat):Int)≤1000000000∧b=decide (0 < nest)∧nf b (L.drop i)=nf b l
def RAt (L:List ad)(i:Nat)(nest:Int)(b:Bool)(l:List ad):Prop:=rz L i nest b l∧L.drop i=nf b l
theorem vr:∀ {L:List ad} {i:Nat},Gd L→i < L.length→Gd (L.drop i)
 | [],_,h,_=>h.elim
 | t::r,0,h,_=>h
 | t::r,i+1,h,hi=>by
  rcases h.2 with h2 | h2
  ·have:=h2.2
   subst this; simp at hi
  ·exact vr (L:=r) (i:=i) h2.2 (by simpa using hi)
theorem rz.gd {i:Nat}{nest:Int}{b:Bool}{l:List ad}(hL:Gd L)(h:rz L i nest b l):Gd (nf b l):=by
 rw [← h.2.2.2.2]; exact mC (vr hL h.1)
theorem rz.ext {i j:Nat}{nest:Int}{b:Bool}{l:List ad}(h:rz L i nest b l)(h1:i≤j)(h2:j < L.length)(h3:L.drop j=nf b (L.drop i)):RAt L j nest b l:=by
 obtain ⟨q1,q2,q3,q4,q5⟩:=h
 refine ⟨⟨h2,q2,by omega,q4,?_⟩,?_⟩
 ·rw [h3,A3,q5]
 ·rw [h3,q5]
theorem RAt.next {j:Nat}{nest:Int}{b:Bool}{l:List ad}(hL:Gd L)(h:RAt L j nest b l)(h6:(hd b l).fKind≠6) :
  rz L (j+1) nest b (tl b l)∧L.drop (j+1)=tl b l:=by
 have hg:Gd (nf b l):=h.1.gd hL
 have e:L.drop (j+1)=tl b l:=by
  have:=h.2
  rw [og h.1.1,n0 hg] at this
  exact (List.cons.inj this).2
 have hne:=sw (x9 hg h6)
 have:j+1 < L.length:=by
  rw [← e] at hne
  rcases Nat.lt_or_ge (j+1) L.length with q | q
  ·exact q
  ·rw [List.drop_eq_nil_of_le q] at hne; exact absurd rfl hne
 obtain ⟨⟨q1,q2,q3,q4,q5⟩,_⟩:=h
 exact ⟨⟨this,q2,by omega,q4,by rw [e]⟩,e⟩
theorem RAt.inn {j:Nat}{nest:Int}{b:Bool}{l:List ad}(hL:Gd L)(h:RAt L j nest b l)(h6:(hd b l).fKind≠6):rz L (j+1) (nest+1) true (tl b l):=by
 obtain ⟨⟨q1,q2,q3,q4,q5⟩,e⟩:=h.next hL h6
 have:=h.1.2.2.1
 have:=h.1.1
 refine ⟨q1,by omega,by omega,?_,by rw [e]⟩
 symm; rw [decide_eq_true_eq]; omega
theorem rz.out {j:Nat}{nest:Int}{b:Bool}{l l':List ad}(h:rz L j (nest+1) true l)(h0:0≤nest)(hb:b=decide (0 < nest))(he:L.drop j=l'):rz L j nest b l':=by
 obtain ⟨q1,q2,q3,q4,q5⟩:=h
 exact ⟨q1,h0,by omega,hb,by rw [he]⟩
def RFl (L:List ad)(nest:Int)(N:Nat)(e:PE)(z:cB):Prop:=e.1≠0∧∃ I:Int,z=.mk L I nest (eD e)∧0≤I∧I≤1000000000+(N:Int)
end
end Go.Ab.R06
end
section
namespace Go.Ab.R06
open Go.Ab Go.Ab.RB Go.Lib
def ER {α:Type}(L:List ad)(nest:Int)(b:Bool)(N:Nat)(q:PE⊕(α×List ad))(z:α×cB):Prop:=match q with
 | .inl e=>RFl L nest N e z.2
 | .inr (x,l)=>z.1=x∧∃ j:Nat,z.2=.mk L (j:Int) nest dOk∧rz L j nest b l
theorem ER.up {α:Type}{L:List ad}{nest:Int}{b:Bool}{N M:Nat}{q:PE⊕(α×List ad)}{z:α×cB}(h:ER L nest b N q z)(hNM:N≤M):ER L nest b M q z:=by
 rcases q with e | ⟨x,l⟩
 ·obtain ⟨he,I,h1,h2,h3⟩:=h
  exact ⟨he,I,h1,h2,by omega⟩
 ·exact h
def wC (a:Int)(i:Nat)(parts:List ac)(opn:Bool):Prop:=opn=false→(i=0∧parts=[])∨∃ t,parts=[yL t a]
def Tot {α:Type}(F:Nat→Option α):Prop:=Ev2 (λ n _=>F n) (λ _=>True)
theorem d5 {α β:Type}{x:Nat→PR α}{k:Nat→α→List ad→PR β}{P:α→Prop}{l0:List ad}(h:Tot x)(hx:∀ n,fE P l0 (x n))(hk:∀ a l',P a→l' <:+ l0→Gl l'→Tot (λ n=>k n a l')):Tot (λ n=>pb (x n) (k n)):=by
 obtain ⟨r,_,N,hN⟩:=h
 have hr:=hx N r (hN N N (Nat.le_refl _) (Nat.le_refl _))
 rcases r with e | ⟨a,l'⟩
 ·exact ⟨.inl e,trivial,N,λ n m hn hm=>by show pb (x n) (k n)=_; rw [show x n=_ from hN n m hn hm]; rfl⟩
 ·obtain ⟨r2,_,N2,hN2⟩:=hk a l' hr.1 hr.2.1 hr.2.2
  refine ⟨r2,trivial,max N N2,λ n m hn hm=>?_⟩
  show pb (x n) (k n)=_
  rw [show x n=_ from hN n m O O]
  exact hN2 n m O O
theorem fp {α:Type}{r:α}:Tot (λ _=>some r):=ab trivial
theorem BP {α:Type}{x:Option α}(h:∃ r,x=some r):Tot (λ _=>x):=by
 obtain ⟨r,rfl⟩:=h
 exact fp
theorem kM {b:Bool}{s:Bytes}{l:List ad}:Tot (λ _=>fG b s l):=BP (by unfold fG; split <;> exact ⟨_,Z⟩)
theorem F0 {b:Bool}{s:Bytes}{l:List ad}:Tot (λ _=>uq b s l):=BP (by unfold uq; split <;> exact ⟨_,Z⟩)
theorem Ea {b:Bool}{l:List ad}:Tot (λ _=>rY b l):=BP (by unfold rY; split <;> exact ⟨_,Z⟩)
theorem dv {α:Type}{p:Prop} [Decidable p] {f g:Nat→Option α}(h1:p→Tot f)(h2:¬p→Tot g):Tot (λ n=>if p then f n else g n):=aK h1 h2
theorem fA {α:Type}{f:Nat→Option α}(h:Tot (λ n=>f (n+1))):Tot f:=cq h
theorem vp {α:Type}{x:Nat→Option α}(h:Tot x):∃ r N,∀ n,N≤n→x n=some r:=by
 obtain ⟨r,_,N,hN⟩:=h
 exact ⟨r,N,λ n hn=>hN n n hn hn⟩
theorem tN {α:Type}{x:Nat→Option α}(r:α)(N:Nat)(h:∀ n,N≤n→x n=some r):Tot x:=⟨r,trivial,N,λ n _ hn _=>h n hn⟩
def D3 (M:Nat)(l:List ad):Prop:=∀ t∈l,t.fKind=3→t.fText.length < M
theorem alS {M:Nat}{l l':List ad}(h:D3 M l)(hs:l' <:+ l):D3 M l':=λ t ht=>h t (hs.subset ht)
theorem Fu {b:Bool}{l:List ad}(g:Gl l):hd b l∈l:=by
 have h1:=n0 (mC (b:=b) g.1)
 have h2:nf b l <:+ l:=by
  unfold nf
  cases b
  ·exact List.suffix_refl _
  ·exact List.dropWhile_suffix _
 exact h2.subset (by rw [h1]; exact List.mem_cons_self)
structure TA (l:List ad):Prop where
 e:∀ b,Tot (λ n=>eC n b l)
 b:∀ lev b,Tot (λ n=>kK n lev b l)
 bl:∀ lev b x,Sz x→Tot (λ n=>lx n lev b x l)
 u:∀ b,Tot (λ n=>unS n b l)
 pl:∀ b x,Sz x→Tot (λ n=>iw n b x l)
 i:∀ en,Tot (λ n=>fU n en l)
 t:Tot (λ n=>lw n l)
 lo:∀ a k,Tot (λ n=>iV n a k l)
theorem FF {K:Nat}(hK:∀ (s:Bytes) (a:Int),s.length < K→0≤a→a+(s.length:Int)≤1000000000→Tot (λ n=>gV n s a)):∀ (N:Nat) (l:List ad),l.length≤N→Gl l→D3 K l→TA l:=by
 intro N
 induction N with
 | zero =>
  intro l hl g _
  have:=sw g.1
  exact absurd (List.length_eq_zero_iff.1 O) this
 | succ N ih =>
  intro l hl g hA
  have step:∀ {l':List ad} {b:Bool},l' <:+ tl b l→Gl l'→TA l':=λ {l' b} hs gl=>ih l' (by have:=hs.length_le; have:=gll (b:=b) g; omega) gl (alS hA (hs.trans (tlS b l)))
  have stepT:∀ {b:Bool},Gl (tl b l)→TA (tl b l):=λ {b} gl=>step (sfx _) gl
  have hs:∀ b,(hd b l).fKind=3→Tot (λ n=>mf n b l):=by
   intro b k3
   refine fA ?_
   simp only [mf]
   have tk:=rp (mC (b:=b) g.1)
   have h1:=tk.1
   have h2:=tk.2.2.1 k3
   obtain ⟨r,M,hM⟩:=vp (hK (hd b l).fText ((hd b l).fAt+1) (hA _ (Fu g) k3) O O)
   rcases r with e | e
   ·exact tN (.inl e) M λ n hn=>by simp only [hM n hn]
   ·exact tN (.inr (ac.mk e.fKind e.fOp e.fName e.fKey e.fValue e.fKids (hd b l).fAt,tl b l)) M λ n hn=>by simp only [hM n hn]; rfl
  have hn:∀ b,(hd b l).fKind=1→Tot (λ n=>jI n b l):=by
   intro b k1
   have g1:=glk g k1 (by decide)
   refine fA ?_
   simp only [jI]
   refine dv (λ _=>fp) (λ _=>dv (λ _=>fp) (λ _=>dv (λ _=>fp) (λ _=>dv (λ _=>fp) (λ _=>dv (λ hs=>?_) (λ _=>fp)))))
   have g2:=glt g1 hs
   exact d5 ((step (b:=b) (tlS b _) g2).i _) (λ n=>(fct n).i _ _ g2) (λ _ _ _ _ _=>fp)
  have hp:∀ b,Tot (λ n=>jA n b l):=by
   intro b
   refine fA ?_
   simp only [jA]
   refine dv (λ _=>dv (λ _=>fp) (λ _=>fp)) (λ _=>dv (λ k3=>hs b k3) (λ _=>dv (λ k1=>hn b k1) (λ _=>?_)))
   refine dv (λ hs=>?_) (λ _=>?_)
   ·have g1:=glt g hs
    exact d5 ((stepT g1).e true) (λ n=>(fct n).e true _ g1) (λ _ l2 _ _ g2=>d5 kM (λ _=>cy g2) (λ _ _ _ _ _=>fp))
   refine dv (λ hs=>dv (λ hw=>?_) (λ _=>?_)) (λ _=>dv (λ hs=>dv (λ hw=>?_) (λ _=>?_)) (λ _=>fp))
   ·exact (step (b:=b) (tlS true _) (glw (glt g hs) hw)).lo _ _
   ·exact d5 ((stepT (glt g hs)).i _) (λ n=>(fct n).i _ _ (glt g hs)) (λ _ _ _ _ _=>fp)
   ·exact (step (b:=b) (tlS true _) (glw (glt g hs) hw)).lo _ _
   ·exact d5 (stepT (glt g hs)).t (λ n=>(fct n).t _ (glt g hs)) (λ _ _ _ _ _=>fp)
  have hpl:∀ b x,Sz x→Tot (λ n=>iw n b x l):=by
   intro b x zx
   refine fA ?_
   simp only [iw]
   refine dv (λ hs=>dv (λ hk=>?_) (λ _=>fp)) (λ _=>dv (λ hs=>?_) (λ _=>fp))
   ·exact (step (b:=b) (tlS b _) (glk (glt g hs) hk (by decide))).pl b _ (nE (gln (glt g hs)) (by decide) G (m1 zx))
   ·have g1:=glt g hs
    exact d5 ((stepT g1).e true) (λ n=>(fct n).e true _ g1) (λ y l2 zy s2 g2=>d5 kM (λ _=>cy g2) (λ _ l3 _ s3 g3=>(step (b:=b) (s3.trans ((tlS true l2).trans (s2.trans (tlS true _)))) g3).pl b _ (nE (by decide) (by decide) G (m2 zx zy))))
  have hu:∀ b,Tot (λ n=>unS n b l):=by
   intro b
   refine fA ?_
   simp only [unS]
   refine dv (λ hs=>?_) (λ _=>dv (λ hs=>?_) (λ _=>?_))
   ·exact d5 ((stepT (glt g hs)).u b) (λ n=>(fct n).u b _ (glt g hs)) (λ _ _ _ _ _=>fp)
   ·exact d5 ((stepT (glt g hs)).u b) (λ n=>(fct n).u b _ (glt g hs)) (λ _ _ _ _ _=>fp)
   ·exact d5 (hp b) (λ n=>(fct n).p b l g) (λ x l1 zx s1 g1=>(step s1 g1).pl b x zx)
  have hbl:∀ lev b x,Sz x→Tot (λ n=>lx n lev b x l):=by
   intro lev b x zx
   refine fA ?_
   simp only [lx]
   cases ha:qW b l lev with
   | none=>exact fp
   | some p =>
    have hs:sgB b l p.1=true:=List.find?_some (p:=λ p:Bytes×Int=>sgB b l p.1) ha
    exact d5 ((stepT (glt g hs)).b _ b) (λ n=>(fct n).b _ b _ (glt g hs)) (λ y l1 zy s1 g1=>(step (b:=b) (s1.trans (tlS b _)) g1).bl lev b _ (nE (by decide) (by decide) G (m2 zx zy)))
  have hb:∀ (k lev:Nat) b,6≤lev+k→Tot (λ n=>kK n lev b l):=by
   intro k
   induction k with
   | zero =>
    intro lev b hk
    refine fA ?_
    simp only [kK]
    exact dv (λ _=>hu b) (λ h=>absurd O h)
   | succ k ihk =>
    intro lev b hk
    refine fA ?_
    simp only [kK]
    exact dv (λ _=>hu b) (λ _=>d5 (ihk (lev+1) b O) (λ n=>(fct n).b _ b l g) (λ x l1 zx s1 g1=>(step s1 g1).bl lev b x zx))
  have he:∀ b,Tot (λ n=>eC n b l):=by
   intro b
   refine fA ?_
   simp only [eC]
   refine d5 (hb 6 0 b (by decide)) (λ n=>(fct n).b 0 b l g) (λ c l1 zc s1 g1=>dv (λ hs=>?_) (λ _=>fp))
   have g2:=glt g1 hs
   exact d5 ((step (b:=b) ((tlS b l1).trans s1) g2).e b) (λ n=>(fct n).e b _ g2) (λ a l3 _ s3 g3=>d5 kM (λ _=>cy g3) (λ _ l4 _ s4 g4=>d5 ((step (b:=b) (s4.trans ((tlS b l3).trans (s3.trans ((tlS b _).trans ((tlS b l1).trans s1))))) g4).e b) (λ n=>(fct n).e b _ g4) (λ _ _ _ _ _=>fp)))
  have hk:Tot (λ n=>jJ n l):=by
   refine fA ?_
   simp only [jJ]
   refine dv (λ _=>fp) (λ _=>dv (λ k3=>hs true k3) (λ _=>dv (λ hs=>?_) (λ _=>fp)))
   have g1:=glt g hs
   exact d5 ((stepT g1).e true) (λ n=>(fct n).e true _ g1) (λ _ l2 _ _ g2=>d5 kM (λ _=>cy g2) (λ _ _ _ _ _=>fp))
  have hi:∀ en,Tot (λ n=>fU n en l):=by
   intro en
   refine fA ?_
   simp only [fU]
   refine dv (λ _=>fp) (λ _=>d5 (he true) (λ n=>(fct n).e true l g) (λ x l1 _ s1 g1=>dv (λ hs=>?_) (λ _=>d5 kM (λ _=>cy g1) (λ _ _ _ _ _=>fp))))
   have g2:=glt g1 hs
   exact d5 ((step (b:=true) ((tlS true l1).trans s1) g2).i en) (λ n=>(fct n).i _ _ g2) (λ _ _ _ _ _=>fp)
  have ht:Tot (λ n=>lw n l):=by
   refine fA ?_
   simp only [lw]
   refine dv (λ _=>fp) (λ _=>d5 hk (λ n=>(fct n).k l g) (λ x l1 _ s1 g1=>d5 kM (λ _=>cy g1) (λ _ l2 _ s2 g2=>?_)))
   have s2':=s2.trans ((tlS true l1).trans s1)
   refine d5 ((step (b:=true) s2' g2).e true) (λ n=>(fct n).e true _ g2) (λ y l3 _ s3 g3=>dv (λ hs=>?_) (λ _=>d5 kM (λ _=>cy g3) (λ _ _ _ _ _=>fp)))
   have g4:=glt g3 hs
   exact d5 (step (b:=true) ((tlS true l3).trans (s3.trans ((tlS true l2).trans s2'))) g4).t (λ n=>(fct n).t _ g4) (λ _ _ _ _ _=>fp)
  have hlo:∀ a k,Tot (λ n=>iV n a k l):=by
   intro a k
   refine fA ?_
   simp only [iV]
   refine d5 Ea (λ _=>ml g) (λ v l1 _ s1 g1=>?_)
   refine d5 (P:=Tr) (l0:=l1) (dv (λ hs=>d5 Ea (λ _=>ml (glt g1 hs)) (λ _ _ _ _ _=>fp)) (λ _=>fp)) (λ _=>cE (λ hs=>cZ (ml (glt g1 hs)) (t1 (tlS true l1)) λ w l2 _ s2 g2=>du trivial s2 g2) (λ _=>du trivial (sfx _) g1)) (λ nk l2 _ s2 g2=>?_)
   have q2:=s2.trans s1
   refine d5 F0 (λ _=>w9 g2) (λ _ l3 _ s3 g3=>?_)
   have q3:=s3.trans ((tlS true l2).trans q2)
   refine d5 ((step (b:=true) q3 g3).e true) (λ n=>(fct n).e true _ g3) (λ x l4 _ s4 g4=>?_)
   have q4:=s4.trans ((tlS true l3).trans q3)
   refine d5 kM (λ _=>cy g4) (λ _ l5 _ s5 g5=>?_)
   have q5:=s5.trans ((tlS true l4).trans q4)
   refine d5 ((step (b:=true) q5 g5).e true) (λ n=>(fct n).e true _ g5) (λ c l6 _ s6 g6=>?_)
   have q6:=s6.trans ((tlS true l5).trans q5)
   refine d5 (P:=Tr) (l0:=l6) (dv (λ _=>d5 kM (λ _=>cy g6) (λ _ l7 _ s7 g7=>d5 ((step (b:=true) (s7.trans ((tlS true l6).trans q6)) g7).e true) (λ n=>(fct n).e true _ g7) (λ _ _ _ _ _=>fp))) (λ _=>fp)) (λ n=>cE (λ _=>cZ (cy g6) (tlS true l6) λ _ l7 _ s7 g7=>cZ ((fct n).e true l7 g7) (t1 s7) λ d l8 _ s8 g8=>du trivial s8 g8) (λ _=>du trivial (sfx _) g6)) (λ ks l7 _ s7 g7=>?_)
   have q7:=s7.trans q6
   refine d5 (P:=Tr) (l0:=l7) (dv (λ hw=>d5 ((step (b:=true) ((tlS true l7).trans q7) (glw g7 hw)).e true) (λ n=>(fct n).e true _ (glw g7 hw)) (λ _ _ _ _ _=>fp)) (λ _=>fp)) (λ n=>cE (λ hw=>cZ ((fct n).e true _ (glw g7 hw)) (t1 (tlS true l7)) λ e l8 _ s8 g8=>du trivial s8 g8) (λ _=>du trivial (sfx _) g7)) (λ ks l8 _ s8 g8=>?_)
   exact d5 kM (λ _=>cy g8) (λ _ _ _ _ _=>fp)
  exact ⟨he,λ lev b=>hb 6 lev b O,hbl,hu,hpl,hi,ht,hlo⟩
theorem sJ:∀ (k:Nat) (l:Bytes),l.length < k→(∀ d,Tot (λ n=>fO n d l))∧Tot (λ n=>iu n l)
 | 0,_,h=>absurd h (Nat.not_lt_zero _)
 | k+1,[],_=>⟨λ d=>fA (by simp only [fO]; exact fp),fA (by simp only [iu]; exact fp)⟩
 | k+1,b::r,h=>by
  have hl:(b::r).length=r.length+1:=rfl
  have ih:=λ (l:Bytes) (hl':l.length≤r.length)=>sJ k l O
  constructor
  ·intro d
   refine fA ?_
   simp only [fO]
   refine dv (λ _=>(ih r (Nat.le_refl _)).1 _) (λ _=>dv (λ _=>dv (λ _=>fp) (λ _=>(ih r (Nat.le_refl _)).1 _)) (λ _=>dv (λ _=>?_) (λ _=>(ih r (Nat.le_refl _)).1 _)))
   obtain ⟨q,_,N,hN⟩:=(ih r (Nat.le_refl _)).2
   have hq:=hN N N (Nat.le_refl _) (Nat.le_refl _)
   cases q with
   | none=>exact ⟨none,trivial,N,λ n m hn hm=>by simp only [show iu n r=_ from hN n m hn hm]⟩
   | some r' =>
    have hsf:=(iG N).2 _ _ hq
    obtain ⟨q2,_,N2,hN2⟩:=(ih r' O).1 d
    refine ⟨q2,trivial,max N N2,λ n m hn hm=>?_⟩
    simp only [show iu n r=_ from hN n m O O]
    exact hN2 n m O O
  ·refine fA ?_
   simp only [iu]
   refine dv (λ _=>fp) (λ _=>dv (λ _=>(ih _ (by rw [List.length_drop]; omega)).2) (λ _=>dv (λ _=>(ih _ (by rw [List.length_drop]; omega)).2) (λ _=>dv (λ _=>?_) (λ _=>(ih r (Nat.le_refl _)).2))))
   obtain ⟨q,_,N,hN⟩:=(ih ((b::r).drop 2) (by rw [List.length_drop]; omega)).1 1
   have hq:=hN N N (Nat.le_refl _) (Nat.le_refl _)
   cases q with
   | none=>exact ⟨none,trivial,N,λ n m hn hm=>by simp only [show fO n 1 ((b::r).drop 2)=_ from hN n m hn hm]⟩
   | some r' =>
    have hsf:=(iG N).1 _ _ _ hq
    have h2:=hsf.2
    rw [List.length_drop] at h2
    obtain ⟨q2,_,N2,hN2⟩:=(ih r' O).2
    refine ⟨q2,trivial,max N N2,λ n m hn hm=>?_⟩
    simp only [show fO n 1 ((b::r).drop 2)=_ from hN n m O O]
    exact hN2 n m O O
theorem xU {M:Nat}(hW:∀ (s:Bytes) (a:Int),s.length < M→0≤a→a+(s.length:Int)≤1000000000→Tot (λ n=>dO n s a)):∀ (k:Nat) (s:Bytes) (frm pos:Int) (text:Bytes) (parts:List ac) (opn:Bool),s.length < k→s.length≤M→0≤pos→pos+(s.length:Int)≤1000000000→Tot (λ n=>fo n frm pos text parts opn s)
 | 0,_,_,_,_,_,_,h,_,_,_=>absurd h (Nat.not_lt_zero _)
 | k+1,[],_,_,_,_,_,_,_,_,_=>fA (by simp only [fo]; exact fp)
 | k+1,c::r,frm,pos,text,parts,opn,h,hM,h0,h1=>by
  have hl:(c::r).length=r.length+1:=rfl
  refine fA ?_
  simp only [fo]
  refine dv (λ hx=>dv (λ _=>fp) (λ _=>?_)) (λ _=>dv (λ hx=>?_) (λ _=>?_))
  ·have:=jM hx
   simp only [List.length_cons,List.length_nil] at this
   exact xU hW k _ _ _ _ _ _ (by rw [List.length_drop]; omega) (by rw [List.length_drop]; omega) O (by rw [List.length_drop]; omega)
  ·have hpl:=jM hx
   simp only [List.length_cons,List.length_nil] at hpl
   obtain ⟨q,_,N,hN⟩:=(sJ ((c::r).length+1) ((c::r).drop 2) (by rw [List.length_drop]; omega)).1 1
   have hq:=hN N N (Nat.le_refl _) (Nat.le_refl _)
   cases q with
   | none=>exact ⟨.inl (40,pos),trivial,N,λ n m hn hm=>by simp only [show fO n 1 ((c::r).drop 2)=_ from hN n m hn hm]⟩
   | some r' =>
    have hsf:=(iG N).1 _ _ _ hq
    have h2:=hsf.2
    rw [List.length_drop] at h2
    have hw:=hW (((c::r).drop 2).take (((c::r).drop 2).length - r'.length - 1)) (pos+2) (by rw [List.length_take,List.length_drop]; omega) O (by rw [List.length_take,List.length_drop]; omega)
    obtain ⟨z,N1,hN1⟩:=vp hw
    rcases z with e | e
    ·exact tN (.inl e) (max N N1) λ n hn=>by simp only [show fO n 1 ((c::r).drop 2)=_ from hN n n O O,hN1 n O]
    ·obtain ⟨q2,N2,hN2⟩:=vp (xU hW k r' (pos+(((c::r).length - r'.length:Nat):Int)) (pos+(((c::r).length - r'.length:Nat):Int)) [] (flS frm pos text parts++[e]) true O O O O)
     refine tN q2 (max N (max N1 N2)) λ n hn=>?_
     simp only [show fO n 1 ((c::r).drop 2)=_ from hN n n O O,hN1 n O]
     exact hN2 n O
  ·cases hi:jG (c::r) with
   | inl k=>exact fp
   | inr tn =>
    obtain ⟨t,n'⟩:=tn
    have:=oJ hi
    exact dv (λ _=>fp) (λ _=>xU hW k _ _ _ _ _ _ (by rw [List.length_drop]; omega) (by rw [List.length_drop]; omega) O (by rw [List.length_drop]; omega))
theorem Ee {K:Nat}(hK:∀ (s:Bytes) (a:Int),s.length < K→0≤a→a+(s.length:Int)≤1000000000→Tot (λ n=>gV n s a))(s:Bytes)(a:Int)(hs:s.length < K+2)(h0:0≤a)(h1:a+(s.length:Int)≤1000000000):Tot (λ n=>dO n s a):=by
 refine fA ?_
 simp only [dO]
 refine dv (λ _=>fp) (λ hk=>?_)
 have hk:(dQ s).2.fKind=0:=Classical.not_not.1 hk
 have hg:=oN h0 h1 hk
 have hA:D3 K ((dQ s).1.map (mvT a)):=by
  intro t ht h3
  obtain ⟨y,hy,rfl⟩:=List.mem_map.1 ht
  have:=(nT h0 h1 hk).2.1 y hy h3
  show y.fText.length < K
  omega
 obtain ⟨z,N,hN⟩:=vp ((FF hK _ _ (Nat.le_refl _) hg hA).e true)
 rcases z with e | ⟨x,l⟩
 ·exact tN (.inl e) N λ n hn=>by simp only [hN n hn]
 ·by_cases h6:(hd true l).fKind=6
  ·exact tN (.inr x) N λ n hn=>by simp only [hN n hn,if_pos h6]
  ·exact tN (.inl (2,(hd true l).fAt)) N λ n hn=>by simp only [hN n hn,if_neg h6]
theorem Ac:∀ (K:Nat) (s:Bytes) (a:Int),s.length < K→0≤a→a+(s.length:Int)≤1000000000→Tot (λ n=>gV n s a)
 | 0,_,_,h,_,_=>absurd h (Nat.not_lt_zero _)
 | K+1,s,a,h,h0,h1=>by
  refine fA ?_
  simp only [gV]
  have hr:=xU (M:=s.length) (λ s' a' hs' h0' h1'=>Ee (K:=K) (λ s'' a''=>Ac K s'' a'') s' a' O h0' h1') (s.length+1) s a a [] [] false O (Nat.le_refl _) h0 h1
  obtain ⟨z,N,hN⟩:=vp hr
  rcases z with e | z
  ·exact tN (.inl e) N λ n hn=>by simp only [hN n hn]
  ·exact tN (kW (.inr (ny a z))) N λ n hn=>by simp only [hN n hn]
theorem zv (s:Bytes)(a:Int)(h0:0≤a)(h1:a+(s.length:Int)≤1000000000):∃ n q,dO n s a=some q:=by
 obtain ⟨q,_,N,hN⟩:=Ee (K:=s.length) (λ s' a'=>Ac s.length s' a') s a O h0 h1
 exact ⟨N,q,hN N N (Nat.le_refl _) (Nat.le_refl _)⟩
end Go.Ab.R06
end
section
namespace Go.Ab.R06
open Go.Proofs Go.Ab Go.Ab.RB
set_option maxRecDepth 4000
attribute [local irreducible] awp fT bn bF cv AV.sub M cT
def dV (r_law14_alike:ac→ac→Option Bool)(a_0:ac)(b_1:ac):Nat→Int→Option (Unit⊕Bool)
 | 0,_=>none
 | m+1,i18 =>
 if i18 < (a_0.fKids.length:Int) then
  ck ((0:Int)≤i18∧i18 < (a_0.fKids.length:Int)) <|
  ck ((0:Int)≤i18∧i18 < (b_1.fKids.length:Int)) <|
  (r_law14_alike (lat a_0.fKids i18) (lat b_1.fKids i18)).bind λ r22 =>
  if (!r22)=true then
   some (.inr false)
  else
   ck (inR (i18+1)) <|
   dV r_law14_alike a_0 b_1 m (i18+1)
 else
  some (.inl ())
def eV:Nat→ac→ac→Option Bool
 | 0,_,_=>none
 | n+1,a_0,b_1 =>
 (
   if a_0.fKind=b_1.fKind then
    if a_0.fOp=b_1.fOp then
     if a_0.fName=b_1.fName then
      if a_0.fKey=b_1.fKey then
       (fc n a_0.fValue b_1.fValue).bind λ r5 =>
       if (!r5)=true then
        some true
       else
        some (!decide ((a_0.fKids.length:Int)=(b_1.fKids.length:Int)))
      else
       some true
     else
      some true
    else
     some true
   else
    some true
  : Option Bool).bind λ t8 =>
 if t8=true then
  some false
 else
  jn (dV (eV n) a_0 b_1 n 0) λ q28 =>
  some true
instance Bg (n:Nat):∀ (a_0:ac) (b_1:ac) (r:Bool),HP (eV n a_0 b_1=some r) Tryz.prog 23 [.agg (ac.cs a_0),.agg (ac.cs b_1)] (.p (eB r)):=by
 induction n with
 | zero=>intros; exact ⟨λ h=>by cases h⟩
 | succ n ih =>
 have ih_law14_alike_ok:=ih
 refine λ a_0 b_1=>hP good Tryz.func23 Z Z λ r h0 _ w0=>?_
 rw [eV] at h0
 refine nx 8 Z (bd h0 λ o29 h1 h0=>?_)
 refine kN o29 (λ v30=>⟨[(2,.ptr 2 0),(3,.ptr 3 0),(48,.p (eB v30))],[(2,(ac.cs a_0).map .p),(3,(ac.cs b_1).map .p)]⟩) ?_ ?_
 ·refine nx 1 Z (fB [48] h0 Z (λ c9 h0=>?_) λ c9 h0=>?_)
  ·exact nx 6 Z (mQ (oi h0) Z (sr))
  refine nx 8 Z ?_
  obtain ⟨o31,h1,hL0,hR0⟩:=dj h0
  refine kEx 0 (λ v32:Unit=>o31=.inl v32) (λ v32=>⟨[],[]⟩) (λ v32 hv=>?_) ?_
  ·have h0:=hL0 _ hv
   exact nx 6 Z (mQ (oi h0) Z (sr))
  refine lG (λ (q33:Int)=>⟨[(2,.ptr 2 0),(3,.ptr 3 0),(5,.p (eI q33))],[(2,(ac.cs a_0).map .p),(3,(ac.cs b_1).map .p)]⟩) (λ m (q33:Int)=>dV (eV n) a_0 b_1 m q33) Y 0 h1 (gE Z Z) ?_
  rintro m i18 h1
  replace h1:dV (eV n) a_0 b_1 (m+1) i18=some o31:=h1
  rw [dV] at h1
  refine nx 6 Z (oLl (f:=aj) Z Z ?_)
  refine nx 2 Z (fD [53] h1 Z (λ c19 h1=>?_) λ c19 h1=>?_)
  ·refine nx 5 Z (cc' h1 λ hk20 h1=>?_)
   refine cc' h1 λ hk21 h1=>bd h1 λ r22 e23 h1=>mD [(2,.ptr 2 0),(3,.ptr 3 0),(5,.p (eI i18))] Z ⟨Z,Z,Z,trivial⟩ Z (dR 3 Z ?_)
   refine dq (.rptr (ac.cs (lat a_0.fKids i18))) [57,58] Z (λ _ e _ q=>ap Z (mg (f:=aj) (l:=a_0.fKids) ac.cs Z Z Z Z Z Z (e _ _ Z) Z (e _ _ Z) hk20 ac.cells_eq Y q)) Z (dR 4 Z ?_)
   refine dq (.rptr (ac.cs (lat b_1.fKids i18))) [62,63] Z (λ _ e _ q=>ap Z (mg (f:=aj) (l:=b_1.fKids) ac.cs Z Z Z Z Z Z (e _ _ Z) Z (e _ _ Z) hk21 ac.cells_eq Y q)) Z (dR 1 Z ?_)
   refine dq (.p (eB r22)) [60,65] Z (λ _ e _ q=>ap Z (ed (HP.c e23) Z Z Z (aN (e _ _ Z) (aN (e _ _ Z) cx)) ⟨sr,sr,trivial⟩ Tryz.call23 Z q)) Z (dR 1 Z ?_)
   refine dE Z (nx 1 Z ?_)
   refine fB [67] h1 Z (λ c24 h1=>?_) λ c24 h1=>?_
   ·exact nx 6 Z (mQ (hR0 _ (oi h1).symm) Z (sr))
   refine nx 4 Z (oA h1 Z Z λ hk25 h1=>?_)
   exact nx 2 Z (eX (i18+1) h1 (gE Z Z))
  exact nx 2 Z (eXi _ (oi h1).symm (gE Z Z))
 refine nx 7 Z (fN [10,11] h1 Z (λ c1 h1=>?_) λ c1 h1=>?_)
 ·refine nx 7 Z (fN [16,17,18] h1 Z (λ c2 h1=>?_) λ c2 h1=>?_)
  ·refine nx 4 Z (oS Z Z ?_)
   refine nx 2 Z (fN [23,24,25] h1 Z (λ c3 h1=>?_) λ c3 h1=>?_)
   ·refine nx 4 Z (oS Z Z ?_)
    refine nx 2 Z (fN [30,31,32] h1 Z (λ c4 h1=>?_) λ c4 h1=>?_)
    ·refine nx 4 Z (bd h1 λ r5 e6 h1=>?_)
     refine oK (HP.c e6) Z ⟨sr,sr,trivial⟩ Tryz.call50 Z (nx 3 Z ?_)
     refine fB [38,39,40] h1 Z (λ c7 h1=>?_) λ c7 h1=>?_
     ·exact nx 9 Z (eX _ (oi h1).symm (gE Z Z))
     refine nx 2 Z (oLl (f:=aj) Z Z ?_)
     refine nx 2 Z (oLl (f:=aj) Z Z ?_)
     exact nx 3 Z (eX _ (oi h1).symm (gE Z Z))
    exact nx 17 Z (eX _ (oi h1).symm (gE Z Z))
   exact nx 24 Z (eX _ (oi h1).symm (gE Z Z))
  exact nx 31 Z (eX _ (oi h1).symm (gE Z Z))
 exact nx 38 Z (eX _ (oi h1).symm (gE Z Z))
end Go.Ab.R06
end
section
namespace Go.Ab.R06
open Go.Proofs Go.Ab Go.Ab.RB
theorem vg {v:ah}(hb:VSz v):Ev2 (λ n _=>fc n v v) (·=true):=by
 induction hb with
 | @mk x hv hs ih =>
  have l1:∀ k i:Nat,i+k=x.fKeys.length→Ev2 (λ _ m=>dW x x m i) (·=.inl ()):=by
   intro k
   induction k with
   | zero=>intro i hi; exact aZ (by simp only [dW]; exact ag O (ab rfl))
   | succ k ihk =>
    intro i hi
    refine aZ ?_
    simp only [dW]
    exact ai O (av O (av O (ai (by trivial) (av (aI O O) (ihk (i+1) O)))))
  have l2:∀ k i:Nat,i+k=x.fItems.length→Ev2 (λ n m=>dY (fc n) x x m i) (·=.inl ()):=by
   intro k
   induction k with
   | zero=>intro i hi; exact aZ (by simp only [dY]; exact ag O (ab rfl))
   | succ k ihk =>
    intro i hi
    refine aZ ?_
    simp only [dY]
    exact ai O (av O (av O (am _ (ih _ (yn O)) (ag (by decide) (av (aI O O) (ihk (i+1) O))))))
  refine cq ?_
  simp only [fc]
  refine am false (ai (by trivial) (ai (by trivial) (ai (by trivial) (ai (by trivial) (ab G))))) (ag (by decide) ?_)
  exact f0 () (bT (f:=λ n m=>dW x x m 0) (l1 x.fKeys.length 0 O)) (f0 () (bT (f:=λ n m=>dY (fc n) x x m 0) (l2 x.fItems.length 0 O)) (ab Z))
theorem xP {s:Bytes}{f:Nat}{q:PE⊕ac}(hs:(s.length:Int)≤1000000)(hq:dO f s 0=some q):Ev2 (λ n _=>em n s) (·=AO (kW q)):=by
 have hz:=(fct f).w s 0 O O  q hq
 have h1:=(fol f).w s 0 q O O  hq
 simp only [em]
 refine af _ h1 λ r hr=>?_
 cases q with
 | inl e =>
  obtain ⟨he,hr⟩:=hr
  refine am (AO (kW (.inl e))) ?_ (ab Z)
  simp only [eW]
  rw [hr]
  exact ag he (ab Z)
 | inr x =>
  replace hr:r=(x,dOk):=hr
  subst hr
  exact am _ (rF hz) (ab Z)
end Go.Ab.R06
end
section
namespace Go.Ab.R06
open Go.Proofs Go.Ab Go.Ab.RB
set_option maxRecDepth 4000
attribute [local irreducible] awp fT bn bF cv AV.sub M cT
end Go.Ab.R06
end
section
namespace Go.Ab.R06
open Go.Proofs Go.Ab Go.Ab.RB Go.Lib
theorem wF (c:Bool)(s:Bytes)(K:Nat):d7 c (List.replicate K 32++s)=d7 c s:=by
 have h:(List.replicate K 32++s).dropWhile eg=s.dropWhile eg:=by
  induction K with
  | zero=>rfl
  | succ K ih=>rw [List.replicate_succ,List.cons_append,List.dropWhile_cons,if_pos (by decide),ih]
 unfold d7
 rw [h]
theorem Db {α:Type}{F:Nat→Nat→Option α}{x y:α}(h1:Ev2 F (·=x))(h2:Ev2 F (·=y)):x=y:=by
 obtain ⟨r,rfl,N,hN⟩:=h1
 obtain ⟨r',rfl,M,hM⟩:=h2
 have e1:=hN (max N M) (max N M) O O
 have e2:=hM (max N M) (max N M) O O
 exact Option.some.inj (e1.symm.trans e2)
end Go.Ab.R06
end
section
namespace Go.Ab.R06
open Go.Ab Go.Ab.RB Go.Lib
theorem Eh (l:Bytes):d7 false l=l.dropWhile eg:=by
 unfold d7
 cases l.dropWhile eg <;> rfl
theorem tT (p:UInt8→Bool):∀ l:Bytes,∀ z∈l.takeWhile p,p z=true
 | [],z,hz=>by cases hz
 | a::l,z,hz=>by
  rw [List.takeWhile_cons] at hz
  split at hz
  ·rename_i ha
   rcases List.mem_cons.1 hz with rfl | hz
   ·exact ha
   ·exact tT p l z hz
  ·cases hz
theorem xV (p:UInt8→Bool):∀ l:Bytes,∀ z∈(l.dropWhile p).head?,p z=false
 | [],z,hz=>by cases hz
 | a::l,z,hz=>by
  rw [List.dropWhile_cons] at hz
  split at hz
  ·exact xV p l z hz
  ·rename_i ha
   cases hz
   simpa using ha
theorem wZ {p:UInt8→Bool}{t x:Bytes}(ht:∀ z∈t,p z=true)(hx:∀ z∈x.head?,p z=false):(t++x).takeWhile p=t∧(t++x).dropWhile p=x:=by
 induction t with
 | nil =>
  cases x with
  | nil=>exact ⟨Z,Z⟩
  | cons z x =>
   have:=hx z Z
   rw [List.nil_append,List.takeWhile_cons,List.dropWhile_cons]
   simp [this]
 | cons a t ih =>
  have ha:=ht a List.mem_cons_self
  obtain ⟨i1,i2⟩:=ih (λ z hz=>ht z (List.mem_cons_of_mem _ hz))
  rw [List.cons_append,List.takeWhile_cons,List.dropWhile_cons,if_pos ha,if_pos ha,i1,i2]
  exact ⟨Z,Z⟩
theorem CS {l z:Bytes}(h:l≠[])(hb:¬ j4 (decodeL l)):decodeL (l.take (decodeL l).2++z)=decodeL l:=by
 have hf:=gT l h
 obtain ⟨ho,he⟩:=hf.2.2 (λ q=>hb (.inl q))
 rw [← he,tM _ ho]
 have:=congrArg List.length he
 rw [List.length_take,Nat.min_eq_left hf.2.1] at this
 exact Prod.ext (Int.toNat_natCast _) this
theorem C5 (w x y:Bytes):hasPrefix (w++34::x) [36,36,123]=hasPrefix (w++34::y) [36,36,123]∧hasPrefix (w++34::x) [36,123]=hasPrefix (w++34::y) [36,123]:=by
 match w with
 | []=>simp [hasPrefix,List.isPrefixOf]
 | [a]=>simp [hasPrefix,List.isPrefixOf]
 | [a,b]=>simp [hasPrefix,List.isPrefixOf]
 | a::b::c::w=>simp [hasPrefix,List.isPrefixOf]
def sgL:List Bytes:=oD++mB.map (λ b=>[b])
theorem tE {t x y:Bytes}(ht:t≠[])(h:x.head? = y.head?):d9 (t++x)=d9 (t++y):=by
 match t,ht with
 | [a],_ =>
  cases x with
  | nil =>
   cases y with
   | nil=>rfl
   | cons z y=>cases h
  | cons z x =>
   cases y with
   | nil=>cases h
   | cons w y =>
    cases h
    simp [d9,oD,hasPrefix,List.isPrefixOf,List.find?,yO]
 | a::b::t,_=>simp [d9,oD,hasPrefix,List.isPrefixOf,List.find?,yO]
theorem zL {b:UInt8}(h:¬ indexByte mB b < 0):b∈mB:=by
 have hT:(List.range 256).all (λ n=>decide (indexByte mB (UInt8.ofNat n) < 0)||mB.contains (UInt8.ofNat n))=true:=by decide +kernel
 have:=List.all_eq_true.1 hT b.toNat (List.mem_range.2 (UInt8.toNat_lt b))
 rw [UInt8.ofNat_toNat,decide_eq_false h,Bool.false_or] at this
 exact List.contains_iff_mem.1 this
theorem Av {l:Bytes}(h:d9 l≠[]):d9 l∈sgL∧d9 l <+: l:=by
 unfold d9 at h ⊢
 cases hf:oD.find? (λ t=>hasPrefix l t) with
 | some t=>exact ⟨List.mem_append_left _ (List.mem_of_find?_eq_some hf),List.isPrefixOf_iff_prefix.1 (List.find?_some (p:=λ t=>hasPrefix l t) hf)⟩
 | none =>
  rw [hf] at h
  cases l with
  | nil=>exact absurd Z h
  | cons b r =>
   dsimp only at h ⊢
   rw [pB] at h ⊢
   by_cases hb:indexByte mB b < 0
   ·rw [if_pos hb] at h; exact absurd rfl h
   ·rw [if_neg hb]
    exact ⟨List.mem_append_right _ (List.mem_map_of_mem (zL hb)),⟨r,Z⟩⟩
def frst (p:UInt8→Bool):Bytes→Bool
 | []=>false
 | a::_=>p a
def sg1 (a:UInt8):Bool:=!ji a&&!eq a&&!decide (a.toNat=10)&&!decide (a.toNat=34)&&!eg a&&!decide (a.toNat=35)
theorem mz {t:Bytes}(h:t∈sgL):∃ a w,t=a::w∧sg1 a=true:=by
 have hT:sgL.all (frst sg1)=true:=by decide +kernel
 have:=List.all_eq_true.1 hT t h
 cases t with
 | nil=>cases this
 | cons a w=>exact ⟨a,w,Z,this⟩
theorem Dh (x:Bytes):d9 (125::x)=[125]:=by
 cases x with
 | nil=>decide
 | cons z x=>rw [show 125::z::x=[125]++(z::x) from rfl]; simp [d9,oD,hasPrefix,List.isPrefixOf,List.find?,yO]; decide
def Wd (c:Int)(t:Bytes):Bytes:=if c=3 then 34::(t++[34]) else t
def Em (src:Bytes→SE⊕Bytes)(c:Int)(t x:Bytes):Prop:=(c=1→∀ z∈x.head?,idB z=false)∧(c=2→∀ z∈x.head?,eq z=false)∧(c=3→src (t++34::x)=.inr x)∧(c=4→d9 (t++x)=t)
def WOK (c:Int)(t:Bytes):Prop:=(c=6∧t=[])∨(c=1∧∃ b w,t=b::w∧ji b=true)∨(c=2∧∃ b w,t=b::w∧eq b=true)∨c=3∨(c=4∧t∈sgL)∨(c=5∧t=[10])
theorem xo {b:UInt8}(h:ji b=true):eq b=false:=by
 have h1:=(ln b).1 h
 cases hd:eq b with
 | false=>rfl
 | true=>have:=(j3 b).1 hd; omega
theorem E9 {b:UInt8}(h:ji b=true):b.toNat≠10∧b.toNat≠34∧b.toNat≠35∧eg b=false:=by
 have h1:=(ln b).1 h
 refine ⟨by omega,by omega,by omega,?_⟩
 simp [eg]; omega
theorem Et {b:UInt8}(h:eq b=true):b.toNat≠10∧b.toNat≠34∧b.toNat≠35∧eg b=false∧ji b=false:=by
 have h1:=(j3 b).1 h
 refine ⟨by omega,by omega,by omega,?_,?_⟩
 ·simp [eg]; omega
 ·cases hl:ji b with
  | false=>rfl
  | true=>rw [xo hl] at h; cases h
theorem zU {a:UInt8}(h:sg1 a=true):ji a=false∧eq a=false∧a.toNat≠10∧a.toNat≠34∧eg a=false∧a.toNat≠35:=by
 unfold sg1 at h
 simp only [Bool.and_eq_true,Bool.not_eq_true',decide_eq_false_iff_not] at h
 obtain ⟨⟨⟨⟨⟨h1,h2⟩,h3⟩,h4⟩,h5⟩,h6⟩:=h
 exact ⟨h1,h2,h3,h4,h5,h6⟩
theorem sb {src:Bytes→SE⊕Bytes}{b:UInt8}{r:Bytes}{c:Int}{t l':Bytes}(hs:∀ y,src r=.inr y→∃ p,r=p++34::y)(h:gG src (b::r)=.inr (c,t,l')) :
  b::r=Wd c t++l'∧Em src c t l'∧WOK c t∧c≠6∧∀ src' x,Em src' c t x→gG src' (Wd c t++x)=.inr (c,t,x):=by
 rw [fu] at h
 split at h
 ·rename_i hb
  split at h
  ·cases h
  ·rename_i h64
   cases h
   have hi:idB b=true:=by simp [idB,hb]
   have ht:(b::r).takeWhile idB=b::r.takeWhile idB:=by rw [List.takeWhile_cons,if_pos hi]
   refine ⟨(List.takeWhile_append_dropWhile (p:=idB) (l:=b::r)).symm,⟨λ _=>xV idB _,λ h=>(by cases h),λ h=>(by cases h),λ h=>(by cases h)⟩,.inr (.inl ⟨rfl,b,_,ht,hb⟩),by decide,λ src' x hf=>?_⟩
   have hx:=wZ (tT idB (b::r)) (hf.1 Z)
   show gG src' ((b::r).takeWhile idB++x)=_
   have e:(b::r).takeWhile idB++x=b::(r.takeWhile idB++x):=by rw [ht]; rfl
   rw [e,fu,if_pos hb,← e,hx.1,hx.2,if_neg h64]
 split at h
 ·rename_i hl hb
  cases h
  have ht:(b::r).takeWhile eq=b::r.takeWhile eq:=by rw [List.takeWhile_cons,if_pos hb]
  refine ⟨(List.takeWhile_append_dropWhile (p:=eq) (l:=b::r)).symm,⟨λ h=>(by cases h),λ _=>xV eq _,λ h=>(by cases h),λ h=>(by cases h)⟩,.inr (.inr (.inl ⟨rfl,b,_,ht,hb⟩)),by decide,λ src' x hf=>?_⟩
  have hx:=wZ (tT eq (b::r)) (hf.2.1 Z)
  show gG src' ((b::r).takeWhile eq++x)=_
  have e:(b::r).takeWhile eq++x=b::(r.takeWhile eq++x):=by rw [ht]; rfl
  rw [e,fu,if_neg hl,if_pos hb,← e,hx.1,hx.2]
 split at h
 ·rename_i hl hd hb
  cases h
  have hb':b=10:=UInt8.toNat_inj.1 hb
  subst hb'
  refine ⟨rfl,⟨λ h=>(by cases h),λ h=>(by cases h),λ h=>(by cases h),λ h=>(by cases h)⟩,.inr (.inr (.inr (.inr (.inr ⟨rfl,rfl⟩)))),by decide,λ src' x _=>?_⟩
  show gG src' (10::x)=_
  rw [fu,if_neg hl,if_neg hd,if_pos hb]
 split at h
 ·rename_i hl hd hn hb
  split at h
  ·cases h
  ·rename_i r' hr
   cases h
   obtain ⟨p,rfl⟩:=hs _ hr
   have hp:(p++34::l').take ((p++34::l').length - l'.length - 1)=p:=by
    rw [show (p++34::l').length - l'.length - 1=p.length by simp only [List.length_append,List.length_cons]; omega]
    exact List.take_left
   have hb':b=34:=UInt8.toNat_inj.1 hb
   subst hb'
   rw [hp]
   refine ⟨by show _=34::(p++[34])++l'; simp,⟨λ h=>(by cases h),λ h=>(by cases h),λ _=>hr,λ h=>(by cases h)⟩,.inr (.inr (.inr (.inl rfl))),by decide,λ src' x hf=>?_⟩
   have hx:=hf.2.2.1 Z
   have hp:(p++34::x).take ((p++34::x).length - x.length - 1)=p:=by
    rw [show (p++34::x).length - x.length - 1=p.length by simp only [List.length_append,List.length_cons]; omega]
    exact List.take_left
   show gG src' (34::(p++[34])++x)=_
   rw [List.cons_append,List.append_assoc,List.singleton_append,fu,if_neg hl,if_neg hd,if_neg hn,if_pos hb,hx]
   dsimp only
   rw [hp]
 split at h
 ·cases h
 ·rename_i hl hd hn hq hsg
  cases h
  obtain ⟨hm,hp⟩:=Av hsg
  have e:=List.prefix_iff_eq_append.1 hp
  refine ⟨e.symm,⟨λ h=>(by cases h),λ h=>(by cases h),λ h=>(by cases h),λ _=>by rw [e]⟩,.inr (.inr (.inr (.inr (.inl ⟨rfl,hm⟩)))),by decide,λ src' x hf=>?_⟩
  have hx:=hf.2.2.2 Z
  obtain ⟨a,w,ht,ha⟩:=mz hm
  obtain ⟨a1,a2,a3,a4,_⟩:=zU ha
  show gG src' (d9 (b::r)++x)=_
  have e2:d9 (b::r)++x=a::(w++x):=by rw [ht]; rfl
  rw [e2,fu,if_neg (by simp [a1]),if_neg (by simp [a2]),if_neg a3,if_neg a4,← e2,hx,if_neg hsg,List.drop_left]
theorem uo:∀ f:Nat,(∀ k l y,ef f k l=.inr y→∃ p,l=p++34::y∧∀ g x,f≤g→ef g k (p++34::x)=.inr x)∧(∀ k n l y,hQ f k n l=.inr y→∃ p,l=p++125::y∧∀ g x,f≤g→hQ g k n (p++125::x)=.inr x)
 | 0=>⟨λ k l y h=>(by rw [ef] at h; cases h),λ k n l y h=>(by rw [hQ] at h; cases h)⟩
 | f+1=>by
  obtain ⟨i1,i2⟩:=uo f
  have gs:∀ {g},f+1≤g→∃ g',g=g'+1∧f≤g':=λ {g} h=>⟨g - 1,by omega,by omega⟩
  constructor
  ·intro k l y h
   cases l with
   | nil=>rw [ef] at h; cases h
   | cons b r =>
    rw [gP] at h
    split at h
    ·rename_i hb
     cases h
     have hb':b=34:=UInt8.toNat_inj.1 hb
     subst hb'
     refine ⟨[],Z,λ g x hg=>?_⟩
     obtain ⟨g',rfl,_⟩:=gs hg
     rw [List.nil_append,gP,if_pos hb]
    split at h
    ·rename_i h34 hp
     obtain ⟨p,hp1,hp2⟩:=i1 _ _ _ h
     have e:b::r=[36,36,123]++(b::r).drop 3:=(List.prefix_iff_eq_append.1 (List.isPrefixOf_iff_prefix.1 hp)).symm
     refine ⟨36::36::123::p,by rw [e,hp1]; rfl,λ g x hg=>?_⟩
     obtain ⟨g',rfl,hg'⟩:=gs hg
     show ef (g'+1) k (36::(36::123::(p++34::x)))=_
     rw [gP,if_neg (by decide),if_pos (by simp [hasPrefix,List.isPrefixOf])]
     exact hp2 g' x hg'
    split at h
    ·rename_i h34 hp0 hp
     split at h
     ·cases h
     ·rename_i hk
      have e:b::r=[36,123]++(b::r).drop 2:=(List.prefix_iff_eq_append.1 (List.isPrefixOf_iff_prefix.1 hp)).symm
      split at h
      ·cases h
      ·rename_i l2 hi
       obtain ⟨p1,e1,j1⟩:=i2 _ _ _ _ hi
       obtain ⟨p2,e2,j2⟩:=i1 _ _ _ h
       refine ⟨36::123::(p1++125::p2),by rw [e,e1,e2]; simp,λ g x hg=>?_⟩
       obtain ⟨g',rfl,hg'⟩:=gs hg
       have e3:36::123::(p1++125::p2)++34::x=36::(123::(p1++125::(p2++34::x))):=by simp
       rw [e3,gP,if_neg (by decide),if_neg (by simp [hasPrefix,List.isPrefixOf]),if_pos (by simp [hasPrefix,List.isPrefixOf]),if_neg hk]
       have e4:(36::(123::(p1++125::(p2++34::x)))).drop 2=p1++125::(p2++34::x):=rfl
       rw [e4,j1 g' _ hg']
       exact j2 g' x hg'
    ·rename_i h34 hp1 hp2
     have key:∀ (w:Bytes) (c:UInt8) (t:Bytes),b::r=w++c::t→(w=[]∧b.toNat≠92∨w=[b]∧b.toNat=92)→¬ j4 (decodeL (c::t))→ef f k ((c::t).drop (decodeL (c::t)).2)=.inr y→∃ p,b::r=p++34::y∧∀ g x,f+1≤g→ef g k (p++34::x)=.inr x:=by
      intro w c t hw hw2 hb h
      obtain ⟨p,e1,j1⟩:=i1 _ _ _ h
      have hd:=gT (c::t) G
      have hl:((c::t).take (decodeL (c::t)).2).length=(decodeL (c::t)).2:=by rw [List.length_take,Nat.min_eq_left hd.2.1]
      have et:c::t=(c::t).take (decodeL (c::t)).2++(c::t).drop (decodeL (c::t)).2:=(List.take_append_drop _ _).symm
      have hdl:=λ z=>CS (l:=c::t) (z:=z) G hb
      generalize hn:(decodeL (c::t)).2=n at *
      generalize hq:(c::t).take n=q at *
      have hall:b::r=w++(q++(p++34::y)):=by rw [hw,et,e1]
      refine ⟨w++(q++p),by rw [hall]; simp,λ g x hg=>?_⟩
      obtain ⟨g',rfl,hg'⟩:=gs hg
      cases q with
      | nil=>simp only [List.length_nil] at hl; omega
      | cons a q =>
       have hpf:=C5 (w++(a::q++p)) x y
       have hy:w++(a::q++p)++34::y=b::r:=by rw [hall]; simp
       rw [hy] at hpf
       have hb0:∃ r2,w++(a::q++p)++34::x=b::r2∧(if b.toNat=92 then r2 else b::r2)=a::q++(p++34::x):=by
        rcases hw2 with ⟨rfl,h92⟩ | ⟨rfl,h92⟩
        ·have:a=b:=by
          have:=hy; simp at this; exact this.1
         subst this
         exact ⟨q++(p++34::x),by simp,by rw [if_neg h92]; simp⟩
        ·exact ⟨a::q++(p++34::x),by simp,by rw [if_pos h92]⟩
       obtain ⟨r2,er,hm⟩:=hb0
       rw [er] at hpf ⊢
       rw [gP,if_neg h34,if_neg (by rw [hpf.1]; exact hp1),if_neg (by rw [hpf.2]; exact hp2),hm]
       have hz:=hdl (p++34::x)
       show (if j4 (decodeL (a::q++(p++34::x))) then _ else ef g' k ((a::q++(p++34::x)).drop (decodeL (a::q++(p++34::x))).2))=_
       rw [hz,if_neg hb,hn,← hl,List.drop_left]
       exact j1 g' x hg'
     by_cases h92:b.toNat=92
     ·rw [if_pos h92] at h
      cases r with
      | nil=>cases h
      | cons c t =>
       dsimp only at h
       split at h
       ·cases h
       ·rename_i hb
        exact key [b] c t Z (.inr ⟨Z,h92⟩) hb h
     ·rw [if_neg h92] at h
      dsimp only at h
      split at h
      ·cases h
      ·rename_i hb
       exact key [] b r Z (.inl ⟨Z,h92⟩) hb h
  ·intro k n l y h
   rw [jg,Eh] at h
   have el:=(List.takeWhile_append_dropWhile (p:=eg) (l:=l)).symm
   have hB:=tT eg l
   have hh:=xV eg l
   generalize l.takeWhile eg=B at el hB
   generalize l.dropWhile eg=m at el hh h
   cases m with
   | nil=>rw [uD] at h; cases h
   | cons b r =>
    have hb:eg b=false:=hh b Z
    rw [jj] at h
    cases ht:gG (ef f k) (b::r) with
    | inl e=>rw [ht] at h; cases h
    | inr z =>
     obtain ⟨c,t,l'⟩:=z
     rw [ht,iQ] at h
     obtain ⟨w1,w2,w3,w4,w5⟩:=sb (λ y hy=>by obtain ⟨p,hp,_⟩:=i1 _ _ _ hy; exact ⟨p,hp⟩) ht
     have skp:∀ x,d7 false (B++(Wd c t++x))=Wd c t++x:=by
      intro x
      rw [Eh]
      refine (wZ hB ?_).2
      intro z hz
      cases hw:Wd c t with
      | nil =>
       have:t=[]:=by
        unfold Wd at hw
        split at hw
        ·cases hw
        ·exact hw
       subst this
       rcases w3 with ⟨h1,_⟩ | ⟨_,_,_,h1,_⟩ | ⟨_,_,_,h1,_⟩ | h1 | ⟨_,h1⟩ | ⟨_,h1⟩
       ·exact absurd h1 w4
       ·cases h1
       ·cases h1
       ·subst h1; cases hw
       ·obtain ⟨_,_,h2,_⟩:=mz h1; cases h2
       ·cases h1
      | cons a w =>
       rw [hw] at hz w1
       cases hz
       have:b=z:=by simpa using (List.cons.inj w1).1
       rw [← this]; exact hb
     have up:∀ X g,X.head? = l'.head?→f≤g→Em (ef g k) c t X:=by
      intro X g hX hg
      refine ⟨λ hc=>by rw [hX]; exact w2.1 hc,λ hc=>by rw [hX]; exact w2.2.1 hc,λ hc=>?_,λ hc=>?_⟩
      ·obtain ⟨p,e1,j⟩:=i1 _ _ _ (w2.2.2.1 hc)
       have:t=p:=List.append_cancel_right e1
       subst this
       exact j g X hg
      ·have h1:=w2.2.2.2 hc
       rcases w3 with ⟨h2,_⟩ | ⟨h2,_⟩ | ⟨h2,_⟩ | h2 | ⟨_,h2⟩ | ⟨h2,_⟩
       ·omega
       ·omega
       ·omega
       ·omega
       ·obtain ⟨a,w,e,_⟩:=mz h2
        rw [tE (by rw [e]; simp) hX]; exact h1
       ·omega
     have rec':∀ n',hQ f k n' l'=.inr y→(∀ g x,yy (hQ g k) n (.inr (c,t,x))=hQ g k n' x)→∃ p,l=p++125::y∧∀ g x,f+1≤g→hQ g k n (p++125::x)=.inr x:=by
      intro n' h hn
      obtain ⟨p,e1,j⟩:=i2 _ _ _ _ h
      refine ⟨B++(Wd c t++p),by rw [el,w1,e1]; simp,λ g x hg=>?_⟩
      obtain ⟨g',rfl,hg'⟩:=gs hg
      have e2:B++(Wd c t++p)++125::x=B++(Wd c t++(p++125::x)):=by simp
      have hX:(p++125::x).head? = l'.head?:=by rw [e1]; cases p <;> rfl
      have htk:=w5 (ef g' k) _ (up _ g' hX hg')
      rw [jg,e2,skp]
      have hne:∃ a w,Wd c t++(p++125::x)=a::w:=by
       cases h9:Wd c t++(p++125::x) with
       | nil=>rw [List.append_eq_nil_iff] at h9; simp at h9
       | cons a w=>exact ⟨a,w,Z⟩
      obtain ⟨a,w,e9⟩:=hne
      rw [e9] at htk ⊢
      rw [jj,htk,hn]
      exact j g' x hg'
     by_cases hc:c=4∧t=[125]
     ·rw [if_pos hc] at h
      by_cases hn:n=1
      ·rw [if_pos hn] at h
       cases h
       obtain ⟨rfl,rfl⟩:=hc
       refine ⟨B,by rw [el,w1]; rfl,λ g x hg=>?_⟩
       obtain ⟨g',rfl,hg'⟩:=gs hg
       have htk:=w5 (ef g' k) x ⟨λ h=>(by cases h),λ h=>(by cases h),λ h=>(by cases h),λ _=>Dh x⟩
       rw [jg,show B++125::x=B++(Wd 4 [125]++x) from rfl,skp]
       show DG _ _ n (125::x)=_
       rw [jj,show gG (ef g' k) (125::x)=_ from htk,iQ,if_pos ⟨rfl,rfl⟩,if_pos hn]
      ·rw [if_neg hn] at h
       exact rec' _ h λ g x=>by rw [iQ,if_pos hc,if_neg hn]
     ·rw [if_neg hc] at h
      split at h
      ·rename_i h4
       exact rec' _ h λ g x=>by rw [iQ,if_neg hc,if_pos h4]
      ·rename_i h4
       exact rec' _ h λ g x=>by rw [iQ,if_neg hc,if_neg h4]
end Go.Ab.R06
end
section
namespace Go.Ab.R06
open Go.Proofs Go.Ab Go.Ab.RB
set_option maxRecDepth 4000
attribute [local irreducible] awp fT bn bF cv AV.sub M cT
def gQ (n:Nat)(s_0:Bytes):Option Bool :=
 if 1500 < (s_0.length:Int) then
  (ez n).bind λ r2 =>
  some r2
 else
  (gm n s_0).bind λ r4 =>
  if r4.2.fKind=0 then
   (em n s_0).bind λ r9 =>
   (iE n r4.1).bind λ r11 =>
   (em n r11).bind λ r13 =>
   if r9.2.fKind=r13.2.fKind then
    (
      if r9.2.fKind=0 then
       (eV n r9.1 r13.1).bind λ r17 =>
       if r17=true then
        (ez n).bind λ r20 =>
        some r20
       else
        some false
      else
       (ez n).bind λ r22 =>
       some r22
     : Option Bool).bind λ t24 =>
    some t24
   else
    some false
  else
   (ez n).bind λ r7 =>
   some r7
instance vW (n:Nat) (s_0:Bytes):∀ (r:Bool),HP (gQ n s_0=some r) Tryz.prog 8 [eS s_0] (.p (eB r)):=by
 refine hP good Tryz.func8 Z Z λ r h0 _ w0=>?_
 unfold gQ at h0
 refine nx 8 Z (oLs Z ?_)
 refine nx 2 Z (fD [11] h0 Z (λ c1 h0=>?_) λ c1 h0=>?_)
 ·refine nx 3 Z (bd h0 λ r2 e3 h0=>?_)
  refine oK (HP.c e3) Z trivial Tryz.call11 Z (nx 3 Z ?_)
  exact mQ (oi h0) Z (sr)
 refine nx 5 Z (bd h0 λ r4 e5 h0=>?_)
 refine oK (HP.c e5) Z ⟨sr,trivial⟩ Tryz.call25 Z (nx 14 Z ?_)
 refine fN [20] h0 Z (λ c6 h0=>?_) λ c6 h0=>?_
 ·refine nx 5 Z (bd h0 λ r9 e10 h0=>?_)
  refine oK (HP.c e10) Z ⟨sr,trivial⟩ Tryz.call16 Z (nx 11 Z ?_)
  refine bd h0 λ r11 e12 h0=>oK (HP.c e12) Z ⟨sr,trivial⟩ Tryz.call26 Z (bd h0 λ r13 e14 h0=>?_)
  refine oK (HP.c e14) Z ⟨sr,trivial⟩ Tryz.call16 Z (nx 8 Z ?_)
  refine mG (gE (t:=⟨[(5,.ptr 5 0),(6,.ptr 6 0),(7,.ptr 7 0),(8,.ptr 8 0)],[(5,(ac.cs r9.1).map .p),(6,(ax.cs r9.2).map .p),(7,(ac.cs r13.1).map .p),(8,(ax.cs r13.2).map .p)]⟩) Z Z) (nx 9 Z ?_)
  refine fN [37] h0 Z (λ c15 h0=>?_) λ c15 h0=>?_
  ·refine nx 3 Z (bd h0 λ o26 h1 h0=>?_)
   refine kN o26 (λ v27=>⟨[(2,.p (eB v27))],[]⟩) ?_ ?_
   ·exact nx 2 Z (mQ (oi h0) Z (sr))
   refine nx 5 Z (fN [40,41] h1 Z (λ c16 h1=>?_) λ c16 h1=>?_)
   ·refine nx 2 Z (bd h1 λ r17 e18 h1=>?_)
    refine oK (HP.c e18) Z ⟨sr,sr,trivial⟩ Tryz.call23 Z (nx 2 Z ?_)
    refine fB [44,45,46] h1 Z (λ c19 h1=>?_) λ c19 h1=>?_
    ·refine bd h1 λ r20 e21 h1=>oK (HP.c e21) Z trivial Tryz.call11 Z (nx 3 Z ?_)
     exact eX _ (oi h1).symm (gE Z Z)
    exact nx 4 Z (eX _ (oi h1).symm (gE Z Z))
   refine nx 5 Z (bd h1 λ r22 e23 h1=>?_)
   refine oK (HP.c e23) Z trivial Tryz.call11 Z (nx 3 Z ?_)
   exact eX _ (oi h1).symm (gE Z Z)
  exact nx 6 Z (mQ (oi h0) Z (sr))
 refine nx 3 Z (bd h0 λ r7 e8 h0=>?_)
 refine oK (HP.c e8) Z trivial Tryz.call11 Z (nx 3 Z ?_)
 exact mQ (oi h0) Z (sr)
end Go.Ab.R06
end
