/- Texts of the proof, one behind the other. No statement is proved here. -/
import Derived.Test.YtihghalcmfpnaaaGreatDoorZ14Ta
import Derived.Test.YtihghalcmfpnaaaGreatDoorZ14Tb
import Derived.Test.YtihghalcmfpnaaaGreatDoorZ14Tc
import Derived.Test.YtihghalcmfpnaaaGreatDoorZ14Td
import Derived.Test.YtihghalcmfpnaaaGreatDoorZ14Te
set_option maxHeartbeats 4000000
section
namespace Go.Ab.R06
open Go.Ab Go.Ab.RB Go.Lib
section
variable {p:Prop}
theorem FX (h:p:=by
 rw [if_neg O]
 symm; rw [bt,decide_eq_false_iff_not]
 intro q; exact q2 q.2.1):p:=h
theorem Jt (h:p:=by
 rw [List.getD_eq_getElem?_getD,List.getElem?_drop,List.getD_eq_getElem?_getD]):p:=h
theorem wz (h:p:=by
 rw [if_neg O,if_neg q]):p:=h
theorem Jp (h:p:=by
 rw [if_neg O]
 symm; rw [bt,decide_eq_false_iff_not]
 intro q; exact q1 q.1):p:=h
theorem Al (h:p:=by
 rw [hP,if_pos O,tI,two]; rfl):p:=h
theorem KZ (h:p:=by
 refine aQ tail λ r hr=>?_
 rw [hr]; simp only [q1,q0,q2,false_or]):p:=h
theorem xB (h:p:=by
 rw [if_pos O,if_pos q]):p:=h
theorem KE (h:p:=by
 rw [if_neg (by simp only [decide_eq_true_eq]; exact q3)]
 symm; rw [bt,decide_eq_false_iff_not]
 intro q; exact q3 q.2.2.1):p:=h
end
theorem t31:(List.range 256).all (λ n=>bH .u8 (n:Int) 31 == ((n % 32:Nat):Int))=true:=by kernel_rfl
theorem t15:(List.range 256).all (λ n=>bH .u8 (n:Int) 15 == ((n % 16:Nat):Int))=true:=by kernel_rfl
theorem t7:(List.range 256).all (λ n=>bH .u8 (n:Int) 7 == ((n % 8:Nat):Int))=true:=by kernel_rfl
theorem or64 (a b:Nat)(ha:a < 4611686018427387904)(hb:b < 4611686018427387904):iOr .i64 (a:Int) (b:Int)=((a ||| b:Nat):Int):=by
 have hlt:a ||| b < 4611686018427387904:=Nat.or_lt_two_pow (n:=62) ha hb
 have e1:(BitVec.ofInt 64 (a:Int)).toNat=a:=by
  rw [BitVec.toNat_ofInt]; omega
 have e2:(BitVec.ofInt 64 (b:Int)).toNat=b:=by
  rw [BitVec.toNat_ofInt]; omega
 show IntKind.wrap .i64 (((BitVec.ofInt 64 (a:Int)) ||| (BitVec.ofInt 64 (b:Int))).toNat:Nat)=_;rw [BitVec.toNat_or,e1,e2];exact rN
theorem v7 (a b k:Nat)(ha:a*2 ^ k < 4611686018427387904)(hb:b < 2 ^ k)(hk:k<=20):iOr .i64 ((a*2 ^ k:Nat):Int) (b:Int)=((a*2 ^ k+b:Nat):Int):=by
 have hp:2 ^ k<=2 ^ 20:=Nat.pow_le_pow_right (by decide) hk;have h20:(2:Nat) ^ 20=1048576:=rfl;rw [or64 _ _ ha O];have:=Nat.shiftLeft_add_eq_or_of_lt hb a;rw [Nat.shiftLeft_eq] at this;rw [<- this]
theorem vH (a k:Nat)(hk:k<=20)(ha:a*2 ^ k < 4611686018427387904):kx .i64 (a:Int) (k:Int)=((a*2 ^ k:Nat):Int):=by
 have:min (k:Int).toNat IntKind.i64.bits=k:=by
  have:IntKind.i64.bits=64:=rfl;rw [this]; omega
 unfold kx;rw [this];have e:(a:Int)*2 ^ k=((a*2 ^ k:Nat):Int):=by push_cast; rfl
 rw [e];generalize a*2 ^ k=v at ha;exact rN
def Mz (l:Bytes):Int×Int:=if (decodeL l).1=65533/\(decodeL l).2=1 then (0,0) else (((decodeL l).1:Int),((decodeL l).2:Int))
theorem Nh (s:Bytes)(j:Nat)(lo hi:Int):em s (j:Int) lo hi=some (decide (j < s.length/\lo<=((s.getD j 0).toNat:Int)/\((s.getD j 0).toNat:Int)<=hi)):=by
 unfold em;have hb:byt s (j:Int)=((s.getD j 0).toNat:Int):=cD s j;rw [hb];by_cases h:j < s.length
 ·rw [if_pos O,bC O];by_cases h2:lo<=((s.getD j 0).toNat:Int)
  ·rw [if_pos h2,bC O];refine congrArg some (eqB ?_);rw [decide_eq_true_eq,decide_eq_true_eq];exact ⟨λ q=>⟨h,h2,q⟩,λ q=>q.2.2⟩
  ·rw [if_neg h2,cl]
   symm; rw [bt,decide_eq_false_iff_not]
   exact λ q=>h2 q.2.1
 ·rw [if_neg O]; simp [h]
set_option maxHeartbeats 8000000 in
theorem ug (s:Bytes)(i:Nat)(hi:i < s.length)(hs:s.length<=1000000000):iV s (i:Int)=some (Mz (s.drop i)):=by
 have hg:∀ k,(s.drop i).getD k 0=s.getD (i+k) 0:=λ k=>by
  exact Jt
 unfold iV Mz;rw [decodeL_N,hg,hg,hg,hg,Nat.add_zero,ld]
 have b:∀ k:Nat,byt s ((i:Int)+k)=((s.getD (i+k) 0).toNat:Int):=λ k=>by
  rw [show (i:Int)+(k:Int)=((i+k:Nat):Int) by omega]; exact cD s (i+k)
 have c:∀ (k:Nat) lo hi,em s ((i:Int)+k) lo hi=some (decide (k < s.length - i/\lo<=((s.getD (i+k) 0).toNat:Int)/\((s.getD (i+k) 0).toNat:Int)<=hi)):=λ k lo hi=>by
  rw [show (i:Int)+(k:Int)=((i+k:Nat):Int) by omega,Nh];refine congrArg some (eqB ?_);rw [decide_eq_true_eq,decide_eq_true_eq];constructor
  ·rintro ⟨h1,h2⟩; exact ⟨by omega,h2⟩
  ·rintro ⟨h1,h2⟩; exact ⟨by omega,h2⟩
 have b0:byt s (i:Int)=((s.getD i 0).toNat:Int):=cD s i;have b1:byt s ((i:Int)+1)=((s.getD (i+1) 0).toNat:Int):=b 1;have b2:byt s ((i:Int)+2)=((s.getD (i+2) 0).toNat:Int):=b 2;have b3:byt s ((i:Int)+3)=((s.getD (i+3) 0).toNat:Int):=b 3;have c1:∀ lo hi,em s ((i:Int)+1) lo hi=_:=c 1;have c2:∀ lo hi,em s ((i:Int)+2) lo hi=_:=c 2;have c3:∀ lo hi,em s ((i:Int)+3) lo hi=_:=c 3;simp only [b0,b1,b2,b3,c1,c2,c3];obtain ⟨n,hn⟩:∃ n,s.length=i+n:=⟨s.length - i,by omega⟩
 have hn1:s.length - i=n:=by omega
 have M':(s.length:Int)=(i:Int)+n:=by omega
 rw [hn1,M'];have l0:=(s.getD i 0).toNat_lt;have l1:=(s.getD (i+1) 0).toNat_lt;have l2:=(s.getD (i+2) 0).toNat_lt;have l3:=(s.getD (i+3) 0).toNat_lt;generalize (s.getD i 0).toNat=B0 at l0 ⊢;generalize (s.getD (i+1) 0).toNat=B1 at l1 ⊢;generalize (s.getD (i+2) 0).toNat=B2 at l2 ⊢;generalize (s.getD (i+3) 0).toNat=B3 at l3 ⊢;have hnp:0 < n:=by omega
 have Wk:n<=1000000000:=by omega
 have hib:i<=1000000000:=by omega
 clear hg b c b0 b1 b2 b3 c1 c2 c3 hn1 M' hn hi hs
 have a31:bH .u8 (B0:Int) 31=((B0 % 32:Nat):Int):=tab t31 B0 O;have a15:bH .u8 (B0:Int) 15=((B0 % 16:Nat):Int):=tab t15 B0 O;have a7:bH .u8 (B0:Int) 7=((B0 % 8:Nat):Int):=tab t7 B0 O;have a1:bH .u8 (B1:Int) 63=((B1 % 64:Nat):Int):=tab t63 B1 O;have a2:bH .u8 (B2:Int) 63=((B2 % 64:Nat):Int):=tab t63 B2 O;have a3:bH .u8 (B3:Int) 63=((B3 % 64:Nat):Int):=tab t63 B3 O
 have two:iOr .i64 (kx .i64 ((B0 % 32:Nat):Int) 6) ((B1 % 64:Nat):Int)=((B0 % 32*64+B1 % 64:Nat):Int):=by
  have h1:kx .i64 ((B0 % 32:Nat):Int) 6=((B0 % 32*2 ^ 6:Nat):Int):=vH _ 6 (by decide) O;rw [h1];exact v7 _ _ 6 O O  (by decide)
 have three:iOr .i64 (iOr .i64 (kx .i64 ((B0 % 16:Nat):Int) 12) (kx .i64 ((B1 % 64:Nat):Int) 6)) ((B2 % 64:Nat):Int)=((B0 % 16*4096+B1 % 64*64+B2 % 64:Nat):Int):=by
  have h1:kx .i64 ((B0 % 16:Nat):Int) 12=((B0 % 16*2 ^ 12:Nat):Int):=vH _ 12 (by decide) O;have h2:kx .i64 ((B1 % 64:Nat):Int) 6=((B1 % 64*2 ^ 6:Nat):Int):=vH _ 6 (by decide) O;have h3:=v7 (B0 % 16) (B1 % 64*2 ^ 6) 12 O O  (by decide);have h4:=v7 (B0 % 16*64+B1 % 64) (B2 % 64) 6 O O  (by decide);rw [h1,h2,h3,show B0 % 16*2 ^ 12+B1 % 64*2 ^ 6=(B0 % 16*64+B1 % 64)*2 ^ 6 by omega,h4]
 have four:iOr .i64 (iOr .i64 (iOr .i64 (kx .i64 ((B0 % 8:Nat):Int) 18) (kx .i64 ((B1 % 64:Nat):Int) 12)) (kx .i64 ((B2 % 64:Nat):Int) 6)) ((B3 % 64:Nat):Int)=((B0 % 8*262144+B1 % 64*4096+B2 % 64*64+B3 % 64:Nat):Int):=by
  have h1:kx .i64 ((B0 % 8:Nat):Int) 18=((B0 % 8*2 ^ 18:Nat):Int):=vH _ 18 (by decide) O;have h2:kx .i64 ((B1 % 64:Nat):Int) 12=((B1 % 64*2 ^ 12:Nat):Int):=vH _ 12 (by decide) O;have h2':kx .i64 ((B2 % 64:Nat):Int) 6=((B2 % 64*2 ^ 6:Nat):Int):=vH _ 6 (by decide) O;have h3:=v7 (B0 % 8) (B1 % 64*2 ^ 12) 18 O O  (by decide);have h4:=v7 (B0 % 8*64+B1 % 64) (B2 % 64*2 ^ 6) 12 O O  (by decide);have h5:=v7 (B0 % 8*4096+B1 % 64*64+B2 % 64) (B3 % 64) 6 O O  (by decide);rw [h1,h2,h2',h3,show B0 % 8*2 ^ 18+B1 % 64*2 ^ 12=(B0 % 8*64+B1 % 64)*2 ^ 12 by omega,h4,show (B0 % 8*64+B1 % 64)*2 ^ 12+B2 % 64*2 ^ 6=(B0 % 8*4096+B1 % 64*64+B2 % 64)*2 ^ 6 by omega,h5]
 rw [a31,a15,a7,a1,a2,a3,two,three,four];have i1:inR ((i:Int)+1):=bv O O;have i2:inR ((i:Int)+2):=bv O O;have i3:inR ((i:Int)+3):=bv O O
 have e0:((if (i:Int) < 0 then some true else some (decide ((i:Int)+n<=i))):Option Bool)=some false:=by
  rw [if_neg O]; simp; omega
 rw [e0,cl,if_neg G,bC O];unfold decodeN;by_cases h0:B0 < 128
 ·rw [if_pos (show (B0:Int) < 128 by omega),bC aB,if_pos h0];simp only;rw [if_neg O]; rfl
 rw [if_neg (show ¬ (B0:Int) < 128 by omega),if_neg h0]
 have ZA:((if 194<=(B0:Int) then if (B0:Int)<=223 then ck (inR ((i:Int)+1)) <| (some (decide (1 < n/\(128:Int)<=(B1:Int)/\(B1:Int)<=191))).bind λ Tp=>some Tp else some false else some false):Option Bool)=some (decide (194<=B0/\B0<=223/\1 < n/\128<=B1/\B1<=191)):=by
  by_cases q1:194<=B0
  ·rw [if_pos O];by_cases q2:B0<=223
   ·rw [if_pos O,bC i1,cl];refine congrArg some (eqB ?_);rw [decide_eq_true_eq,decide_eq_true_eq]; omega
   ·rw [if_neg O]; simp; omega
  ·rw [if_neg O]; simp; omega
 rw [ZA,cl];by_cases h12:194<=B0/\B0<=223/\1 < n/\128<=B1/\B1<=191
 ·rw [if_pos (by simp only [decide_eq_true_eq]; exact h12),bC aB,bC O,bC i1,bC O,bC aB];rw [if_pos (show B0 / 32=6/\1 < n/\B1 / 64=2 by omega),if_pos (show B0 % 32*64+B1 % 64 >= 128 by omega)];show some _=some (if B0 % 32*64+B1 % 64=65533/\_ then _ else _);rw [if_neg O]; rfl
 rw [if_neg (by simp only [decide_eq_true_eq]; exact h12)]
 have hlo:((if (B0:Int)=224 then some 160 else some 128):Option Int)=some (if B0=224 then 160 else 128):=by
  by_cases q:B0=224
  ·exact xB
  ·exact wz
 have hhi:((if (B0:Int)=237 then some 159 else some 191):Option Int)=some (if B0=237 then 159 else 191):=by
  by_cases q:B0=237
  ·exact xB
  ·exact wz
 have hlo4:((if (B0:Int)=240 then some 144 else some 128):Option Int)=some (if B0=240 then 144 else 128):=by
  by_cases q:B0=240
  ·exact xB
  ·exact wz
 have hhi4:((if (B0:Int)=244 then some 143 else some 191):Option Int)=some (if B0=244 then 143 else 191):=by
  by_cases q:B0=244
  ·exact xB
  ·exact wz
 rw [hlo,cl,hhi,cl]
 have e32:∀ lo hi:Int,((if 224<=(B0:Int) then if (B0:Int)<=239 then ck (inR ((i:Int)+1)) <| (some (decide (1 < n/\lo<=(B1:Int)/\(B1:Int)<=hi))).bind λ TT=>if TT=true then ck (inR ((i:Int)+2)) <| (some (decide (2 < n/\(128:Int)<=(B2:Int)/\(B2:Int)<=191))).bind λ Wm=>some Wm else some false else some false else some false):Option Bool)
   = some (decide (224<=B0/\B0<=239/\(1 < n/\lo<=(B1:Int)/\(B1:Int)<=hi)/\2 < n/\128<=B2/\B2<=191)):=by
  intro lo hi;by_cases q1:224<=B0
  ·rw [if_pos O];by_cases q2:B0<=239
   ·rw [if_pos O,bC i1,cl];by_cases q3:1 < n/\lo<=(B1:Int)/\(B1:Int)<=hi
    ·rw [if_pos (by simp only [decide_eq_true_eq]; exact q3),bC i2,cl];refine congrArg some (eqB ?_);rw [decide_eq_true_eq,decide_eq_true_eq];constructor
     ·intro q; exact ⟨q1,q2,q3,by omega⟩
     ·intro q; have:=q.2.2.2; omega
    ·exact KE
   ·exact FX
  ·exact Jp
 rw [e32,cl];by_cases h32:224<=B0/\B0<=239/\(1 < n/\(if B0=224 then 160 else 128)<=(B1:Int)/\(B1:Int)<=(if B0=237 then 159 else 191))/\2 < n/\128<=B2/\B2<=191
 ·rw [if_pos (by simp only [decide_eq_true_eq]; exact h32)];obtain ⟨k1,k2,⟨k3,k4,k5⟩,k6,k7,k8⟩:=h32;have k4':128<=B1/\(B0=224->160<=B1):=by split at k4 <;> omega
  have k5':B1<=191/\(B0=237->B1<=159):=by split at k5 <;> omega
  clear k4 k5
  repeat rw [bC (by first | exact i1 | exact i2 | omega | exact bv O O)]
  rw [if_neg (show ¬ (B0 / 32=6/\1 < n/\B1 / 64=2) by omega),if_pos (show B0 / 16=14/\(1 < n/\B1 / 64=2)/\2 < n/\B2 / 64=2 by omega),if_pos (show B0 % 16*4096+B1 % 64*64+B2 % 64 >= 2048/\(B0 % 16*4096+B1 % 64*64+B2 % 64 < 55296\/57344<=B0 % 16*4096+B1 % 64*64+B2 % 64/\B0 % 16*4096+B1 % 64*64+B2 % 64<=1114111) by omega)];show some _=some (if B0 % 16*4096+B1 % 64*64+B2 % 64=65533/\(3:Nat)=1 then _ else _);rw [if_neg O]; rfl
 rw [if_neg (by simp only [decide_eq_true_eq]; exact h32)];rw [hlo4,cl,hhi4,cl]
 have h32':¬ (224<=B0/\B0<=239/\1 < n/\(B0=224->160<=B1)/\128<=B1/\B1<=191/\(B0=237->B1<=159)/\2 < n/\128<=B2/\B2<=191):=by
  rintro ⟨k1,k2,k3,k4,k5,k6,k7,k8⟩;exact h32 ⟨k1,k2,⟨k3,by split <;> omega,by split <;> omega⟩,k8⟩
 clear h32 e32
 have e60:∀ lo hi:Int,((if 240<=(B0:Int) then if (B0:Int)<=244 then ck (inR ((i:Int)+1)) <| (some (decide (1 < n/\lo<=(B1:Int)/\(B1:Int)<=hi))).bind λ r50=>if r50=true then ck (inR ((i:Int)+2)) <| (some (decide (2 < n/\(128:Int)<=(B2:Int)/\(B2:Int)<=191))).bind λ UP=>if UP=true then ck (inR ((i:Int)+3)) <| (some (decide (3 < n/\(128:Int)<=(B3:Int)/\(B3:Int)<=191))).bind λ TX=>some TX else some false else some false else some false else some false):Option Bool)
   = some (decide (240<=B0/\B0<=244/\(1 < n/\lo<=(B1:Int)/\(B1:Int)<=hi)/\(2 < n/\128<=B2/\B2<=191)/\3 < n/\128<=B3/\B3<=191)):=by
  intro lo hi;by_cases q1:240<=B0
  ·rw [if_pos O];by_cases q2:B0<=244
   ·rw [if_pos O,bC i1,cl];by_cases q3:1 < n/\lo<=(B1:Int)/\(B1:Int)<=hi
    ·rw [if_pos (by simp only [decide_eq_true_eq]; exact q3),bC i2,cl];by_cases q4:2 < n/\128<=B2/\B2<=191
     ·rw [if_pos (by simp only [decide_eq_true_eq]; omega),bC i3,cl];refine congrArg some (eqB ?_);rw [decide_eq_true_eq,decide_eq_true_eq];constructor
      ·intro q; exact ⟨q1,q2,q3,q4,by omega⟩
      ·intro q; have:=q.2.2.2.2; omega
     ·rw [if_neg (by simp only [decide_eq_true_eq]; omega)]
      symm; rw [bt,decide_eq_false_iff_not]
      intro q; exact q4 q.2.2.2.1
    ·exact KE
   ·exact FX
  ·exact Jp
 rw [e60,cl];by_cases h60:240<=B0/\B0<=244/\(1 < n/\(if B0=240 then 144 else 128)<=(B1:Int)/\(B1:Int)<=(if B0=244 then 143 else 191))/\(2 < n/\128<=B2/\B2<=191)/\3 < n/\128<=B3/\B3<=191
 ·rw [if_pos (by simp only [decide_eq_true_eq]; exact h60)];obtain ⟨k1,k2,⟨k3,k4,k5⟩,⟨k6,k7,k8⟩,k9,k10,k11⟩:=h60;have k4':128<=B1/\(B0=240->144<=B1):=by split at k4 <;> omega
  have k5':B1<=191/\(B0=244->B1<=143):=by split at k5 <;> omega
  clear k4 k5
  repeat rw [bC (by first | exact i1 | exact i2 | exact i3 | omega | exact bv O O)]
  rw [if_neg (show ¬ (B0 / 32=6/\1 < n/\B1 / 64=2) by omega),if_neg (show ¬ (B0 / 16=14/\(1 < n/\B1 / 64=2)/\2 < n/\B2 / 64=2) by omega),if_pos (show B0 / 8=30/\(1 < n/\B1 / 64=2)/\(2 < n/\B2 / 64=2)/\3 < n/\B3 / 64=2 by omega)];generalize hv:B0 % 8*262144+B1 % 64*4096+B2 % 64*64+B3 % 64=v;rw [if_pos (show v >= 65536/\(v < 55296\/57344<=v/\v<=1114111) by omega)];show some _=some (if v=65533/\(4:Nat)=1 then _ else _);rw [if_neg O]; rfl
 rw [if_neg (by simp only [decide_eq_true_eq]; exact h60)]
 have h60':¬ (240<=B0/\B0<=244/\1 < n/\(B0=240->144<=B1)/\128<=B1/\B1<=191/\(B0=244->B1<=143)/\2 < n/\128<=B2/\B2<=191/\3 < n/\128<=B3/\B3<=191):=by
  rintro ⟨k1,k2,k3,k4,k5,k6,k7,k8,k9,k10,k11⟩;exact h60 ⟨k1,k2,⟨k3,by split <;> omega,by split <;> omega⟩,⟨k8,k9,k10⟩,k11⟩
 clear h60 e60
 symm
 refine congrArg some (if_pos ?_)
 repeat' split
 all_goals first | exact ⟨Z,Z⟩ | (exfalso; omega)
theorem EA (s:Bytes)(hs:s.length<=1000000000):∀ (k i:Nat),s.length - i < k->i<=s.length->Ev2 (λ _ m=>gr s m (i:Int)) (·=if validD (s.drop i)=true then .inl () else .inr false):=by
 intro k
 induction k with
 | zero=>intro i h; omega
 | succ k ih =>
  intro i hk hi;refine aw ?_;simp only [gr];by_cases h:i < s.length
  ·have Tc:s.drop i≠[]:=by intro q; have:=congrArg List.length q; rw [ld] at this; simp at this; omega
   refine ae O (aj _ (ax (ug s i h hs) Z) ?_);have hv:=A5 _ Tc;have hdf:=iA _ Tc;rw [ld] at hdf;unfold Mz;by_cases q:(decodeL (s.drop i)).1=65533/\(decodeL (s.drop i)).2=1
   ·rw [if_pos q];refine ae rfl (aa ?_);rw [if_neg (λ z=>((hv.1 z).1 q))]
   ·rw [if_neg q];refine af pr (ag (bv pr pr) ?_);have:=ih (i+(decodeL (s.drop i)).2) O O;rw [Int.natCast_add] at this;refine aQ this λ r hr=>?_;rw [hr,<- List.drop_drop];by_cases z:validD ((s.drop i).drop (decodeL (s.drop i)).2)=true
    ·rw [if_pos z,if_pos (hv.2 ⟨q,z⟩)]
    ·rw [if_neg z,if_neg (λ y=>z (hv.1 y).2)]
  ·refine af O (aa ?_);rw [List.drop_of_length_le O,if_pos validD_nil]
theorem En (s:Bytes)(hs:s.length<=1000000000):Ev2 (λ n _=>lh n s) (·=(decide (s.length<=4096)&&validD s)):=by
 simp only [lh];refine av (λ h=>aa ?_) (λ h=>?_)
 ·have:¬ s.length<=4096:=by omega
  simp [this]
 ·have h':s.length<=4096:=by omega
  have l:=EA s hs (s.length+1) 0 O O;rw [List.drop_zero] at l
  cases hv:validD s with
  | true=>rw [hv] at l; exact ez () (aO l) (aa (by simp [h']))
  | false=>rw [hv] at l; exact iC false (aO l) G
theorem CB:∀ (k u:Nat),u < 10 ^ (k+1)->u<=9007199254740992->Ev2 (λ n _=>fJ n (u:Int)) (·=decDigits u):=by
 intro k
 induction k with
 | zero =>
  intro u h _;have h:u < 10:=by simpa using h
  refine aP ?_;simp only [fJ];have hw:IntKind.wrap .u8 (48+(u:Int))=((48+u:Nat):Int):=by rw [ra]; omega
  rw [hw];refine aj true uT (ae rfl (ag aB (ag O (aa ?_))));rw [decDigits,dif_pos h]
  rfl
 | succ k ih =>
  intro u h hm;refine aP ?_;simp only [fJ];have hw:u < 10->IntKind.wrap .u8 (48+(u:Int))=((48+u:Nat):Int):=λ _=>by rw [ra]; omega
  by_cases h10:u < 10
  ·rw [hw h10];refine aj true uT (ae rfl (ag aB (ag O (aa ?_))));rw [decDigits,dif_pos h10]
   rfl
  ·have hd:IntKind.wrap .i64 ((u:Int).tdiv 10)=((u / 10:Nat):Int):=by
    have:(u:Int).tdiv 10=((u / 10:Nat):Int):=by
     rw [Int.tdiv_eq_ediv_of_nonneg O]; omega
    rw [this];exact rN
   have hmod:(u:Int).tmod 10=((u % 10:Nat):Int):=by
    rw [Int.tmod_eq_emod_of_nonneg O]; omega
   refine aj false uT (af G ?_);refine aj false ov (af G (af O (ag (by decide) ?_)));rw [hd,hmod];have i1:=ih (u / 10) (by rw [Nat.pow_succ] at h; omega) O;have i2:=ih (u % 10) (by have:10 ^ 1<=10 ^ (k+1):=Nat.pow_le_pow_right (by decide) O; omega) O;have e2:decDigits (u % 10)=[UInt8.ofNat (48+u % 10)]:=by rw [decDigits,dif_pos O]
   have hl:(decDigits (u / 10)).length<=u / 10+1:=by
    have:∀ n v:Nat,v < n->(decDigits v).length<=v+1:=by
     intro n
     induction n with
     | zero=>intro v h; omega
     | succ n ihn =>
      intro v hv;rw [decDigits];split
      ·simp
      ·have:=ihn (v / 10) O;rw [ph]; simp; omega
    exact this (u / 10+1) _ O
   refine aj _ i1 (ag (by decide) (aj _ i2 (ag ?_ (aa ?_))))
   ·rw [e2]; simp only [aq,n8]; omega
   ·conv=>rhs; rw [decDigits,dif_neg h10]
    rw [e2]
theorem R7 {v:Int}(h0:0<=v)(h1:v<=iw):Ev2 (λ n _=>fJ n v) (·=itoa v):=by
 obtain ⟨u,rfl⟩:∃ u:Nat,v=u:=⟨v.toNat,by omega⟩
 have e:itoa (u:Int)=decDigits u:=by unfold itoa; rw [if_neg O]; simp
 rw [e];have:u<=9007199254740992:=by unfold iw at h1; omega
 exact CB 15 u O this
theorem Di:∀ n:Fin 16,sub E7 ((n.1:Nat):Int) (((n.1:Nat):Int)+1)=[hexDigit n.1]:=by decide
theorem Ad (u:Nat)(h:u < 256):Ev2 (λ n _=>iW n (u:Int)) (·=m9 u):=by
 have one:∀ v:Nat,v < 16->Ev2 (λ n _=>iW n (v:Int)) (·=[hexDigit v]):=by
  intro v hv;refine aP ?_;simp only [iW];have hm:(v:Int).tmod 16=(v:Int):=by rw [Int.tmod_eq_emod_of_nonneg O]; omega
  rw [hm];refine ag (by decide) (ag (by decide) (ag aB (ag fk (ae O (aa ?_)))));exact Di ⟨v,hv⟩
 by_cases h1:u < 16
 ·have e:m9 u=[hexDigit u]:=if_pos h1;rw [e]; exact one u h1
 ·have e:m9 u=[hexDigit (u / 16),hexDigit (u % 16)]:=if_neg h1;rw [e];refine aP ?_;simp only [iW];have hm:(u:Int).tmod 16=((u % 16:Nat):Int):=by rw [Int.tmod_eq_emod_of_nonneg O]; omega
  have hd:IntKind.wrap .i64 ((u:Int).tdiv 16)=((u / 16:Nat):Int):=by
   have:(u:Int).tdiv 16=((u / 16:Nat):Int):=by rw [Int.tdiv_eq_ediv_of_nonneg O]; omega
   rw [this];exact rN
  rw [hm,hd];have es:sub ([48,49,50,51,52,53,54,55,56,57,97,98,99,100,101,102]:Bytes) ((u % 16:Nat):Int) (((u % 16:Nat):Int)+1)=[hexDigit (u % 16)]:=Di ⟨u % 16,by omega⟩;rw [es];refine ag (by decide) (ag (by decide) (ag aB (ag fk (af O (ag (by decide) (aj _ (one _ O) (ag G (aa rfl))))))))
theorem Mw (b:UInt8):Ev2 (λ n _=>ny n (b.toNat:Int)) (·=oJ b):=by
 have hb:=b.toNat_lt;simp only [ny];refine av (λ h=>aa (Sr O).symm) (λ h1=>av (λ h=>aa (RS O).symm) (λ h2=>av (λ h=>aa (SA O).symm) (λ h3=>av (λ h=>aa ?_) (λ h4=>av (λ h=>aa ?_) (λ h5=>?_)))))
 ·have e:b=34:=(pc (n:=34) (by decide)).1 O;rw [e]; rfl
 ·have e:b=92:=(pc (n:=92) (by decide)).1 O;rw [e]; rfl
 ·refine aj (decide (b.toNat < 32\/b.toNat=127)) ?_ ?_
  ·by_cases h:b.toNat < 32
   ·exact AY
   ·exact Am
  ·by_cases h6:b.toNat < 32\/b.toNat=127
   ·rw [Sa O O O h6];have hl:=sP b.toNat;exact ae (by simp [h6]) (ag aB (aj _ (Ad b.toNat O) (ag ns (ag kt (aa rfl)))))
   ·rw [RO O O  h6];refine af (by simp only [decide_eq_true_eq]; exact h6) (ag O (aa ?_));rw [Ox]
theorem Ef (s:Bytes)(hs:s.length<=1000000000):∀ (k i:Nat) (f:Bytes),i+k=s.length->f.length<=6*i+1->Ev2 (λ n m=>iH n s m f (i:Int)) (·=f++(s.drop i).flatMap oJ):=by
 intro k
 induction k with
 | zero =>
  intro i f hi hf;refine aw ?_;simp only [iH];refine af O (aa ?_);rw [List.drop_of_length_le O]; simp
 | succ k ih =>
  intro i f hi hf;refine aw ?_;simp only [iH];refine ae O (ag O ?_);have hb:byt s i=((s.getD i 0).toNat:Int):=cD s i;rw [hb]
  have hd:s.drop i=s.getD i 0::s.drop (i+1):=by
   rw [List.getD_eq_getElem?_getD,List.getElem?_eq_getElem O,ro];exact List.drop_eq_getElem_cons O
  rw [hd,List.flatMap_cons];have he:=zE (s.getD i 0);generalize s.getD i 0=b at he ⊢;refine aj _ (Mw b) (ag O (ag aB ?_));have:=ih (i+1) (f++oJ b) O vg;rw [Int.natCast_add,Int.natCast_one] at this;simpa using this
theorem Q4 (s:Bytes)(hs:s.length<=1000000000):Ev2 (λ n _=>sN n s) (·=Ko s):=by
 simp only [sN];have hf:=Kk s;have l:=Ef s hs s.length 0 [34] O G;rw [List.drop_zero] at l;refine aj _ (aO l) (ag kt (aa ?_));simp [Ko]
theorem SI:(List.range 256).all (λ n=>lU (n:Int) == some (match pj (UInt8.ofNat n) with | some d=>(d:Int) | none=>-1))=true:=by kernel_rfl
theorem O1 (b:UInt8):lU (b.toNat:Int)=some (match pj b with | some d=>(d:Int) | none=>-1):=by
 have:=eq_of_beq (py.1 SI b.toNat (List.mem_range.2 b.toNat_lt));simpa using this
theorem getD_drop (s:Bytes)(j i:Nat):(s.drop j).getD i 0=s.getD (j+i) 0:=by
 exact Jt
theorem wF (s:Bytes)(j i:Nat):byt s ((j:Int)+(i:Int))=((s.getD (j+i) 0).toNat:Int):=by
 rw [show (j:Int)+(i:Int)=((j+i:Nat):Int) by omega]; exact cD s (j+i)
theorem drop_at (s:Bytes){i:Nat}(h:i < s.length):s.drop i=s.getD i 0::s.drop (i+1):=by
 exact JN
theorem E5 (s:Bytes)(hs:s.length<=1000000000)(j:Nat)(hj:j<=s.length):∀ (k i a:Nat),i+k=6->j+i<=s.length->a < 16 ^ i->Ev2 (λ _ m=>fp s (j:Int) m (a:Int) (i:Int))
  (·=(((bN k (s.drop (j+i)) a).1:Int),((i+(bN k (s.drop (j+i)) a).2:Nat):Int))):=by
 intro k
 induction k with
 | zero =>
  intro i a hi hl ha;refine aw ?_;simp only [fp];refine aj false ?_ (af G (aa (by simp [bN])));exact ag aB (av (λ h=>af O (aa rfl)) (λ h=>aa rfl))
 | succ k ih =>
  intro i a hi hl ha;refine aw ?_;simp only [fp];rw [wF];have hin:inR ((j:Int)+(i:Int)):=bv O O;by_cases h:j+i < s.length
  ·rw [drop_at s h];generalize s.getD (j+i) 0=b;unfold bN
   cases hh:pj b with
   | none =>
    refine aj false (ag hin (ae O (ae O (ag hin (ag O (aj _ (ax (O1 b) Z) (aa ?_))))))) (af G (aa G));rw [hh]; rfl
   | some d =>
    have hlt:=CF hh;have hp:16 ^ i<=16 ^ 5:=Nat.pow_le_pow_right (by decide) O;have hp5:(16:Nat) ^ 5=1048576:=rfl;refine aj true (ag hin (ae O (ae O (ag hin (ag O (aj _ (ax (O1 b) Z) (aa ?_))))))) ?_
    ·rw [hh]; simp
    refine ae Z (ag aB (ag hin (ag O (aj _ (ax (O1 b) Z) ?_))));rw [hh];simp only;refine ag aB (ag aB ?_);have:=ih (i+1) (16*a+d) O O  (by rw [Nat.pow_succ]; omega);rw [show (((i+1:Nat)):Int)=(i:Int)+1 by omega,show ((16*a+d:Nat):Int)=16*(a:Int)+(d:Int) by omega,<- Nat.add_assoc] at this;exact G5
  ·refine aj false (ag hin ov) (af G (aa ?_));rw [List.drop_of_length_le O];simp [bN]
def shP (j:Int)(p:Int×Int×Int):Int×Int×Int:=if p.2.2=0 then (p.1,j+p.2.1,0) else (0,0,p.2.2)
theorem EK (s:Bytes)(hs:s.length<=1000000000)(j:Nat)(hj:j<=s.length):Ev2 (λ n _=>lc n s (j:Int)) (·=shP (j:Int) (fz (s.drop j))):=by
 simp only [lc];have l:=E5 s hs j hj 6 0 0 rfl O (by decide);rw [Nat.add_zero,Nat.zero_add] at l;have hle:=nH 6 (s.drop j) 0;refine aj _ (aO l) ?_;obtain ⟨v,c,hh⟩:∃ v c,bN 6 (s.drop j) 0=(v,c):=⟨_,_,rfl⟩
 have hP:=C1 hh;rw [hh] at hle ⊢;rw [ld] at hle hP;simp only at hle ⊢;have hin:inR ((j:Int)+(c:Int)):=bv O O;refine ag hin ?_;refine av (λ h=>aa ?_) (λ h=>?_)
 ·rw [hP,if_pos O]; rfl
 rw [if_neg (show ¬ c=s.length - j by omega),getD_drop,getD_drop,Nat.add_zero] at hP;have hb0:byt s (j:Int)=((s.getD j 0).toNat:Int):=cD s j;have h125:(s.getD (j+c) 0).toNat=125↔s.getD (j+c) 0=125:=pc (by decide);have h48:(s.getD j 0).toNat=48↔s.getD j 0=48:=pc (by decide);rw [wF,hb0]
 have hvr:validRune (v:Int)=false↔1114111 < (v:Int)\/(55296<=(v:Int)/\(v:Int)<=57343):=by
  simp only [validRune,decide_eq_false_iff_not]; omega
 have tail:Ev2 (λ _ _=>(if 1114111 < (v:Int) then some true else if 55296<=(v:Int) then some (decide ((v:Int)<=57343)) else some false:Option Bool)) (·=decide (validRune (v:Int)=false)):=by
  refine av (λ h1=>aa ?_) (λ h1=>av (λ h2=>aa (eqB ?_)) (λ h2=>aa ?_))
  ·symm; rw [decide_eq_true_eq,hvr]; exact .inl h1
  ·rw [decide_eq_true_eq,decide_eq_true_eq,hvr]; omega
  ·symm; rw [decide_eq_false_iff_not,hvr]; omega
 refine aj (decide (s.getD (j+c) 0≠125\/c=0\/(1 < c/\s.getD j 0=48)\/validRune (v:Int)=false)) ?_ ?_
 ·refine av (λ h1=>aa ?_) (λ h1=>ag hin (ag O ?_))
  ·symm; rw [decide_eq_true_eq]; right; left; omega
  refine av (λ h2=>?_) (λ h2=>aa ?_)
  ·have q1:¬ s.getD (j+c) 0≠125:=λ q=>q (h125.1 O);have q0:¬ c=0:=by omega
   refine av (λ h3=>ag O (av (λ h4=>aa ?_) (λ h4=>?_))) (λ h3=>?_)
   ·symm; rw [decide_eq_true_eq]; right; right; left; exact ⟨by omega,h48.1 O⟩
   ·have q2:¬ (1 < c/\s.getD j 0=48):=λ q=>h4 (by have:=h48.2 q.2; omega);exact KZ
   ·have q2:¬ (1 < c/\s.getD j 0=48):=λ q=>h3 O;exact KZ
  ·symm; rw [decide_eq_true_eq]; left; intro q; exact h2 (by have:=h125.2 q; omega)
 ·refine av (λ h1=>aa ?_) (λ h1=>ag hin (ag aB (aa ?_)))
  ·rw [hP,if_pos (of_decide_eq_true h1)]; rfl
  ·rw [hP,if_neg (λ q=>h1 (decide_eq_true q))];unfold shP;rw [if_pos rfl];refine Prod.ext rfl (Prod.ext ?_ rfl);show (j:Int)+(c:Int)+1=(j:Int)+((c+1:Nat):Int);omega
theorem u192:(List.range 32).all (λ n=>iOr .i64 192 (n:Int) == ((192+n:Nat):Int))=true:=by kernel_rfl
theorem OW:(List.range 64).all (λ n=>iOr .i64 128 (n:Int) == ((128+n:Nat):Int))=true:=by kernel_rfl
theorem u224:(List.range 16).all (λ n=>iOr .i64 224 (n:Int) == ((224+n:Nat):Int))=true:=by kernel_rfl
theorem u240:(List.range 8).all (λ n=>iOr .i64 240 (n:Int) == ((240+n:Nat):Int))=true:=by kernel_rfl
theorem Cv (u:Nat)(h:u < 4611686018427387904):bH .i64 (u:Int) 63=((u % 64:Nat):Int):=by
 have e1:(BitVec.ofInt 64 (u:Int)).toNat=u:=by rw [BitVec.toNat_ofInt]; omega
 have e2:(BitVec.ofInt 64 (63:Int)).toNat=63:=by rw [BitVec.toNat_ofInt]; omega
 show IntKind.wrap .i64 (((BitVec.ofInt 64 (u:Int)) &&& (BitVec.ofInt 64 (63:Int))).toNat:Nat)=_;rw [BitVec.toNat_and,e1,e2];have:=Nat.and_two_pow_sub_one_eq_mod u 6;rw [show (2:Nat) ^ 6 - 1=63 from rfl,show (2:Nat) ^ 6=64 from rfl] at this;rw [this];exact rN
theorem shw (u k:Nat)(hk:k < 64):cQ .i64 (u:Int) (k:Int)=((u / 2 ^ k:Nat):Int):=by
 show (u:Int).fdiv (2 ^ (min (k:Int).toNat IntKind.i64.bits))=_
 have:min (k:Int).toNat IntKind.i64.bits=k:=by
  have:IntKind.i64.bits=64:=rfl;rw [this]; omega
 rw [this,Int.fdiv_eq_ediv_of_nonneg _ (by exact Int.le_of_lt (Int.pow_pos (by decide)))]
 push_cast; rfl
theorem LN (u:Nat)(h:gj (u:Int)):jL (u:Int)=some (encodeRune (u:Int)):=by
 have h0:(u:Int)<=1114111:=by unfold gj at h; omega
 unfold jL;have s6:cQ .i64 (u:Int) 6=((u / 64:Nat):Int):=shw u 6 (by decide);have s12:cQ .i64 (u:Int) 12=((u / 4096:Nat):Int):=shw u 12 (by decide);have s18:cQ .i64 (u:Int) 18=((u / 262144:Nat):Int):=shw u 18 (by decide);rw [s6,s12,s18,Cv u O,Cv (u / 64) O,Cv (u / 4096) O];have o1:iOr .i64 128 ((u % 64:Nat):Int)=((128+u % 64:Nat):Int):=tab OW _ O;have o2:iOr .i64 128 ((u / 64 % 64:Nat):Int)=((128+u / 64 % 64:Nat):Int):=tab OW _ O;have o3:iOr .i64 128 ((u / 4096 % 64:Nat):Int)=((128+u / 4096 % 64:Nat):Int):=tab OW _ O;rw [o1,o2,o3];have w8:∀ v:Nat,v < 256->IntKind.wrap .u8 (v:Int)=(v:Int):=λ v hv=>by rw [ra]; omega
 have eu:∀ (v:Nat) (w:Int),(v:Int)=w->u8 (v:Int)=w.toNat.toUInt8:=λ v w q=>by rw [<- q]; rfl
 by_cases h1:u < 128
 ·rw [if_pos O,w8 u O,bC O];simp only [encodeRune,encodeRuneZ,if_pos (show 0<=(u:Int)/\(u:Int)<=127 by omega),la,th,u8]
 rw [if_neg O];have n1:¬ (0<=(u:Int)/\(u:Int)<=127):=by omega
 by_cases h2:u < 2048
 ·have p1:iOr .i64 192 ((u / 64:Nat):Int)=((192+u / 64:Nat):Int):=tab u192 _ O;rw [if_pos O,p1,w8 _ O,w8 _ O,bC O,bC O,bC O];simp only [encodeRune,encodeRuneZ,if_neg n1,if_pos (show 128<=(u:Int)/\(u:Int)<=2047 by omega),la,th];rw [eu _ (192+(u:Int) / 64) O,eu _ (128+(u:Int) % 64) O]
 rw [if_neg O];have n2:¬ (128<=(u:Int)/\(u:Int)<=2047):=by omega
 by_cases h3:u < 65536
 ·have p1:iOr .i64 224 ((u / 4096:Nat):Int)=((224+u / 4096:Nat):Int):=tab u224 _ O;rw [if_pos O,p1,w8 _ O,w8 _ O,w8 _ O]
  repeat rw [bC O]
  simp only [encodeRune,encodeRuneZ,if_neg n1,if_neg n2,if_pos (show (2048<=(u:Int)/\(u:Int) < 55296)\/(57343 < (u:Int)/\(u:Int)<=65535) by unfold gj at h; omega),la,th];rw [eu _ (224+(u:Int) / 4096) O,eu _ (128+(u:Int) / 64 % 64) O,eu _ (128+(u:Int) % 64) O]
 ·have p1:iOr .i64 240 ((u / 262144:Nat):Int)=((240+u / 262144:Nat):Int):=tab u240 _ O;rw [if_neg O,p1,w8 _ O,w8 _ O,w8 _ O,w8 _ O]
  repeat rw [bC O]
  simp only [encodeRune,encodeRuneZ,if_neg n1,if_neg n2,if_neg (show ¬ ((2048<=(u:Int)/\(u:Int) < 55296)\/(57343 < (u:Int)/\(u:Int)<=65535)) by omega),if_pos (show 65536<=(u:Int)/\(u:Int)<=1114111 by omega),la,th];rw [eu _ (240+(u:Int) / 262144) O,eu _ (128+(u:Int) / 4096 % 64) O,eu _ (128+(u:Int) / 64 % 64) O,eu _ (128+(u:Int) % 64) O]
theorem we (s:Bytes)(a w:Nat):sub s (a:Int) ((a:Int)+(w:Int))=(s.drop a).take w:=by
 show (s.take ((a:Int)+(w:Int)).toNat).drop (a:Int).toNat=_;rw [show ((a:Int)+(w:Int)).toNat=a+w by omega,Int.toNat_natCast,List.drop_take,Nat.add_sub_cancel_left]
def shE (j:Int)(p:Int×Int×Int):Bytes×Int×Int:=if p.2.2=0 then (encodeRune p.1,j+p.2.1,0) else ([],0,p.2.2)
theorem tI (j v c:Int):shE j (v,c,0)=(encodeRune v,j+c,0):=if_pos Z
theorem LG (j v c e:Int)(h:e≠0):shE j (v,c,e)=([],0,e):=if_neg h
theorem yJ (s:Bytes)(hs:s.length<=1000000000)(i:Nat)(hi:i < s.length):Ev2 (λ n _=>jp n s (i:Int)) (·=shE ((i:Int)+1) (cV (s.drop (i+1)))):=by
 simp only [jp];have i1:inR ((i:Int)+1):=bv O O;have i2:inR ((i:Int)+2):=bv O O;have i3:inR ((i:Int)+3):=bv O O;refine ag i1 ?_;by_cases h1:i+1 < s.length
 ·have hb:byt s ((i:Int)+1)=((s.getD (i+1) 0).toNat:Int):=wF s i 1;have hb2:byt s ((i:Int)+2)=((s.getD (i+2) 0).toNat:Int):=wF s i 2
  have hsub:sub s ((i:Int)+1) ((i:Int)+2)=[s.getD (i+1) 0]:=by
   have:=we s (i+1) 1;rw [show ((i+1:Nat):Int)=(i:Int)+1 by omega,show (i:Int)+1+((1:Nat):Int)=(i:Int)+2 by omega] at this;rw [this,drop_at s h1]; rfl
  have hd2:s.drop (i+1+1)=s.drop (i+2):=rfl;rw [hb,hb2,hsub,drop_at s h1,hd2];generalize s.getD (i+1) 0=b;have hbl:=b.toNat_lt;have hP:=pW b (s.drop (i+2));refine af O (ag i1 (ag O ?_));have two:(i:Int)+2=(i:Int)+1+1:=by omega
  refine av (λ h=>ag i2 (aa ?_)) (λ h1=>?_)
  ·exact Al
  rw [if_neg (show ¬ b.toNat=110 by omega)] at hP;refine av (λ h=>ag i2 (aa ?_)) (λ h2=>?_)
  ·exact Al
  rw [if_neg (show ¬ b.toNat=114 by omega)] at hP;refine av (λ h=>ag i2 (aa ?_)) (λ h3=>?_)
  ·exact Al
  rw [if_neg (show ¬ b.toNat=116 by omega)] at hP;refine aj (decide (b.toNat=34\/b.toNat=92)) ?_ ?_
  ·by_cases h:b.toNat=34
   ·exact AY
   ·exact Am
  by_cases h4:b.toNat=34\/b.toNat=92
  ·rw [if_pos h4] at hP;rw [hP,tI,vJ b O];exact ae (by simp [h4]) (ag i1 (ag i2 (ag O (ag i2 (aa (by rw [two]))))))
  rw [if_neg h4] at hP;refine af (by simp only [decide_eq_true_eq]; exact h4) ?_;refine av (λ h5=>?_) (λ h5=>aa (by rw [hP,if_neg O]; rfl));rw [if_pos (show b.toNat=117 by omega)] at hP;rw [hP];refine ag i2 ?_;by_cases h6:i+2 < s.length
  ·rw [drop_at s h6];have hd3:s.drop (i+2+1)=s.drop (i+3):=rfl;rw [hd3];refine af O (ag i2 (ag O ?_));generalize s.getD (i+2) 0=c;show Ev2 _ (·=shE ((i:Int)+1) (if c.toNat=123 then ((fz (s.drop (i+3))).1,(fz (s.drop (i+3))).2.1+2,(fz (s.drop (i+3))).2.2) else ((0,0,2):Int×Int×Int)));refine av (λ h7=>ag i3 ?_) (λ h7=>aa (by rw [if_neg O]; rfl));rw [if_pos (show c.toNat=123 by omega)];have hpt:=EK s hs (i+3) O;rw [show ((i+3:Nat):Int)=(i:Int)+3 by omega] at hpt;have hle:=xY (s.drop (i+3));generalize fz (s.drop (i+3))=p at hpt hle ⊢;obtain ⟨v,w,e⟩:=p;simp only at hle ⊢;refine aj _ hpt ?_;by_cases he:e=0
   ·subst he;have hr:=hle.2.2.1 rfl;obtain ⟨u,rfl⟩:∃ u:Nat,v=u:=⟨v.toNat,by unfold gj at hr; omega⟩
    rw [show shP ((i:Int)+3) ((u:Int),w,0)=((u:Int),(i:Int)+3+w,0) from if_pos rfl,tI];refine ae rfl (aj _ (ax (LN u hr) rfl) (aa ?_));refine Prod.ext rfl (Prod.ext ?_ rfl);show (i:Int)+3+w=(i:Int)+1+(w+2);omega
   ·rw [show shP ((i:Int)+3) (v,w,e)=(0,0,e) from if_neg he,LG _ _ _ _ he];exact af he (aa rfl)
  ·rw [List.drop_of_length_le (show s.length<=i+2 by omega)];exact sd
 ·rw [List.drop_of_length_le O];exact sd
theorem AZ (b:UInt8)(r:Bytes)(h:128<=b.toNat):128<=(decodeL (b::r)).1:=by
 have hN:=decN (b::r).length ((b::r).getD 0 0).toNat ((b::r).getD 1 0).toNat ((b::r).getD 2 0).toNat ((b::r).getD 3 0).toNat G (UInt8.toNat_lt _);rw [<- decodeL_N] at hN;rcases Nat.lt_or_ge (decodeL (b::r)).1 128 with q | q
 ·have:=(hN.2.2.2.1 q).2;have hb0:((b::r).getD 0 0).toNat=b.toNat:=rfl;omega
 ·exact q
def LL (i:Int)(b:UInt8)(r:Bytes):Bytes×Int×Int :=
 if (decodeL (b::r)).1=92 then shE (i+1) (cV r)
 else if jx (decodeL (b::r)) then ([],0,2)
 else (encodeRune ((decodeL (b::r)).1:Int),i+((decodeL (b::r)).2:Int),0)
theorem LQ (s:Bytes)(hs:s.length<=1000000000)(i:Nat)(b:UInt8)(r:Bytes)(hl:s.drop i=b::r)(hi:i+r.length+1=s.length):Ev2 (λ n _=>lS n s (i:Int)) (·=LL (i:Int) b r):=by
 simp only [lS];have hil:i < s.length:=by omega
 have hd:=drop_at s hil;rw [hl] at hd;have hb:byt s i=(b.toNat:Int):=by rw [cD,<- (qr hd).1]
 have hr:s.drop (i+1)=r:=(qr hd).2.symm;rw [hb];have hbl:=b.toNat_lt;unfold LL;refine ag O ?_;by_cases h92:b.toNat=92
 ·have e:decodeL (b::r)=(b.toNat,1):=decodeL_ascii b r O;rw [e,if_pos h92];have:=yJ s hs i hil;rw [hr] at this;exact ae O (aj _ this (aa Z))
 ·have hdec:=ug s i hil hs;rw [hl] at hdec;have hdf:=iA (b::r) G
  have hc:((decodeL (b::r)).1=b.toNat/\(decodeL (b::r)).2=1/\b.toNat < 128)\/(128<=(decodeL (b::r)).1/\128<=b.toNat):=by
   rcases Nat.lt_or_ge b.toNat 128 with q | q
   ·left; rw [decodeL_ascii b r q]; exact ⟨Z,Z,q⟩
   ·right; exact ⟨AZ b r q,q⟩
  refine af O (aj _ (ax hdec rfl) ?_);unfold Mz;generalize hD:decodeL (b::r)=D at hdf hc ⊢;obtain ⟨c,w⟩:=D;simp only at hdf hc ⊢;rw [if_neg (show ¬ c=92 by omega)];simp only [aq] at hdf;by_cases hbad:c=65533/\w=1
  ·rw [if_pos hbad,if_pos (show jx (c,w) from .inl hbad)];exact aj true u5 u5
  ·rw [if_neg hbad];have hgood:=hdf.2.2 hbad;refine aj (decide (jx (c,w))) ?_ ?_
   ·refine af pr (ag O (av (λ h=>aa ?_) (λ h=>ag O (aa (eqB ?_)))))
    ·symm; rw [decide_eq_true_eq]; unfold jx; simp only; omega
    ·rw [decide_eq_true_eq,decide_eq_true_eq]; unfold jx; simp only; omega
   ·refine av (λ h=>aa (by rw [if_pos (of_decide_eq_true h)])) (λ h=>?_);rw [if_neg (λ q=>h (decide_eq_true q))];have hin:inR ((i:Int)+(w:Int)):=bv O O;refine ag hin (ag pr (ag hin (aa ?_)));simp only;rw [we,hl,hgood.2]
theorem M5 (s:Bytes)(hs:s.length<=1000000000):∀ (k i:Nat),i+k=s.length->Ev2 (λ _ m=>ew s m (i:Int)) (·=if kq (λ j=>d3 (s.getD j 0)) i k then .inl () else .inr false):=by
 intro k
 induction k with
 | zero =>
  intro i hi;refine aw ?_;simp only [ew];exact ut
 | succ k ih =>
  intro i hi;refine aw ?_;simp only [ew];have hb:byt s i=((s.getD i 0).toNat:Int):=cD s i;rw [hb];refine ae O (aj (!d3 (s.getD i 0)) ?_ ?_)
  ·exact Hv
  ·cases hk:d3 (s.getD i 0) with
   | false=>exact ae Z (aa (by simp only [kq,hk,Bool.false_and]; rfl))
   | true =>
    exact Bv
theorem LJ (s:Bytes)(hs:s.length<=1000000000):Ev2 (λ n _=>jK n s) (·=pk s):=by
 simp only [jK];have l:=M5 s hs s.length 0 O;rw [zr] at l;have hc:=jJ s;have hb:byt s 0=((s.getD 0 0).toNat:Int):=cD s 0;have h48:(s.getD 0 0).toNat=48↔s.getD 0 0=48:=pc (by decide)
 cases ha:s.all d3 with
 | false =>
  rw [ha] at l hc;refine iC false (aO l) (eqB ?_);rw [hc]; simp
 | true =>
  rw [ha] at l hc;refine ez () (aO l) (ah (·=pk s) ?_ (λ x hx=>aa hx));refine av (λ h=>aa (eqB ?_)) (λ h0=>av (λ h=>aa (eqB ?_)) (λ h=>ag ?_ (aa (eqB ?_))))
  ·rw [hc,h]; simp
  ·rw [hc]; simp [h]
  ·have:=List.length_pos_iff.2 h; omega
  ·rw [hb,hc,Bool.not_eq_true',decide_eq_false_iff_not];constructor
   ·intro q; exact ⟨h,rfl,.inl λ z=>q (by have:=h48.2 z; omega)⟩
   ·rintro ⟨_,_,q | q⟩
    ·intro z; exact q (h48.1 O)
    ·intro z;obtain ⟨b,hb1⟩:=List.length_eq_one_iff.1 q;have h3:=h48.1 O;rw [hb1] at h3;exact h0 (by rw [hb1]; exact congrArg (λ x=>[x]) h3)
def AB (l:Bytes):Int×Int:=if pk l=true then (if l.length<=16/\gu 0 l<=9007199254740992 then ((gu 0 l:Int),0) else (0,5)) else (0,2)
theorem wT:∀ (l:Bytes) (a:Nat),l.all d3=true->gu a l < (a+1)*10 ^ l.length
 | [],a,_=>by simp [n0]
 | b::r,a,h=>by
  have hb:=nb h (b:=b) List.mem_cons_self
  have hr:r.all d3=true:=by
   rw [py] at h ⊢;exact λ x hx=>h x (List.mem_cons_of_mem _ hx)
  have:=wT r (a*10+(b.toNat - 48)) hr;rw [pJ,aq,Nat.pow_succ];have h2:a*10+(b.toNat - 48)+1<=(a+1)*10:=by omega
  have h3:=Nat.mul_le_mul_right (10 ^ r.length) h2;have h4:(a+1)*10*10 ^ r.length=(a+1)*(10 ^ r.length*10):=by rw [Nat.mul_assoc,Nat.mul_comm 10]
  omega
theorem MG (s:Bytes)(hs:s.length<=16)(hd:s.all d3=true):∀ (k i:Nat),i+k=s.length->Ev2 (λ _ m=>fh s m (gu 0 (s.take i):Int) (i:Int)) (·=(gu 0 s:Int)):=by
 intro k
 induction k with
 | zero =>
  intro i hi;refine aw ?_;simp only [fh];refine af O (aa ?_);rw [List.take_of_length_le O]
 | succ k ih =>
  intro i hi;refine aw ?_;simp only [fh];have hil:i < s.length:=by omega
  have hb:byt s i=((s.getD i 0).toNat:Int):=cD s i
  have hm:s.getD i 0∈s:=by
   rw [List.getD_eq_getElem?_getD,List.getElem?_eq_getElem hil,ro]; exact List.getElem_mem hil
  have hdig:=nb hd hm
  have ht:s.take (i+1)=s.take i++[s.getD i 0]:=by
   rw [List.take_add_one,List.getElem?_eq_getElem hil,List.getD_eq_getElem?_getD,List.getElem?_eq_getElem hil]; rfl
  have hall:(s.take i).all d3=true:=by
   rw [py] at hd ⊢;exact λ x hx=>hd x (List.mem_of_mem_take hx)
  have hlt:=wT (s.take i) 0 hall;rw [List.length_take] at hlt;have hp:10 ^ min i s.length<=10 ^ 15:=Nat.pow_le_pow_right (by decide) O;have hp15:(10:Nat) ^ 15=1000000000000000:=rfl;have:=ih (i+1) O;rw [ht,rS] at this;rw [hb];generalize s.getD i 0=b at hdig this;generalize gu 0 (s.take i)=v at hlt this;have hw:IntKind.wrap .u8 ((b.toNat:Int) - 48)=((b.toNat - 48:Nat):Int):=by rw [ra]; omega
  rw [hw];refine ae O (ag aB (ag O (ag aB (ag aB (ag aB ?_)))));rw [show ((v*10+(b.toNat - 48):Nat):Int)=10*(v:Int)+((b.toNat - 48:Nat):Int) by omega,show ((i+1:Nat):Int)=(i:Int)+1 by omega] at this;exact this
theorem Mt (s:Bytes)(hs:s.length<=1000000000)(hd:s.all d3=true):Ev2 (λ n _=>lm n s) (·=AB s):=by
 simp only [lm]
 have hneg:¬ (0 < s.length/\byt s 0=45):=by
  rintro ⟨h1,h2⟩;have hb:byt s 0=((s.getD 0 0).toNat:Int):=cD s 0
  have hm:s.getD 0 0∈s:=by
   rw [List.getD_eq_getElem?_getD,List.getElem?_eq_getElem h1,ro]; exact List.getElem_mem h1
  have:=nb hd hm;omega
 refine aj false ?_ ?_
 ·refine av (λ h=>ag O (aa ?_)) (λ h=>aa Z);rw [decide_eq_false_iff_not]; intro q; exact hneg ⟨by omega,q⟩
 refine aj s og ?_;unfold AB;refine aj (!pk s) ?_ ?_
 ·refine aj _ (LJ s hs) ?_
  cases pk s with
  | false=>exact ae Z (aa Z)
  | true=>exact af G (af G (aa Z))
 cases hc:pk s with
 | false=>exact ae Z (aa G)
 | true =>
  refine af G ?_;rw [if_pos Z];refine av (λ h=>aa (by rw [if_neg O])) (λ h=>?_);have l:=MG s O hd s.length 0 O;rw [List.take_zero,n0] at l;have hlt:=wT s 0 hd;have hp:10 ^ s.length<=10 ^ 16:=Nat.pow_le_pow_right (by decide) O;have hp16:(10:Nat) ^ 16=10000000000000000:=rfl;refine aj _ (aO l) (aj _ og (aj (decide (gu 0 s<=9007199254740992)) ?_ ?_))
  ·simp only [jG];refine ah (·=decide (gu 0 s<=9007199254740992)) (ae O (aa (eqB ?_))) (λ t ht=>aa ht);rw [decide_eq_true_eq,decide_eq_true_eq]; omega
  ·by_cases hv:gu 0 s<=9007199254740992
   ·exact af (by simp [hv]) (aa (by rw [if_pos ⟨by omega,hv⟩]))
   ·exact ae (by simp [hv]) (aa (by rw [if_neg (λ q=>hv q.2)]))
theorem E3 {v:Int}(h0:0<=v)(h1:v<=iw):AB (itoa v)=(v,0):=by
 have hl:=IJ h0 h1;obtain ⟨u,rfl⟩:∃ u:Nat,v=u:=⟨v.toNat,by omega⟩
 have e:itoa (u:Int)=decDigits u:=by unfold itoa; rw [if_neg O]; simp
 rw [e] at hl ⊢;have hd:=Do (u+1) u O;unfold AB;rw [if_pos ((jJ _).2 ⟨hd.2.2.1,hd.2.1,hd.2.2.2.1⟩),hd.1,if_pos ⟨hl,by unfold iw at h1; omega⟩]
end Go.Ab.R06
end
section
namespace Go.Ab
set_option autoImplicit false
inductive am.Bd:am->Prop where
 | mk {x:am} (bKind:inR x.Ar) (bNum:inR x.E') (bStr:x.If.length<=iT) (bItems:x.Df.length*80<=iT) (eItems:∀ y∈x.Df,am.Bd y) (bKeys:x.C'.length*16<=iT) (eKeys:∀ y∈x.C',y.length<=iT):am.Bd x
theorem am.Bd.bKind {x:am}(h:am.Bd x):inR x.Ar:=by cases h; assumption
theorem am.Bd.bNum {x:am}(h:am.Bd x):inR x.E':=by cases h; assumption
theorem am.Bd.bStr {x:am}(h:am.Bd x):x.If.length<=iT:=by cases h; assumption
theorem am.Bd.bItems {x:am}(h:am.Bd x):x.Df.length*80<=iT:=by cases h; assumption
theorem am.Bd.eItems {x:am}(h:am.Bd x):∀ y∈x.Df,am.Bd y:=by cases h; assumption
theorem am.Bd.bKeys {x:am}(h:am.Bd x):x.C'.length*16<=iT:=by cases h; assumption
theorem am.Bd.eKeys {x:am}(h:am.Bd x):∀ y∈x.C',y.length<=iT:=by cases h; assumption
inductive ad.Bd:ad->Prop where
 | mk {x:ad} (bKind:inR x.Ar) (bOp:inR x.fOp) (bName:x.AI.length<=iT) (bKey:x.Gw.length<=iT) (bValue:am.Bd x.A') (bKids:x.By.length*160<=iT) (eKids:∀ y∈x.By,ad.Bd y) (bAt:inR x.fAt):ad.Bd x
theorem ad.Bd.bKind {x:ad}(h:ad.Bd x):inR x.Ar:=by cases h; assumption
theorem ad.Bd.bOp {x:ad}(h:ad.Bd x):inR x.fOp:=by cases h; assumption
theorem ad.Bd.bName {x:ad}(h:ad.Bd x):x.AI.length<=iT:=by cases h; assumption
theorem ad.Bd.bKey {x:ad}(h:ad.Bd x):x.Gw.length<=iT:=by cases h; assumption
theorem ad.Bd.bValue {x:ad}(h:ad.Bd x):am.Bd x.A':=by cases h; assumption
theorem ad.Bd.bKids {x:ad}(h:ad.Bd x):x.By.length*160<=iT:=by cases h; assumption
theorem ad.Bd.eKids {x:ad}(h:ad.Bd x):∀ y∈x.By,ad.Bd y:=by cases h; assumption
theorem ad.Bd.bAt {x:ad}(h:ad.Bd x):inR x.fAt:=by cases h; assumption
inductive ao.Bd:ao->Prop where
 | mk {x:ao} (bKind:inR x.Ar) (bAt:inR x.fAt) (bName:x.AI.length<=iT):ao.Bd x
theorem ao.Bd.bKind {x:ao}(h:ao.Bd x):inR x.Ar:=by cases h; assumption
theorem ao.Bd.bAt {x:ao}(h:ao.Bd x):inR x.fAt:=by cases h; assumption
theorem ao.Bd.bName {x:ao}(h:ao.Bd x):x.AI.length<=iT:=by cases h; assumption
inductive bX.Bd:bX->Prop where
 | mk {x:bX} (bcount:inR x.fcount):bX.Bd x
theorem bX.Bd.bcount {x:bX}(h:bX.Bd x):inR x.fcount:=by cases h; assumption
inductive ac.Bd:ac->Prop where
 | mk {x:ac} (bKind:inR x.Ar) (bText:x.B'.length<=iT) (bAt:inR x.fAt):ac.Bd x
theorem ac.Bd.bKind {x:ac}(h:ac.Bd x):inR x.Ar:=by cases h; assumption
theorem ac.Bd.bText {x:ac}(h:ac.Bd x):x.B'.length<=iT:=by cases h; assumption
theorem ac.Bd.bAt {x:ac}(h:ac.Bd x):inR x.fAt:=by cases h; assumption
inductive ai.Bd:ai->Prop where
 | mk {x:ai} (bL:x.fL.length*32<=iT) (eL:∀ y∈x.fL,ac.Bd y) (bI:inR x.fI) (bIn:inR x.fIn) (bD:ao.Bd x.fD):ai.Bd x
theorem ai.Bd.bL {x:ai}(h:ai.Bd x):x.fL.length*32<=iT:=by cases h; assumption
theorem ai.Bd.eL {x:ai}(h:ai.Bd x):∀ y∈x.fL,ac.Bd y:=by cases h; assumption
theorem ai.Bd.bI {x:ai}(h:ai.Bd x):inR x.fI:=by cases h; assumption
theorem ai.Bd.bIn {x:ai}(h:ai.Bd x):inR x.fIn:=by cases h; assumption
theorem ai.Bd.bD {x:ai}(h:ai.Bd x):ao.Bd x.fD:=by cases h; assumption
inductive ar.Bd:ar->Prop where
 | mk {x:ar} (bs:x.fs.length<=iT) (bat:inR x.fat) (bi:inR x.fi) (bfrom:inR x.D') (btext:x.F'.length<=iT) (bparts:x.BY.length*160<=iT) (eparts:∀ y∈x.BY,ad.Bd y):ar.Bd x
theorem ar.Bd.bs {x:ar}(h:ar.Bd x):x.fs.length<=iT:=by cases h; assumption
theorem ar.Bd.bat {x:ar}(h:ar.Bd x):inR x.fat:=by cases h; assumption
theorem ar.Bd.bi {x:ar}(h:ar.Bd x):inR x.fi:=by cases h; assumption
theorem ar.Bd.bfrom {x:ar}(h:ar.Bd x):inR x.D':=by cases h; assumption
theorem ar.Bd.btext {x:ar}(h:ar.Bd x):x.F'.length<=iT:=by cases h; assumption
theorem ar.Bd.bparts {x:ar}(h:ar.Bd x):x.BY.length*160<=iT:=by cases h; assumption
theorem ar.Bd.eparts {x:ar}(h:ar.Bd x):∀ y∈x.BY,ad.Bd y:=by cases h; assumption
inductive al.Bd:al->Prop where
 | mk {x:al} (bl:x.fl.length*32<=iT) (el:∀ y∈x.fl,ac.Bd y) (bat:inR x.fat) (bnest:inR x.H') (bbase:inR x.G') (bbad:ao.Bd x.AT):al.Bd x
theorem al.Bd.bl {x:al}(h:al.Bd x):x.fl.length*32<=iT:=by cases h; assumption
theorem al.Bd.el {x:al}(h:al.Bd x):∀ y∈x.fl,ac.Bd y:=by cases h; assumption
theorem al.Bd.bat {x:al}(h:al.Bd x):inR x.fat:=by cases h; assumption
theorem al.Bd.bnest {x:al}(h:al.Bd x):inR x.H':=by cases h; assumption
theorem al.Bd.bbase {x:al}(h:al.Bd x):inR x.G':=by cases h; assumption
theorem al.Bd.bbad {x:al}(h:al.Bd x):ao.Bd x.AT:=by cases h; assumption
end Go.Ab
end
section
namespace Go.Ab.R06
open Go.Ab Go.Ab.RB Go.Lib
section
variable {p:Prop}
theorem JU (h:p:=by
 by_cases a:k=3
 ·simp [a]
 by_cases b:k=4
 ·simp [b]
 by_cases c:k=9
 ·simp [c]
 by_cases d:k=12
 ·simp [d]
 simp [a,b,c,d]):p:=h
theorem KW (h:p:=by
 have hn:¬ (e.Ar=3\/e.Ar=4\/e.Ar=9\/e.Ar=12\/e.Ar=13):=λ k=>hn (decide_eq_true k)
 simp only [hn,false_and,decide_false]):p:=h
theorem wH (h:p:=by
 have hi:fm e.AI=true:=by simpa using hi
 simp [hi,h4]):p:=h
theorem FG (h:p:=by
 refine av (λ hq=>aa (by rw [if_pos (of_decide_eq_true hq)])) (λ hq=>aa ?_)
 rw [if_neg (λ k=>hq (decide_eq_true k))]):p:=h
theorem Ij (h:p:=by
 have:rO v:=Classical.byContradiction λ k=>by rw [hi.2 k] at h; simp at h
 rw [ym this]):p:=h
theorem FO (h:p:=by
 have hk:v.Ar=0\/v.Ar=1\/v.Ar=2\/v.Ar=3:=by omega
 clear h0 h3
 rcases hk with h | h | h | h <;> by_cases a:v.E'=0 <;> by_cases b:v.E'=1 <;> by_cases c:v.If=[] <;> by_cases d:v.Df=[] <;> by_cases e:v.C'=[] <;> simp [h,a,b,c,d,e,LD,Hr,Pf,Qb]):p:=h
theorem Bp (h:p:=by exact af (by decide) (aa Z)):p:=h
theorem u3 (h:p:=by exact C0 O):p:=h
end
theorem qL {P:Int->Prop}{i:Nat}(h:P ((i+1:Nat):Int)):P ((i:Int)+1):=by rwa [Int.natCast_add,Int.natCast_one] at h
theorem uX {α:Type} [Inhabited α] (l:List α){i:Nat}(h:i < l.length):l.drop i=lat l (i:Int)::l.drop (i+1):=by
 rw [mW l i h]; exact List.drop_eq_getElem_cons h
theorem w6 (s:Bytes):ei s=some (kR s):=by
 unfold ei kR PU;exact JA
def rO (v:am):Prop:=v.Ar=1/\v.E'≠0/\v.E'≠1\/v.Ar≠1/\v.Ar≠2/\v.E'≠0\/v.Ar≠3/\v.If≠[]\/v.Df≠[]\/v.C'≠[]
theorem LD {α:Type}(l:List α):(0 < (l.length:Int))↔l≠[]:=by rw [<- List.length_pos_iff]; omega
theorem Hr {α:Type}(l:List α):((l.length:Int)=0)↔l=[]:=by rw [<- List.length_eq_zero_iff]; omega
theorem Eb (v:am)(h0:0<=v.Ar)(h3:v.Ar<=3):∃ b,j2 v=some b/\(b=true↔¬ rO v):=by
 unfold j2 rO;exact FO
theorem DZ (v:am)(h0:0<=v.Ar)(h3:v.Ar<=3):∃ b,j7 v=some b/\(b=true↔¬ rO v):=by
 unfold j7 rO;exact FO
theorem ym {v:am}(h:rO v):vB v=1:=if_pos h
theorem vW {v:am}(h:¬ rO v):vB v=if v.Ar=2/\¬ (-iw<=v.E'/\v.E'<=iw) then 5 else if v.Ar=3/\4096 < v.If.length then 3 else if v.Ar=3/\validD v.If=false then 1 else 0:=if_neg h
def wP (s:Bytes):Int:=if 4096 < s.length then 3 else if validD s=false then 1 else 0
theorem Qo (s:Bytes):ku s=some (wP s):=by
 unfold ku wP;by_cases h:4096 < s.length
 ·rw [if_pos O,if_pos h]
 ·rw [if_neg O,if_neg h,OL,cl];have:decide (s.length<=4096)=true:=by rw [decide_eq_true_eq]; omega
  rw [this,Bool.true_and]
  cases validD s <;> rfl
theorem OT (s:Bytes):Ev2 (λ n _=>jv n s) (·=wP s):=by
 simp only [jv];unfold wP;refine av (λ h=>aa (by rw [if_pos O])) (λ h=>?_);rw [if_neg (show ¬ 4096 < s.length by omega)];refine aj _ (En s O) ?_;have:decide (s.length<=4096)=true:=by rw [decide_eq_true_eq]; omega
 rw [this,Bool.true_and]
 cases validD s with
 | true=>exact af (by decide) (aa Z)
 | false=>exact ae (by decide) (aa Z)
theorem Dw:wP []=0:=by unfold wP; rw [if_neg (by decide)]; rfl
theorem LB (v:am)(h0:0<=v.Ar)(h3:v.Ar<=3):Ev2 (λ n _=>mt n v) (·=vB v):=by
 obtain ⟨b,hb,hi⟩:=Eb v h0 h3;simp only [mt];refine aj _ (ax hb rfl) (av (λ h=>aa ?_) (λ h=>?_))
 ·exact Ij
 ·have hg:¬ rO v:=hi.1 nt;rw [vW hg];by_cases h2:v.Ar=2
  ·simp only [h2,if_true,true_and];by_cases hv:-iw<=v.E'/\v.E'<=iw
   ·refine ez () (aj _ (ax (xu _) Z) (af (by simp [hv]) (aa Z))) (aa ?_);rw [if_neg (by simpa using hv),if_neg O,if_neg O]
   ·refine iC 5 (aj _ (ax (xu _) Z) (ae (by simp [hv]) (aa Z))) ?_;rw [if_pos hv]
  ·by_cases h5:v.Ar=3
   ·refine iC (wP v.If) (af h2 (ae h5 (aj _ (ax (Qo _) Z) (aa Z)))) ?_;rw [if_neg O]; unfold wP; simp only [h5,true_and]
   ·refine ez () (af h2 (af h5 ov)) (aa ?_);rw [if_neg O,if_neg O,if_neg O]
theorem Ls (v:am)(h0:0<=v.Ar)(h3:v.Ar<=3):Ev2 (λ n _=>lW n v) (·=vB v):=by
 obtain ⟨b,hb,hi⟩:=DZ v h0 h3;simp only [lW];refine aj _ (ax hb rfl) (av (λ h=>aa ?_) (λ h=>?_))
 ·exact Ij
 ·have hg:¬ rO v:=hi.1 nt;rw [vW hg];have nv:jG v.E'=some (decide (-iw<=v.E'/\v.E'<=iw)):=xu v.E';have tail:v.C'=[]:=by unfold rO at hg; simp only [not_or] at hg; exact Classical.not_not.1 hg.2.2.2.2
  have str:v.Ar≠3->v.If=[]:=λ k=>by unfold rO at hg; simp only [not_or] at hg; exact Classical.byContradiction λ q=>hg.2.2.1 ⟨k,q⟩
  have last:Ev2 (λ n _=>(jv n v.If).bind λ r9=>if r9=0 then jn (fT n v n 0) λ _=>some 0 else some r9) (·=wP v.If):=by
   refine aj _ (OT _) (av (λ h=>?_) (λ h=>aa Z));refine ez () (aO (f:=λ n m=>fT n v m 0) (aw ?_)) (aa h.symm);simp only [fT];exact af (by rw [tail]; decide) (aa Z)
  by_cases h2:v.Ar=2
  ·simp only [h2,if_true,true_and];refine aj (!decide (-iw<=v.E'/\v.E'<=iw)) (aj _ (ax nv rfl) (aa rfl)) (av (λ h=>aa ?_) (λ h=>?_))
   ·rw [if_pos (λ k=>by rw [decide_eq_true k] at h; exact absurd h (by decide))]
   ·rw [if_neg (show ¬ ¬ (-iw<=v.E'/\v.E'<=iw) from λ k=>h (by rw [decide_eq_false k]; rfl)),if_neg O,if_neg O];rw [str O,Dw] at last;rw [str O];exact last
  ·refine aj false (af h2 (aa Z)) (af (by decide) ?_);rw [if_neg O];by_cases h5:v.Ar=3
   ·simp only [h5,true_and]; exact last
   ·rw [if_neg O,if_neg O];rw [str h5,Dw] at last;rw [str h5];exact last
theorem uM {v:am}(h:vB v=0):v.Df=[]:=by
 have hg:¬ rO v:=λ k=>by rw [ym k] at h; cases h
 unfold rO at hg; simp only [not_or] at hg; exact Classical.not_not.1 hg.2.2.2.1
theorem JJ (v:am)(h0:0<=v.Ar)(h3:v.Ar<=3):Ev2 (λ n _=>kM n v) (·=vB v):=by
 simp only [kM];refine ah (λ r=>r.1=vB v) (aP ?_) (λ r hr=>aa hr);simp only [ga];refine af (by decide) (af (by decide) (ag (by decide) (aj _ (LB v h0 h3) (av (λ h=>?_) (λ h=>aa rfl)))));refine ez 1 (aO (f:=λ n m=>eJ (ga n) v 1 m 0 (0+1)) (aw ?_)) (aa h.symm);simp only [eJ];exact af (by rw [uM h]; decide) (aa rfl)
theorem Iq (v:am)(h0:0<=v.Ar)(h3:v.Ar<=3):Ev2 (λ n _=>kU n v) (·=vB v):=by
 simp only [kU];refine ah (λ r=>r.1=vB v) (aP ?_) (λ r hr=>aa hr);simp only [ic];refine af (by decide) (af (by decide) (aj _ (Ls v h0 h3) (av (λ h=>ag (by decide) ?_) (λ h=>aa rfl))));refine ez 1 (aO (f:=λ n m=>gp (ic n) v 1 m (0+1) 0) (aw ?_)) (aa h.symm);simp only [gp];exact af (by rw [uM h]; decide) (aa rfl)
theorem LU (k:Int):jz k=some (decide (k=3\/k=4\/k=9\/k=12\/k=13)):=by
 unfold jz km;exact JU
theorem x5 (k:Int):ij k=some (decide (k=3\/k=4\/k=9\/k=12\/k=13)):=by
 unfold ij ir;exact JU
section
variable {α β:Type}
theorem BS {p:Prop} [Decidable p] {a b:Option α}(h1:p->∃ r,a=some r)(h2:¬p->∃ r,b=some r):∃ r,(if p then a else b)=some r:=by
 exact GK
theorem xn {g:Option β}{k:β->Option α}(h:∃ r,g=some r)(hk:∀ x,∃ r,k x=some r):∃ r,g.bind k=some r:=by
 obtain ⟨x,rfl⟩:=h;exact hk x
theorem Jo {p:Prop} [Decidable p] {a:Option α}(hp:p)(h:∃ r,a=some r):∃ r,ck p a=some r:=by rw [bC hp]; exact h
end
theorem Kl (k:Int):∃ r,ir k=some r:=by unfold ir; repeat' (first | exact ⟨_,rfl⟩ | refine xn ?_ (λ _=>?_) | refine BS (λ _=>?_) (λ _=>?_) | refine Jo (by decide) ?_)
theorem Oo (k n:Int):∃ r,iq k n=some r:=by unfold iq; repeat' (first | exact ⟨_,rfl⟩ | exact Kl _ | exact ⟨_,x5 _⟩ | refine xn ?_ (λ _=>?_) | refine BS (λ _=>?_) (λ _=>?_) | refine Jo (by decide) ?_)
theorem AU (e:ad):∃ r,fQ e=some r:=by unfold fQ; repeat' (first | exact ⟨_,rfl⟩ | exact Kl _ | exact ⟨_,x5 _⟩ | exact Oo _ _ | exact NS _ | refine xn ?_ (λ _=>?_) | refine BS (λ _=>?_) (λ _=>?_) | refine Jo (by decide) ?_)
inductive VSz:am->Prop where
 | mk {x:am} (v:x.Df.length+x.C'.length<=1000000000000000) (sub:∀ y∈x.Df,VSz y):VSz x
theorem VSz.v {x:am}(h:VSz x):x.Df.length+x.C'.length<=1000000000000000:=by cases h; assumption
theorem BX {k n:Int}{s:Bytes}:VSz (.mk k n s [] []):=.mk (rg _) (λ _ h=>by cases h)
inductive Sz:ad->Prop where
 | mk {x:ad} (n:x.AI.length<=1000000000000000) (k:x.Gw.length<=1000000000000000) (w:VSz x.A') (c:x.By.length<=1000000000000000) (kids:∀ y∈x.By,Sz y):Sz x
theorem Sz.n {x:ad}(h:Sz x):x.AI.length<=1000000000000000:=by cases h; assumption
theorem Sz.k {x:ad}(h:Sz x):x.Gw.length<=1000000000000000:=by cases h; assumption
theorem Sz.w {x:ad}(h:Sz x):VSz x.A':=by cases h; assumption
theorem Sz.v {x:ad}(h:Sz x):x.A'.Df.length+x.A'.C'.length<=1000000000000000:=h.w.v
theorem Sz.kids {x:ad}(h:Sz x):∀ y∈x.By,Sz y:=by cases h; assumption
theorem uD {e:ad}(hb:Sz e):fQ e=some (xI e):=by
 have h:=wg e hb.v;obtain ⟨r,hr⟩:=AU e;unfold xI;rw [h,hr]; rfl
theorem Hc {e:ad}(hb:Sz e):iM e=some (xI e):=by
 rw [wg e hb.v,uD hb]
theorem rf {e:ad}(hb:Sz e)(h:xI e=true)(hk:e.Ar=1):0<=e.A'.Ar/\e.A'.Ar<=3:=by
 have h1:=uD hb;rw [h] at h1;unfold fQ at h1;generalize (Option.bind (iq e.Ar (e.By.length:Int)) _:Option Bool)=o at h1
 cases o with
 | none=>cases h1
 | some t =>
  cases t with
  | true=>cases h1
  | false =>
   simp only [cl,Bool.false_eq_true,if_false,hk,if_true] at h1;by_cases a:e.fOp=0
   ·by_cases b:e.A'.Ar=0
    ·omega
    ·by_cases c:e.A'.Ar=1
     ·omega
     ·by_cases d:e.A'.Ar=3
      ·omega
      ·by_cases f:e.A'.Ar=2
       ·omega
       ·simp [a,b,c,d,f] at h1
   ·simp [a] at h1
theorem Qe {e:ad}(hb:Sz e):Ev2 (λ n _=>nJ n e) (·=p9 e):=by
 have b1:=hb.n;have b2:=hb.k;simp only [nJ];unfold p9;refine aj _ (ax (Hc hb) Z) (av (λ h=>aa (by rw [if_pos nt])) (λ h=>?_));have h:xI e=true:=by simpa using h
 rw [if_neg (show ¬ xI e=false by rw [h]; decide)];refine av (λ hk=>?_) (λ hk=>?_)
 ·rw [if_pos hk];exact aj _ (JJ _ (rf hb h hk).1 (rf hb h hk).2) (aa rfl)
 rw [if_neg hk];refine aj (decide ((e.Ar=3\/e.Ar=4\/e.Ar=9\/e.Ar=12\/e.Ar=13)/\(fm e.AI=false\/e.Ar≠4/\kR e.AI=true))) ?_ ?_
 ·refine aj _ (ax (LU _) Z) (av (λ hn=>?_) (λ hn=>aa ?_))
  ·have hn:=of_decide_eq_true hn;rw [show decide ((e.Ar=3\/e.Ar=4\/e.Ar=9\/e.Ar=12\/e.Ar=13)/\(fm e.AI=false\/e.Ar≠4/\kR e.AI=true))=decide (fm e.AI=false\/e.Ar≠4/\kR e.AI=true) by simp only [hn,true_and]];refine aj _ (yK _ O) (av (λ hi=>aa ?_) (λ hi=>av (λ h4=>aa ?_) (λ h4=>aj _ uH (aa ?_))))
   ·have hi:fm e.AI=false:=by simpa using hi
    simp [hi]
   ·exact wH
   ·exact wH
  ·exact KW
 ·refine av (λ hq=>aa (by rw [if_pos (of_decide_eq_true hq)])) (λ hq=>?_);rw [if_neg (λ k=>hq (decide_eq_true k))];refine aj (decide (e.Gw≠[]/\(fm e.Gw=false\/kR e.Gw=true))) ?_ ?_
  ·refine av (λ hk=>aa (by simp [hk])) (λ hk=>?_);refine aj _ (yK _ O) (av (λ hi=>aa ?_) (λ hi=>aj _ uH (aa ?_)))
   ·have hi:fm e.Gw=false:=by simpa using hi
    simp [hi,hk]
   ·have hi:fm e.Gw=true:=by simpa using hi
    simp [hi,hk]
  ·exact FG
theorem P0 {e:ad}(hb:Sz e):Ev2 (λ n _=>mB n e) (·=p9 e):=by
 have b1:=hb.n;have b2:=hb.k;simp only [mB];unfold p9;refine aj _ (ax (uD hb) Z) (av (λ h=>aa (by rw [if_pos nt])) (λ h=>?_));have h:xI e=true:=by simpa using h
 rw [if_neg (show ¬ xI e=false by rw [h]; decide)];refine av (λ hk=>?_) (λ hk=>?_)
 ·rw [if_pos hk];exact aj _ (Iq _ (rf hb h hk).1 (rf hb h hk).2) (aa rfl)
 rw [if_neg hk];refine aj (decide ((e.Ar=3\/e.Ar=4\/e.Ar=9\/e.Ar=12\/e.Ar=13)/\(fm e.AI=false\/e.Ar≠4/\kR e.AI=true))) ?_ ?_
 ·refine aj _ (ax (x5 _) Z) (av (λ hn=>?_) (λ hn=>aa ?_))
  ·have hn:=of_decide_eq_true hn;rw [show decide ((e.Ar=3\/e.Ar=4\/e.Ar=9\/e.Ar=12\/e.Ar=13)/\(fm e.AI=false\/e.Ar≠4/\kR e.AI=true))=decide (fm e.AI=false\/e.Ar≠4/\kR e.AI=true) by simp only [hn,true_and]];refine aj _ (wl _ O) (av (λ hi=>aa ?_) (λ hi=>av (λ h4=>aa ?_) (λ h4=>aj _ (ax (w6 _) Z) (aa ?_))))
   ·have hi:fm e.AI=false:=by simpa using hi
    simp [hi]
   ·exact wH
   ·exact wH
  ·exact KW
 ·refine av (λ hq=>aa (by rw [if_pos (of_decide_eq_true hq)])) (λ hq=>?_);rw [if_neg (λ k=>hq (decide_eq_true k))];refine aj (decide (e.Gw≠[]/\(fm e.Gw=false\/kR e.Gw=true))) ?_ ?_
  ·refine av (λ hk=>aa (by simp [hk])) (λ hk=>?_);simp only [oO];refine aj (fm e.Gw&&!kR e.Gw) ?_ (aa ?_)
   ·refine aj (fm e.Gw&&!kR e.Gw) (aj _ (wl _ O) (av (λ hi=>aj _ (ax (w6 _) Z) (aa ?_)) (λ hi=>aa ?_))) (aa Z)
    ·rw [hi]; rfl
    ·have hi:fm e.Gw=false:=by simpa using hi
     rw [hi]; rfl
   ·cases fm e.Gw <;> cases kR e.Gw <;> simp [hk]
  ·exact FG
theorem SH {e:ad}(hb:Sz e):∀ (c lv:Nat) (ci li:Int),ci=c->li=lv->c<=4096->lv<=33 ->
  Ev2 (λ n _=>bY n (bX.mk ci) e li) (λ r=>r.1=(pY c lv e).1/\r.2=bX.mk (((pY c lv e).2:Nat):Int)/\(pY c lv e).2<=4096):=by
 induction hb with
 | @mk x sn sk sv hs skids ih =>
  intro c lv ci li hc hl h1 h2;have hb:Sz x:=.mk sn sk sv hs skids;refine aP ?_;simp only [bY];rw [CH];refine av (λ h=>?_) (λ h=>?_)
  ·rw [if_pos O]; exact aa ⟨rfl,by rw [hc],h1⟩
  rw [if_neg (show ¬ 32 < lv by omega)];refine av (λ h5=>?_) (λ h5=>?_)
  ·rw [if_pos O]; exact aa ⟨rfl,by rw [hc],h1⟩
  rw [if_neg (show ¬ 4096<=c by omega)];refine ag aB ?_;refine aj _ (Qe hb) ?_;refine av (λ h0=>?_) (λ h0=>?_)
  ·rw [if_pos h0]
   have loop:∀ (k i c:Nat) (ci:Int),i+k=x.By.length->ci=c->c<=4096->Ev2 (λ n m=>bR (bY n) x li m (i:Int) ci) (λ s=>(nO c (lv+1) (x.By.drop i)).2<=4096/\s=if (nO c (lv+1) (x.By.drop i)).1=0 then .inl (((nO c (lv+1) (x.By.drop i)).2:Nat):Int) else .inr ((nO c (lv+1) (x.By.drop i)).1,bX.mk (((nO c (lv+1) (x.By.drop i)).2:Nat):Int))):=by
    intro k
    induction k with
    | zero =>
     intro i c ci hi hc h6;refine aw ?_;simp only [bR];rw [List.drop_eq_nil_of_le O];exact af O (aa ⟨by rw [nO]; exact h6,by rw [nO,hc]; rfl⟩)
    | succ k ihk =>
     intro i c ci hi hc h6;refine aw ?_;simp only [bR];rw [uX _ (show i < x.By.length by omega),vV];refine ae O (ag O (ag aB ?_));refine ah _ (ih _ u3 c (lv+1) ci (li+1) hc O h6 O) ?_;rintro ⟨r1,r2⟩ ⟨q1,q2,q3⟩;simp only at q1 q2;subst q1 q2;refine av (λ h8=>?_) (λ h8=>?_)
     ·simp only [if_pos h8];refine ag aB ?_;exact qL (P:=λ j=>Ev2 (λ n m=>bR (bY n) x li m j _) _) (ihk (i+1) _ _ O rfl q3)
     ·simp only [if_neg h8]; exact aa ⟨q3,rfl⟩
   refine cm (aQ (aO (f:=λ n m=>bR (bY n) x li m 0 (ci+1)) (loop x.By.length 0 (c+1) (ci+1) O O O)) ?_);rintro s ⟨s1,s2⟩;simp only [List.drop_zero] at s1 s2;subst s2;by_cases h9:(nO (c+1) (lv+1) x.By).1=0
   ·simp only [if_pos h9]; exact aa ⟨h9.symm,rfl,s1⟩
   ·rw [if_neg h9]; exact ⟨rfl,rfl,s1⟩
  ·rw [if_neg h0]; exact aa ⟨rfl,by rw [hc,Int.natCast_add,Int.natCast_one],by omega⟩
theorem L3 {e:ad}(hb:Sz e):Ev2 (λ n _=>mq n e) (·=chk e):=by
 simp only [mq];exact ah _ (SH hb 0 1 0 1 Z Z (by decide) (by decide)) (λ r hr=>aa hr.1)
theorem RZ {e:ad}(hb:Sz e):∀ (c lv:Nat) (ci li:Int),ci=c->li=lv->c<=4096->lv<=33 ->
  Ev2 (λ n _=>dV n e li ci) (λ r=>r.1=(pY c lv e).1/\(r.1=0->r.2=(((pY c lv e).2:Nat):Int))/\(pY c lv e).2<=4096):=by
 induction hb with
 | @mk x sn sk sv hs skids ih =>
  intro c lv ci li hc hl h1 h2;have hb:Sz x:=.mk sn sk sv hs skids;refine aP ?_;simp only [dV];rw [CH];refine av (λ h=>?_) (λ h=>?_)
  ·rw [if_pos O]; exact aa ⟨rfl,by simp,h1⟩
  rw [if_neg (show ¬ 32 < lv by omega)];refine av (λ h5=>?_) (λ h5=>?_)
  ·rw [if_pos O]; exact aa ⟨rfl,by simp,h1⟩
  rw [if_neg (show ¬ 4096<=c by omega)];refine aj _ (P0 hb) ?_;refine ag aB ?_
  have stop:∀ (i ci kk:Int),kk≠0->Ev2 (λ n m=>ct (dV n) x li m kk ci i) (·=(kk,ci)):=by
   intro i ci kk hk;refine aw ?_;simp only [ct];refine aj false (av (λ _=>aa (by simpa using hk)) (λ _=>aa rfl)) Bp
  by_cases h0:p9 x=0
  ·rw [if_pos h0,h0]
   have loop:∀ (k i c:Nat) (ci:Int),i+k=x.By.length->ci=c->c<=4096->Ev2 (λ n m=>ct (dV n) x li m 0 ci (i:Int)) (λ s=>(nO c (lv+1) (x.By.drop i)).2<=4096/\s.1=(nO c (lv+1) (x.By.drop i)).1/\(s.1=0->s.2=(((nO c (lv+1) (x.By.drop i)).2:Nat):Int))):=by
    intro k
    induction k with
    | zero =>
     intro i c ci hi hc h6;refine aw ?_;simp only [ct];rw [List.drop_eq_nil_of_le O];refine aj false ov (af (by decide) (aa ⟨by rw [nO]; exact h6,by rw [nO],λ _=>by rw [nO]; exact hc⟩))
    | succ k ihk =>
     intro i c ci hi hc h6;refine aw ?_;simp only [ct];rw [uX _ (show i < x.By.length by omega),vV];refine aj true ui (ae rfl (ag O (ag aB ?_)));refine ah _ (ih _ u3 c (lv+1) ci (li+1) hc O h6 O) ?_;rintro ⟨r1,r2⟩ ⟨q1,q2,q3⟩;simp only at q1 q2;refine ag aB ?_;by_cases h8:r1=0
     ·subst h8;have q2:=q2 rfl;simp only [if_pos q1.symm];subst q2;exact qL (P:=λ j=>Ev2 (λ n m=>ct (dV n) x li m 0 _ j) _) (ihk (i+1) _ _ O rfl q3)
     ·simp only [if_neg (show ¬ (pY c (lv+1) (lat x.By (i:Int))).1=0 by rw [<- q1]; exact h8)];exact aQ (stop _ _ _ h8) (λ s hs=>by subst hs; exact ⟨q3,q1,λ k=>absurd k h8⟩)
   refine ah _ (aO (f:=λ n m=>ct (dV n) x li m 0 (ci+1) 0) (loop x.By.length 0 (c+1) (ci+1) O O O)) ?_;rintro s ⟨s1,s2,s3⟩;simp only [List.drop_zero] at s1 s2 s3;exact aa ⟨s2,s3,s1⟩
  ·rw [if_neg h0];exact ah _ (aO (f:=λ n m=>ct (dV n) x li m (p9 x) (ci+1) 0) (stop _ _ _ h0)) (λ s hs=>by subst hs; exact aa ⟨rfl,λ k=>absurd k h0,by omega⟩)
theorem Ma {e:ad}(hb:Sz e):Ev2 (λ n _=>kS n e) (·=chk e):=by
 simp only [kS];exact ah _ (RZ hb 0 1 0 1 Z Z (by decide) (by decide)) (λ r hr=>aa hr.1)
mutual
def sA:ad->Nat
 | .mk _ _ _ _ _ kids _=>1+pA kids
def pA:List ad->Nat
 | []=>0
 | x::r=>sA x+pA r
end
theorem vK (e:ad):sA e=1+pA e.By:=by cases e; simp only [sA,ad.By]
end Go.Ab.R06
end
section
namespace Go.Ab.R06
open Go.Ab Go.Ab.RB Go.Lib
section
variable {p:Prop}
theorem BH (h:p:=by
 exact up (i1 _ _ _ h) (List.suffix_refl _)):p:=h
theorem Py (h:p:=by (try simp only []); omega):p:=h
theorem Ak (h:p:=by exact bv (by (try simp only []); omega) (by (try simp only []); omega)):p:=h
theorem KS (h:p:=by exact qK (by decide) (by decide) (by have:=z1.2; have:=(glt g hs).2; omega) z1.1):p:=h
theorem se (h:p:=by exact af mv (aa Z)):p:=h
theorem wK (h:p:=by rw [ph,List.length_singleton]; omega):p:=h
end
theorem tlS (b:Bool)(l:List ac):tl b l <:+ l:=by
 unfold tl nf
 cases b
 ·exact List.tail_suffix _
 ·exact (List.tail_suffix _).trans (List.dropWhile_suffix _)
theorem t1 {b:Bool}{l m:List ac}(h:l <:+ m):tl b l <:+ m:=(tlS b l).trans h
def Gl (l:List ac):Prop:=Gd l/\l.length<=1000000000
def hH {α:Type}(P:α->Prop)(l0:List ac)(x:PR α):Prop:=∀ q,x=some q->match q with
 | .inl e=>e.1≠0
 | .inr (a,l')=>P a/\l' <:+ l0/\Gl l'
theorem jt {α:Type}{P:α->Prop}{l0:List ac}:hH P l0 none:=by intro q h; cases h
theorem d7 {α:Type}{P:α->Prop}{l0 l':List ac}{a:α}(p:P a)(h:l' <:+ l0)(g:Gl l'):hH P l0 (pok a l'):=by intro q h'; cases h'; exact ⟨p,h,g⟩
theorem sR {α:Type}{P:α->Prop}{l0:List ac}{k a:Int}(h:k≠0):hH P l0 (per k a):=by intro q h'; cases h'; exact h
theorem cN {α:Type}{P:α->Prop}{p:Prop} [Decidable p] {l0:List ac}{x y:PR α}(h1:p->hH P l0 x)(h2:¬p->hH P l0 y):hH P l0 (if p then x else y):=by
 by_cases h:p
 ·rw [if_pos h]; exact h1 h
 ·rw [if_neg h]; exact h2 h
theorem bc {α β:Type}{x:PR α}{k:α->List ac->PR β}{q:PE⊕(β×List ac)}(h:pb x k=some q):(∃ e,x=some (.inl e)/\q=.inl e)\/(∃ a l,x=some (.inr (a,l))/\k a l=some q):=by
 cases x with
 | none=>cases h
 | some y =>
  rcases y with e | ⟨a,l⟩
  ·cases h; exact .inl ⟨e,rfl,rfl⟩
  ·exact .inr ⟨a,l,Z,h⟩
theorem dz {α β:Type}{P:α->Prop}{P':β->Prop}{l0 l1:List ac}{x:PR α}{k:α->List ac->PR β}(h:hH P l1 x)(hs:l1 <:+ l0)(hk:∀ a l',P a->l' <:+ l0->Gl l'->hH P' l0 (k a l')):hH P' l0 (pb x k):=by
 intro q hq;rcases bc hq with ⟨e,hx,rfl⟩ | ⟨a,l,hx,hq⟩
 ·exact h _ hx
 ·exact hk a l (h _ hx).1 ((h _ hx).2.1.trans hs) (h _ hx).2.2 q hq
theorem uo {α:Type}{P:α->Prop}{l0 l1:List ac}{x:PR α}(h:hH P l1 x)(hs:l1 <:+ l0):hH P l0 x:=by
 intro q hq;have:=h q hq;rcases q with e | ⟨a,l'⟩
 ·exact this
 ·exact ⟨this.1,this.2.1.trans hs,this.2.2⟩
theorem glk {b:Bool}{l:List ac}{k:Int}(g:Gl l)(h:(hd b l).Ar=k)(hk:k≠6):Gl (tl b l):=⟨CQ (rl g.1) O,Nat.le_trans (tlS b l).length_le g.2⟩
theorem glt {b:Bool}{l:List ac}{s:Bytes}(g:Gl l)(h:sgB b l s=true):Gl (tl b l):=glk g (lI.1 h).1 (by decide)
theorem glw {b:Bool}{l:List ac}{s:Bytes}(g:Gl l)(h:wdB b l s=true):Gl (tl b l):=glk g (x7.1 h).1 (by decide)
theorem gln {b:Bool}{l:List ac}(g:Gl l):(hd b l).B'.length<=1000000000:=by
 have:=sX (rl (b:=b) g.1);have h1:=this.1;have h2:=this.2.1;omega
theorem gll {b:Bool}{l:List ac}(g:Gl l):(tl b l).length < l.length:=P4 (rl g.1)
abbrev Tr {α:Type}:α->Prop:=λ _=>True
abbrev Nm:Bytes->Prop:=λ s=>s.length<=1000000000
theorem cW {b:Bool}{s:Bytes}{l:List ac}(g:Gl l):hH Tr (tl b l) (ek b s l):=cN (λ h=>d7 trivial (List.suffix_refl _) (glt g h)) (λ _=>sR (by decide))
theorem A2 {b:Bool}{s:Bytes}{l:List ac}(g:Gl l):hH Tr (tl b l) (y9 b s l):=cN (λ h=>d7 trivial (List.suffix_refl _) (glw g h)) (λ _=>sR (by decide))
theorem o5 {b:Bool}{l:List ac}(g:Gl l):hH Nm (tl b l) (xE b l):=cN (λ h=>d7 (gln g) (List.suffix_refl _) (glk g h.1 (by decide))) (λ _=>sR (by decide))
theorem DD:∀ (f c:Nat) (l:Bytes) (e:SE),kh f c l=.inl e->e.1≠0
 | 0,c,l,e,h=>by rw [kh] at h; cases h; decide
 | f+1,c,l,e,h=>by
  rw [ml] at h
  cases hsk:fF true l with
  | nil =>
   rw [hsk,nX] at h;split at h
   ·cases h; decide
   ·cases h
  | cons b r =>
   rw [hsk,mh] at h;split at h
   ·cases h; exact (show (2:Int)≠0 by decide)
   split at h
   ·cases h; exact (show (14:Int)≠0 by decide)
   cases ht:jY (fA f 0) (b::r) with
   | inl e' =>
    rw [ht] at h; cases h;show e'.1≠0;exact C6 (λ x y hxy=>(wE f 0).1 x y hxy) ht
   | inr z =>
    obtain ⟨k,t,l'⟩:=z;rw [ht,oa] at h
    cases hs:kh f (c+1) l' with
    | inl e'=>rw [hs] at h; cases h; exact DD f (c+1) l' _ hs
    | inr ts'=>rw [hs] at h; cases h
theorem Mf {src:Bytes->SE⊕Bytes}{l:Bytes}(hsrc:∀ r r',src r=.inr r'->r'.length < r.length){c:Int}{t l':Bytes}(h:jY src l=.inr (c,t,l')):c≠6/\t.length<=l.length/\(c=3->t.length+2<=l.length)/\(c=2->t.all d3=true):=by
 cases l with
 | nil=>cases h
 | cons b r =>
  rw [kB] at h;split at h
  ·split at h
   ·cases h
   ·cases h
    exact ⟨by decide,(List.takeWhile_prefix _).length_le,(λ h=>absurd h (by decide)),(λ h=>absurd h (by decide))⟩
  split at h
  ·cases h
   exact ⟨by decide,(List.takeWhile_prefix _).length_le,(λ h=>absurd h (by decide)),λ _=>List.all_takeWhile⟩
  split at h
  ·cases h; exact ⟨by decide,by simp,(λ h=>absurd h (by decide)),(λ h=>absurd h (by decide))⟩
  split at h
  ·split at h
   ·cases h
   ·rename_i r' hr
    cases h
    have:=hsrc r _ hr;simp only [List.length_take,aq];exact ⟨by decide,by omega,λ _=>by omega,(λ h=>absurd h (by decide))⟩
  split at h
  ·cases h
  ·rename_i hs
   cases h
   exact ⟨by decide,(rc hs).2,(λ h=>absurd h (by decide)),(λ h=>absurd h (by decide))⟩
theorem uL (c:Bool)(l:Bytes):(fF c l).length<=l.length:=by
 have h1:=(List.dropWhile_suffix (p:=ia) (l:=l)).length_le;unfold fF;split
 ·rename_i b r hb;rw [hb] at h1;split
  ·exact Nat.le_trans (List.dropWhile_suffix _).length_le h1
  ·exact h1
 ·exact rg _
theorem zO (s:Bytes)(a:Int)(h0:0<=a)(h1:a+(s.length:Int)<=1000000000):∀ (f c:Nat) (l:Bytes) (ts:List Tk),l.length<=s.length->kh f c l=.inr ts->Gd ((ts.map (tkS s)).map (mvT a))/\(∀ t∈ts.map (tkS s),t.Ar=3->t.B'.length+2<=l.length)/\ts.length<=l.length+1
 | 0,c,l,ts,_,h=>by rw [kh] at h; cases h
 | f+1,c,l,ts,hl,h=>by
  rw [ml] at h;have hk:=uL true l
  cases hsk:fF true l with
  | nil =>
   rw [hsk,nX] at h;split at h
   ·cases h
   ·cases h
    refine ⟨⟨⟨?_,?_,λ h=>absurd (show (6:Int)=3 from h) (by decide),λ h=>absurd (show (6:Int)=2 from h) (by decide)⟩,.inl ⟨Z,Z⟩⟩,?_,by simp⟩
    ·show 0<=(s.length:Int) - ((0:Nat):Int)+a; omega
    ·show (s.length:Int) - ((0:Nat):Int)+a+((0:Nat):Int)<=_; omega
    ·intro t ht hk; simp only [la,th,List.mem_singleton] at ht; subst ht; cases hk
  | cons b r =>
   rw [hsk] at hk;rw [hsk,mh] at h;split at h
   ·cases h
   split at h
   ·cases h
   cases ht:jY (fA f 0) (b::r) with
   | inl e=>rw [ht] at h; cases h
   | inr z =>
    obtain ⟨k,t,l'⟩:=z;rw [ht,oa] at h;obtain ⟨b1,b2,b3,b4⟩:=Mf (λ x y hxy=>((gQ f 0).1 x y hxy).2) ht;have b5:=(kO (λ x y _ hxy=>(gQ f 0).1 x y hxy) ht).2
    cases hs:kh f (c+1) l' with
    | inl e=>rw [hs] at h; cases h
    | inr ts' =>
     rw [hs] at h; cases h;obtain ⟨i1,i2,i3⟩:=zO s a h0 h1 f (c+1) l' ts' O hs;have hn:(b::r).length<=s.length:=by omega
     refine ⟨⟨⟨?_,?_,?_,b4⟩,.inr ⟨b1,i1⟩⟩,?_,by simp only [aq] at i3 b5 hk ⊢; omega⟩
     ·show 0<=(s.length:Int) - ((b::r).length:Int)+a; omega
     ·show (s.length:Int) - ((b::r).length:Int)+a+(t.length:Int)<=_; omega
     ·intro XJ;have:=b3 XJ;show (s.length:Int) - ((b::r).length:Int)+a+1+(t.length:Int)<=_; omega
     ·intro y hy hy3;rw [la] at hy;rcases wr.1 hy with rfl | hy
      ·have:=b3 hy3;show t.length+2<=_; omega
      ·have:=i2 y hy hy3;omega
theorem qU {s:Bytes}{a:Int}(h0:0<=a)(h1:a+(s.length:Int)<=1000000000)(h:(eG s).2.Ar=0):Gd ((eG s).1.map (mvT a))/\(∀ t∈(eG s).1,t.Ar=3->t.B'.length+2<=s.length)/\(eG s).1.length<=65537:=by
 unfold eG at h ⊢;split
 ·rename_i hl; rw [if_pos hl] at h; cases h
 ·rename_i hl;rw [if_neg hl] at h
  cases hs:kh (s.length+1) 0 s with
  | inl e =>
   rw [hs] at h;exact absurd h (DD _ _ _ e hs)
  | inr ts =>
   obtain ⟨i1,i2,i3⟩:=zO s a h0 h1 _ _ s ts (bx _) hs;refine ⟨i1,i2,?_⟩;show ([]++ts.map (tkS s)).length<=_;rw [List.nil_append,List.length_map]; omega
theorem tp {s:Bytes}{a:Int}(h0:0<=a)(h1:a+(s.length:Int)<=1000000000)(h:(eG s).2.Ar=0):Gl ((eG s).1.map (mvT a)) :=
 ⟨(qU h0 h1 h).1,by have:=(qU h0 h1 h).2.2; rw [List.length_map]; omega⟩
theorem iU:∀ (f:Nat),(∀ d l r,fV f d l=some (some r)->r <:+ l/\r.length < l.length)/\(∀ l r,ix f l=some (some r)->r <:+ l/\r.length < l.length)
 | 0=>⟨λ d l r h=>(by rw [fV] at h; cases h),λ l r h=>(by rw [ix] at h; cases h)⟩
 | f+1=>by
  obtain ⟨i1,i2⟩:=iU f;constructor
  ·intro d l r h
   cases l with
   | nil=>rw [fV] at h; cases h
   | cons b l =>
    have up:∀ {x:Bytes},r <:+ x/\r.length < x.length->x <:+ l->r <:+ (b::l)/\r.length < (b::l).length:=λ hx hy=>⟨(hx.1.trans hy).trans (List.suffix_cons _ _),by have:=hy.length_le; rw [aq]; omega⟩
    rw [fV] at h;split at h
    ·exact BH
    split at h
    ·split at h
     ·exact x4
     ·exact BH
    split at h
    ·cases hq:ix f l with
     | none=>rw [hq] at h; cases h
     | some y =>
      rw [hq] at h
      cases y with
      | none=>cases h
      | some r'=>exact up (i1 _ _ _ h) (i2 _ _ hq).1
    ·exact BH
  ·intro l r h
   cases l with
   | nil=>rw [ix] at h; cases h
   | cons b l =>
    have up:∀ {x:Bytes},r <:+ x/\r.length < x.length->x <:+ l->r <:+ (b::l)/\r.length < (b::l).length:=λ hx hy=>⟨(hx.1.trans hy).trans (List.suffix_cons _ _),by have:=hy.length_le; rw [aq]; omega⟩
    rw [ix] at h;split at h
    ·exact x4
    split at h
    ·exact up (i2 _ _ h) (List.drop_suffix _ _)
    split at h
    ·exact up (i2 _ _ h) (List.drop_suffix 2 l)
    split at h
    ·cases hq:fV f 1 ((b::l).drop 2) with
     | none=>rw [hq] at h; cases h
     | some y =>
      rw [hq] at h
      cases y with
      | none=>cases h
      | some r'=>exact up (i2 _ _ h) ((i1 _ _ _ hq).1.trans (List.drop_suffix 1 l))
    ·exact up (i2 _ _ h) (List.suffix_refl _)
theorem rj {l t:Bytes}{n:Nat}(h:iE l=.inr (t,n)):1<=n/\n<=l.length:=by
 cases l with
 | nil=>cases h
 | cons b r =>
  rw [iE] at h;split at h
  ·split at h
   ·rename_i hz
    cases h
    have:=(ol r).2.2.1 hz;rw [aq]; omega
   ·cases h
  ·split at h
   ·cases h
   ·cases h
    have:=iA (b::r) G;exact ⟨this.1,this.2.1⟩
def qH {α:Type}(P:α->Prop)(x:Option (PE⊕α)):Prop:=∀ q,x=some q->match q with
 | .inl e=>e.1≠0
 | .inr a=>P a
theorem rn {α:Type}{P:α->Prop}:qH P none:=by intro e h; cases h
theorem SC {α:Type}{P:α->Prop}{a:α}(h:P a):qH P (some (.inr a)):=by intro e h'; cases h'; exact h
theorem zb {α:Type}{P:α->Prop}{k a:Int}(h:k≠0):qH P (some (.inl (k,a))):=by intro e h'; cases h'; exact h
theorem uc {α:Type}{P:α->Prop}{p:Prop} [Decidable p] {x y:Option (PE⊕α)}(h1:p->qH P x)(h2:¬p->qH P y):qH P (if p then x else y):=by
 by_cases h:p
 ·rw [if_pos h]; exact h1 h
 ·rw [if_neg h]; exact h2 h
theorem qK {k op:Int}{nm key:Bytes}{kids:List ad}{at':Int}(n:nm.length<=1000000000)(m:key.length<=1000000000)(c:kids.length<=4000000000)(h:∀ y∈kids,Sz y):Sz (ad.mk k op nm key v0 kids at') :=
 .mk (Nat.le_trans n (by decide)) (Nat.le_trans m (by decide)) BX (Nat.le_trans c (by decide)) h
theorem JF (v:am)(at':Int)(h:VSz v):Sz (E4 v at'):=.mk (rg _) (rg _) h (rg _) (λ y hy=>by cases hy)
theorem PQ (s:Bytes)(at':Int):Sz (xe s at'):=JF _ _ BX
theorem m1 {a:ad}(h:Sz a):∀ y∈[a],Sz y:=λ y hy=>by rw [List.mem_singleton.1 hy]; exact h
theorem m2 {a b:ad}(h:Sz a)(g:Sz b):∀ y∈[a,b],Sz y:=λ y hy=>by
 rcases wr.1 hy with rfl | hy
 ·exact h
 ·exact m1 g y hy
theorem m3 {a b c:ad}(h:Sz a)(g:Sz b)(k:Sz c):∀ y∈[a,b,c],Sz y:=λ y hy=>by
 rcases wr.1 hy with rfl | hy
 ·exact h
 ·exact m2 g k y hy
def Kd (N:Nat)(ks:List ad):Prop:=(∀ y∈ks,Sz y)/\ks.length<=N
def Rd (n:Nat)(z:Int×Int×Bytes×List ad×Bool):Prop:=z.2.2.1.length<=4096/\(∀ y∈z.2.2.2.1,Sz y)/\z.2.2.2.1.length<=n
structure Fct (f:Nat):Prop where
 e:∀ b l,Gl l->hH Sz (tl b l) (gi f b l)
 b:∀ SR b l,Gl l->hH Sz (tl b l) (nU f SR b l)
 bl:∀ SR b x l,Sz x->Gl l->hH Sz l (oW f SR b x l)
 u:∀ b l,Gl l->hH Sz (tl b l) (unS f b l)
 pl:∀ b x l,Sz x->Gl l->hH Sz l (j4 f b x l)
 p:∀ b l,Gl l->hH Sz (tl b l) (lE f b l)
 s:∀ b l,Gl l->(hd b l).Ar=3->hH Sz (tl b l) (qn f b l)
 n:∀ b l,Gl l->(hd b l).Ar=1->hH Sz (tl b l) (mT f b l)
 i:∀ e l,Gl l->hH (Kd l.length) (tl true l) (ip f e l)
 t:∀ l,Gl l->hH (Kd (2*l.length)) (tl true l) (oX f l)
 k:∀ l,Gl l->hH Sz (tl true l) (na f l)
 lo:∀ a k l,Gl l->hH Sz l (lC f a k l)
 tm:∀ (s:Bytes) (a:Int),0<=a->a+(s.length:Int)<=1000000000->qH Sz (jC f s a)
 r:∀ (frm pos:Int) (text:Bytes) (parts:List ad) (Td:Bool) (s:Bytes) (n:Nat),0<=pos->pos+(s.length:Int)<=1000000000->text.length<=4096->(∀ y∈parts,Sz y)->parts.length+2*s.length<=n->qH (Rd n) (eH f frm pos text parts Td s)
 w:∀ (s:Bytes) (a:Int),0<=a->a+(s.length:Int)<=1000000000->qH Sz (gv f s a)
theorem lM {l p:Bytes}(h:hasPrefix l p=true):p.length<=l.length:=by
 unfold hasPrefix at h;exact (List.isPrefixOf_iff_prefix.1 h).length_le
theorem Dg {s:Bytes}{k:Int}(h:iE s=.inl k):k≠0:=by
 cases s with
 | nil=>cases h; decide
 | cons b r =>
  rw [iE] at h;split at h
  ·split at h
   ·cases h
   ·cases h; assumption
  ·split at h
   ·cases h; decide
   ·cases h
theorem Il {frm pos:Int}{text:Bytes}{parts:List ad}(h:∀ y∈parts,Sz y):(∀ y∈flS frm pos text parts,Sz y)/\(flS frm pos text parts).length<=parts.length+1:=by
 unfold flS;split
 ·refine ⟨λ y hy=>?_,by simp⟩;rcases List.mem_append.1 hy with hy | hy
  ·exact h y hy
  ·rw [List.mem_singleton.1 hy]; exact PQ _ _
 ·exact ⟨h,by omega⟩
theorem uG {at':Int}{n:Nat}{z:Int×Int×Bytes×List ad×Bool}(hn:n<=3000000000)(h:Rd n z):Sz (qT at' z):=by
 obtain ⟨frm,pos,text,parts,Td⟩:=z;obtain ⟨h1,h2,h3⟩:=h;simp only at h1 h2 h3;unfold qT;have:=Il (frm:=frm) (pos:=pos) (text:=text) h2
 cases Td with
 | true=>exact qK (by decide) (by decide) O this.1
 | false=>exact PQ _ _
theorem R5 {e:ad}(h:Sz e)(at':Int):Sz (ad.mk e.Ar e.fOp e.AI e.Gw e.A' e.By at'):=by
 cases h with
 | mk n k v c kids=>exact .mk n k v c kids
abbrev sfx (l:List ac):l <:+ l:=List.suffix_refl l
theorem fct:∀ f,Fct f:=by
 intro f
 induction f with
 | zero =>
  constructor
  ·intro b l _; rw [gi]; exact jt
  ·intro v b l _; rw [nU]; exact jt
  ·intro v b x l _ _; rw [oW]; exact jt
  ·intro b l _; rw [unS]; exact jt
  ·intro b x l _ _; rw [j4]; exact jt
  ·intro b l _; rw [lE]; exact jt
  ·intro b l _ _; rw [qn]; exact jt
  ·intro b l _ _; rw [mT]; exact jt
  ·intro b l _; rw [ip]; exact jt
  ·intro l _; rw [oX]; exact jt
  ·intro l _; rw [na]; exact jt
  ·intro a k l _; rw [lC]; exact jt
  ·intro s a _ _; rw [jC]; exact rn
  ·intro a b c d e g n _ _ _ _ _; rw [eH]; exact rn
  ·intro s a _ _; rw [gv]; exact rn
 | succ f ih =>
  constructor
  ·intro b l g;rw [gi];refine dz (ih.b 0 b l g) (sfx _) λ c l1 z1 s1 g1=>cN (λ hs=>?_) (λ _=>d7 z1 s1 g1);exact dz (ih.e b _ (glt g1 hs)) (t1 (t1 s1)) λ a l2 z2 s2 g2=>dz (cW g2) (t1 s2) λ _ l3 _ s3 g3=>dz (ih.e b _ g3) (t1 s3) λ d l4 z4 s4 g4=>d7 (qK (by decide) (by decide) G (m3 z1 z2 z4)) s4 g4
  ·intro v b l g;rw [nU];exact cN (λ _=>ih.u b l g) (λ _=>dz (ih.b _ b l g) (sfx _) λ e l1 z1 s1 g1=>uo (ih.bl v b e l1 z1 g1) s1)
  ·intro v b x l zx g;rw [oW]
   cases ha:vu b l v with
   | none=>exact d7 zx (sfx _) g
   | some p =>
    have hs:sgB b l p.1=true:=List.find?_some (p:=λ p:Bytes×Int=>sgB b l p.1) ha;exact dz (ih.b _ b _ (glt g hs)) (t1 (tlS b l)) λ y l1 z1 s1 g1=>uo (ih.bl v b _ l1 (qK (by decide) (by decide) G (m2 zx z1)) g1) s1
  ·intro b l g;rw [unS];refine cN (λ hs=>dz (ih.u b _ (glt g hs)) (t1 (sfx _)) λ e l1 z1 s1 g1=>d7 (qK (by decide) (by decide) G (m1 z1)) s1 g1) (λ _=>cN (λ hs=>dz (ih.u b _ (glt g hs)) (t1 (sfx _)) λ e l1 z1 s1 g1=>d7 (qK (by decide) (by decide) G (m1 z1)) s1 g1) (λ _=>?_));exact dz (ih.p b l g) (sfx _) λ e l1 z1 s1 g1=>uo (ih.pl b e l1 z1 g1) s1
  ·intro b x l zx g;rw [j4];refine cN (λ hs=>cN (λ hk=>?_) (λ _=>sR (by decide))) (λ _=>cN (λ hs=>?_) (λ _=>d7 zx (sfx _) g))
   ·exact uo (ih.pl b _ _ (qK (gln (glt g hs)) (by decide) G (m1 zx)) (glk (glt g hs) hk (by decide))) (t1 (tlS b l))
   ·exact dz (ih.e true _ (glt g hs)) (t1 (tlS b l)) λ y l1 z1 s1 g1=>dz (cW g1) (t1 s1) λ _ l2 _ s2 g2=>uo (ih.pl b _ _ (qK (by decide) (by decide) G (m2 zx z1)) g2) s2
  ·intro b l g;rw [lE];refine cN (λ hk=>cN (λ _=>d7 (JF _ _ BX) (sfx _) (glk g hk (by decide))) (λ h=>sR h)) (λ _=>cN (λ hk=>ih.s b l g hk) (λ _=>cN (λ hk=>ih.n b l g hk) (λ _=>?_)));refine cN (λ hs=>dz (ih.e true _ (glt g hs)) (tlS true _) λ e l1 z1 s1 g1=>dz (cW g1) (t1 s1) λ _ l2 _ s2 g2=>d7 z1 s2 g2) (λ _=>?_);refine cN (λ hs=>cN (λ hw=>uo (ih.lo _ _ _ (glw (glt g hs) hw)) (tlS true _)) (λ _=>dz (ih.i _ _ (glt g hs)) (tlS true _) λ ks l1 z1 s1 g1=>d7 KS s1 g1)) (λ _=>?_);exact cN (λ hs=>cN (λ hw=>uo (ih.lo _ _ _ (glw (glt g hs) hw)) (tlS true _)) (λ _=>dz (ih.t _ (glt g hs)) (tlS true _) λ ks l1 z1 s1 g1=>d7 KS s1 g1)) (λ _=>sR (by decide))
  ·intro b l g hk;rw [qn];intro q hq;have hb:=sX (rl (b:=b) g.1);have ht':=ih.tm (hd b l).B' ((hd b l).fAt+1) (by have:=hb.1; omega) (by have:=hb.2.2.1 hk; omega)
   cases ht:jC f (hd b l).B' ((hd b l).fAt+1) with
   | none=>rw [ht] at hq; cases hq
   | some y =>
    rw [ht] at hq;have ht':=ht' y ht;rcases y with e | e
    ·cases hq; exact ht'
    ·cases hq; exact ⟨R5 ht' _,sfx _,glk g hk (by decide)⟩
  ·intro b l g hk;have g1:=glk g hk (by decide);have gn:=gln (b:=b) g;rw [mT];refine cN (λ _=>d7 (JF _ _ BX) (sfx _) g1) (λ _=>cN (λ _=>d7 (JF _ _ BX) (sfx _) g1) (λ _=>cN (λ _=>d7 (JF _ _ BX) (sfx _) g1) (λ _=>cN (λ _=>sR (by decide)) (λ _=>?_))));exact cN (λ hs=>dz (ih.i _ _ (glt g1 hs)) (t1 (tlS b _)) λ ks l1 z1 s1 g2=>d7 (qK gn (by decide) (by have:=z1.2; have:=(glt g1 hs).2; omega) z1.1) s1 g2) (λ _=>d7 (qK gn (by decide) (by decide) (λ y hy=>by cases hy)) (sfx _) g1)
  ·intro e l g;have gt:=gll (b:=true) g;rw [ip];refine cN (λ hs=>d7 ⟨(λ y hy=>by cases hy),rg _⟩ (sfx _) (glt g hs)) (λ _=>dz (ih.e true l g) (sfx _) λ x l1 zx s1 g1=>cN (λ hs=>?_) (λ _=>dz (cW g1) (t1 s1) λ _ l2 _ s2 g2=>d7 ⟨m1 zx,by simp only [List.length_singleton]; omega⟩ s2 g2));have h1:=s1.length_le;have h2:=gll (b:=true) g1
   exact dz (ih.i e _ (glt g1 hs)) (t1 (t1 s1)) λ r l2 z2 s2 g2=>d7 ⟨λ y hy=>by
    rcases wr.1 hy with rfl | hy
    ·exact zx
    ·exact z2.1 y hy,by have:=z2.2; simp only [aq]; omega⟩ s2 g2
  ·intro l g;have gt:=gll (b:=true) g;rw [oX];refine cN (λ hs=>d7 ⟨(λ y hy=>by cases hy),rg _⟩ (sfx _) (glt g hs)) (λ _=>dz (ih.k l g) (sfx _) λ k l1 z1 s1 g1=>dz (cW g1) (t1 s1) λ _ l2 _ s2 g2=>dz (ih.e true l2 g2) (t1 s2) λ x l3 z3 s3 g3=>cN (λ hs=>?_) (λ _=>dz (cW g3) (t1 s3) λ _ l4 _ s4 g4=>d7 ⟨m2 z1 z3,by simp only [aq,n8]; omega⟩ s4 g4));have h1:=s3.length_le;have h2:=gll (b:=true) g3
   exact dz (ih.t _ (glt g3 hs)) (t1 (t1 s3)) λ r l4 z4 s4 g4=>d7 ⟨λ y hy=>by
    rcases wr.1 hy with rfl | hy
    ·exact z1
    rcases wr.1 hy with rfl | hy
    ·exact z3
    ·exact z4.1 y hy,by have:=z4.2; simp only [aq]; omega⟩ s4 g4
  ·intro l g;rw [na];refine cN (λ hk=>d7 (PQ _ _) (sfx _) (glk g hk (by decide))) (λ _=>cN (λ hk=>ih.s true l g hk) (λ _=>cN (λ hs=>?_) (λ _=>sR (by decide))));exact dz (ih.e true _ (glt g hs)) (tlS true _) λ e l1 z1 s1 g1=>dz (cW g1) (t1 s1) λ _ l2 _ s2 g2=>d7 z1 s2 g2
  ·intro a k l g;rw [lC];refine dz (o5 g) (tlS true l) λ v l1 z1 s1 g1=>dz (P:=λ p:Bytes×Bytes=>p.1.length<=1000000000/\p.2.length<=1000000000) (l1:=l1) (cN (λ hs=>dz (o5 (glt g1 hs)) (t1 (tlS true l1)) λ w l2 z2 s2 g2=>d7 ⟨z2,z1⟩ s2 g2) (λ _=>d7 ⟨z1,rg _⟩ (sfx _) g1)) s1 λ nk l2 zn s2 g2=>?_;refine dz (A2 g2) (t1 s2) λ _ l3 _ s3 g3=>dz (ih.e true l3 g3) (t1 s3) λ x l4 z4 s4 g4=>dz (cW g4) (t1 s4) λ _ l5 _ s5 g5=>dz (ih.e true l5 g5) (t1 s5) λ c l6 z6 s6 g6=>?_;refine dz (P:=Kd 3) (l1:=l6) (cN (λ _=>dz (cW g6) (tlS true l6) λ _ l7 _ s7 g7=>dz (ih.e true l7 g7) (t1 s7) λ d l8 z8 s8 g8=>d7 ⟨m3 z4 z6 z8,by simp⟩ s8 g8) (λ _=>d7 ⟨m2 z4 z6,by simp⟩ (sfx _) g6)) s6 λ ks l7 z7 s7 g7=>?_
   refine dz (P:=Kd 4) (l1:=l7) (cN (λ hw=>dz (ih.e true _ (glw g7 hw)) (t1 (tlS true l7)) λ e l8 z8 s8 g8=>d7 ⟨λ y hy=>by
    rcases List.mem_append.1 hy with hy | hy
    ·exact z7.1 y hy
    ·exact m1 z8 y hy,by have:=z7.2; rw [ph,List.length_singleton]; omega⟩ s8 g8) (λ _=>d7 ⟨z7.1,by have:=z7.2; omega⟩ (sfx _) g7)) s7 λ ks l8 z8 s8 g8=>?_
   exact dz (cW g8) (t1 s8) λ _ l9 _ s9 g9=>d7 (qK zn.1 zn.2 (by have:=z8.2; omega) z8.1) s9 g9
  ·intro s a h0 h1;rw [jC];have hr':=ih.r a a [] [] false s (2*s.length) h0 h1 (by decide) (λ y hy=>by cases hy) G;intro q hq
   cases hr:eH f a a [] [] false s with
   | none=>rw [hr] at hq; cases hq
   | some y =>
    rw [hr] at hq;have hr':=hr' y hr;rcases y with e' | z
    ·cases hq; exact hr'
    ·have hz:Sz (qT a z):=uG O hr';simp only [qE,bt] at hq;split at hq
     ·cases hq; exact hz
     ·cases hq; assumption
  ·intro frm pos text parts Td s n h0 h1 ht hp hn
   cases s with
   | nil=>rw [eH]; exact SC ⟨ht,hp,by simp only [n8] at hn; omega⟩
   | cons c r =>
    have hcl:(c::r).length=r.length+1:=rfl;rw [eH];refine uc (λ hx=>uc (λ _=>zb (by decide)) (λ hl=>ih.r _ _ _ _ _ _ n O ?_ ?_ hp ?_)) (λ _=>uc (λ hx=>?_) (λ _=>?_))
    ·have:=lM hx;rw [ld]; simp only [aq,n8] at this h1 ⊢; omega
    ·rw [ph]; simp only [aq,n8]; omega
    ·rw [ld]; omega
    ·cases hc:fV f 1 ((c::r).drop 2) with
     | none=>exact rn
     | some y =>
      cases y with
      | none=>exact zb (by decide)
      | some r' =>
       simp only [];have hr:=(iU f).1 _ _ _ hc;have hr2:=hr.2;have hr1:=hr.1.length_le;have hx:=lM hx;have hfl:=Il (frm:=frm) (pos:=pos) (text:=text) hp;rw [ld] at hr1 hr2;simp only [aq,n8] at hr1 hr2 h1 hx hn;have hw':=ih.w (((c::r).drop 2).take (((c::r).drop 2).length - r'.length - 1)) (pos+2) O (by simp only [List.length_take,ld,aq]; omega)
       cases hw:gv f (((c::r).drop 2).take (((c::r).drop 2).length - r'.length - 1)) (pos+2) with
       | none=>exact rn
       | some z =>
        have hw':=hw' z hw;rcases z with e | e
        ·intro e' h; cases h; exact hw'
        ·refine ih.r _ _ _ _ _ _ n O oH (by decide) (λ y hy=>?_) wK;rcases List.mem_append.1 hy with hy | hy
         ·exact hfl.1 y hy
         ·rw [List.mem_singleton.1 hy]; exact hw'
    ·cases hi:iE (c::r) with
     | inl k=>exact zb (Dg hi)
     | inr tn =>
      have:=rj hi;exact uc (λ _=>zb (by decide)) (λ hl=>ih.r _ _ _ _ _ _ n O iN vg hp iN)
  ·intro s a h0 h1;rw [gv];refine uc (λ h=>zb h) (λ hk=>?_);have hk:(eG s).2.Ar=0:=Classical.not_not.1 hk;have hx':=ih.e true _ (tp h0 h1 hk);intro q hq
   cases hx:gi f true ((eG s).1.map (mvT a)) with
   | none=>rw [hx] at hq; cases hq
   | some y =>
    rw [hx] at hq;have hx':=hx' y hx;rcases y with e' | ⟨x,l⟩
    ·cases hq; exact hx'
    ·simp only [] at hq;split at hq
     ·cases hq; exact hx'.1
     ·cases hq; exact (show (2:Int)≠0 by decide)
end Go.Ab.R06
end
section
namespace Go.Ab.R06
open Go.Ab Go.Ab.RB Go.Lib
section
variable {p:Prop}
theorem FT (h:p:=by
 refine aa (aQ (vf hL M' he h3 r1 _ _ _ _ _ _ _ _ _ _) ?_);rintro _ ⟨z,rfl,j,l',hz1,hz2⟩
 exact ⟨z,Z,he,j,l',hz1,hz2⟩):p:=h
theorem wQ (h:p:=by
 refine ag (by simp only [aq,n8,ph]; omega) ?_;refine ah _ (rv hL M' _ he h3) ?_;rintro _ ⟨j,rfl,h3⟩
 exact ae Z (aa ⟨he,j,l',.inl ⟨Z,h3⟩⟩)):p:=h
theorem rR (h:p:=by
 refine av (λ hk=>?_) (λ hk=>aa ⟨_,_,j,l',rfl,by simp,h3⟩);refine ah _ (Bb hL M' _ he h3) ?_;rintro _ ⟨j,l',rfl,h3⟩;refine ah _ (Gk hL M' he h3) ?_;rintro ⟨z1,z2⟩ ⟨j,l',h2,h3⟩
 cases h2
 refine ag (by simp only [aq,n8,ph]; omega) ?_
 exact aa ⟨_,_,j,l',Z,by simp,h3⟩):p:=h
theorem kw (h:p:=by
 exact aa ⟨j,Z,h3⟩):p:=h
theorem KV (h:p:=by
 cases h2
 refine ag (by simp only [aq,n8,ph]; omega) ?_
 exact aa ⟨he,_,_,j,l',Z,by simp,h3⟩):p:=h
theorem BG (h:p:=by
 refine bG (eA hL M' h3 O) λ j ⟨h3,h4,h5⟩=>?_
 exact aj _ (ax Z Z) (aa ⟨Z,j,Z,h3⟩)):p:=h
theorem ql (h:p:=by
 refine ah (λ t=>∃ (ks:List ad) (j:Nat) (l':List ac),t=(ks,L,(j:Int),Mp+1,base,e.1,e.2,[])/\Pos L base j (Mp+1) true l') ?_ ?_
 ·refine ah _ (wL hL M' _ he h3) ?_;rintro _ ⟨j,rfl,h3⟩;exact af mv (aa ⟨_,j,_,rfl,h3⟩)
 rintro _ ⟨ks,j,l',rfl,h3⟩;refine ah _ (uk hL M' _ he hn hb h3) ?_;rintro _ ⟨j,l',rfl,h3⟩
 exact aa ⟨he,j,l',Z,h3⟩):p:=h
theorem AF (h:p:=by
 cases hz
 refine ah _ (lO hL M' _ hn hb h3 hxx) ?_;rintro _ ⟨he,j,l',rfl,h3⟩
 exact aa ⟨he,j,l',Z,h3⟩):p:=h
theorem jM (h:p:=by
 cases hq
 exact aa ⟨Z,j,Z,h3⟩):p:=h
theorem G8 (h:p:=by
 rw [if_pos hs] at hq; cases hq;refine af (by simp [hs]) (aa ⟨j,l,by rw [List.append_nil],h3,?_⟩)
 unfold ek; rw [if_pos hs]; rfl):p:=h
theorem xL (h:p:=by
 refine ah _ (uk hL M' _ he hn hb h3) ?_;rintro _ ⟨j,l',rfl,h3⟩
 exact aa ⟨he,j,l',Z,h3⟩):p:=h
theorem Kf (h:p:=by
 refine ah _ (hc _ hx) ?_;rintro ⟨z1,z2⟩ ⟨h,j,h3,h4⟩;replace h:z1=_:=h; subst h; cases h3
 exact h2 _ l j hx h4 hq):p:=h
theorem HI (h:p:=by
 rintro ⟨ks,z⟩ hz;rcases q with e | ⟨ks',l'⟩
 ·obtain ⟨he,j,l',⟨hz,h3⟩ | ⟨hz,h3,h4⟩⟩:=hz
  ·cases hz; exact aa ⟨he,j,l',.inl ⟨rfl,h3⟩⟩
  ·cases hz; exact aa ⟨he,j,l',.inr ⟨rfl,h3,h4⟩⟩
 ·obtain ⟨j,l'',hz,h3,h4⟩:=hz
  cases hz; exact aa ⟨j,l'',rfl,rfl,h3,h4⟩):p:=h
theorem kp (h:p:=by exact Gk hL M' he h3):p:=h
theorem Cr (h:p:=by exact uk hL M' _ he hn hb h3):p:=h
theorem Jy (h:p:=by exact bv (by show _<=(hd b l).fAt+1; omega) (by show (hd b l).fAt+1<=_; omega)):p:=h
theorem cu (h:p:=by simp only [aq,n8,ph]; omega):p:=h
theorem nj (h:p:=by exact xm hL M' _ h3):p:=h
theorem qy (h:p:=by exact Bb hL M' _ he h3):p:=h
theorem xy (h:p:=by exact Ez hL M' _ he h3):p:=h
theorem xU (h:p:=by exact ae s2 (aa Z)):p:=h
theorem A3 (h:p:=by exact lO hL M' _ hn hb h3 hxx):p:=h
theorem Aq (h:p:=by have:=gl.2; simp only [n8]; omega):p:=h
theorem wy (h:p:=by exact Gn ih _ _ gl L base hL M' j (Mp+1) _ h3 hx):p:=h
theorem rC (h:p:=by simpa using hs):p:=h
end
theorem lO {L:List ac}{base:Int}(hL:Gd (L.map (mvT base)))(M':L.length<=1000000000){i:Nat}{Mp:Int}{b:Bool}{l:List ac}(s:Bytes){q:PE⊕(Unit×List ac)}(h0:0<=Mp)(hb:b=decide (0 < Mp))(h:Pos L base i (Mp+1) true l)(hq:ek true s l=some q) :
  Ev2 (λ n _=>bz n (.mk L (i:Int) (Mp+1) base dOk) s) (GO L base Mp b q):=by subst hb; exact Hw hL M' s h0 h hq
theorem uk {L:List ac}{base:Int}(hL:Gd (L.map (mvT base)))(M':L.length<=1000000000){i:Nat}{Mp:Int}{b:Bool}{l:List ac}{e:PE}(s:Bytes)(he:e.1≠0)(h0:0<=Mp)(hb:b=decide (0 < Mp))(h:Pos L base i (Mp+1) true l) :
  Ev2 (λ n _=>bz n (.mk L (i:Int) (Mp+1) base (eD e)) s) (λ z=>∃ (j:Nat) (l':List ac),z=.mk L (j:Int) Mp base (eD e)/\Pos L base j Mp b l'):=by subst hb; exact M4 hL M' s he h0 h
theorem sg6 {b:Bool}{l:List ac}{s:Bytes}(h:sgB b l s=true):(hd b l).Ar≠6:=by have:=(lI.1 h).1; omega
theorem wd6 {b:Bool}{l:List ac}{s:Bytes}(h:wdB b l s=true):(hd b l).Ar≠6:=by have:=(x7.1 h).1; omega
theorem yy (e:ad):ad.mk e.Ar e.fOp e.AI e.Gw (am.mk e.A'.Ar e.A'.E' e.A'.If e.A'.Df e.A'.C') e.By e.fAt=e:=by
 obtain ⟨k,op,nm,key,⟨vk,vn,vs,vi,vks⟩,kids,at'⟩:=e; rfl
def Fl {α:Type}(F:Nat->al->Option (α×al))(b:Bool)(l:List ac)(x:PR α):Prop :=
 ∀ (L:List ac) (base:Int),Gd (L.map (mvT base))->L.length<=1000000000->∀ (i:Nat) (Mp:Int) (q:PE⊕(α×List ac)),Pos L base i Mp b l->x=some q->Ev2 (λ n _=>F n (.mk L (i:Int) Mp base dOk)) (Out L base Mp b q)
def FlC {α:Type}(F:Nat->al->Option (α×al))(l:List ac)(x:PR α):Prop :=
 ∀ (L:List ac) (base:Int),Gd (L.map (mvT base))->L.length<=1000000000->∀ (i:Nat) (Mp:Int) (b:Bool) (q:PE⊕(α×List ac)),0<=Mp->b=decide (0 < Mp)->Pos L base i (Mp+1) true l->x=some q->Ev2 (λ n _=>F n (.mk L (i:Int) (Mp+1) base dOk)) (Out L base Mp b q)
def Ly (L:List ac)(base Mp:Int)(en:Bytes)(out:List ad)(q:PE⊕(List ad×List ac))(r:List ad×List ac×Int×Int×Int×Int×Int×Bytes):Prop:=match q with
 | .inl e=>e.1≠0/\∃ (j:Nat) (l':List ac),((r.2=(L,(j:Int),Mp,base,e.1,e.2,[])/\Pos L base j Mp true l')\/(r.2=(L,(j:Int),Mp,base,0,0,[])/\Pos L base j Mp true l'/\ek true en l'=some (.inl e)))
 | .inr (ks,l')=>∃ (j:Nat) (l'':List ac),r=(out++ks,L,(j:Int),Mp,base,0,0,[])/\Pos L base j Mp true l''/\ek true en l''=some (.inr ((),l'))
def RdO (s:Bytes)(a:Int)(q:PE⊕(Int×Int×Bytes×List ad×Bool))(r:(Bytes×Int×Int×Int×Bytes×(List ad)×Bool)⊕(ao×ar)):Prop:=match q with
 | .inl e=>e.1≠0/\∃ t,r=.inr (eD e,t)
 | .inr (frm,pos,text,parts,Td)=>∃ (i fr:Nat),frm=a+(fr:Int)/\pos=a+(i:Int)/\fr<=i/\i<=s.length/\parts.length<=2*i/\r=.inl (s,a,(i:Int),(fr:Int),text,parts,Td)
def OV (q:PE⊕ad)(r:ad×ao):Prop:=match q with
 | .inl e=>e.1≠0/\r.2=eD e
 | .inr x=>r=(x,dOk)
structure Fol (f:Nat):Prop where
 e:∀ b l,Fl aC b l (gi f b l)
 b:∀ (SR:Nat) (li:Int) b l,li=SR->SR<=6->Fl (λ n p=>a6 n p li) b l (nU f SR b l)
 bl:∀ (SR:Nat) (li:Int) b l (x:ad) (r5:ad×al),li=SR->SR<=5->x.fAt=r5.1.fAt->∀ (L:List ac) (base:Int),Gd (L.map (mvT base))->L.length<=1000000000->∀ (i:Nat) (Mp:Int) (q:PE⊕(ad×List ac)),Pos L base i Mp b l->oW f SR b x l=some q ->
  Ev2 (λ n m=>bS n (a6 n) li r5 m x.Ar x.fOp x.AI x.Gw x.A'.Ar x.A'.E' x.A'.If x.A'.Df x.A'.C' x.By L (i:Int) Mp base 0 0 []) (λ s=>∃ z,s=.inr z/\Out L base Mp b q z)
 u:∀ b l,Fl cS b l (unS f b l)
 pl:∀ b l (x:ad) (r1:ad×al),x.fAt=r1.1.fAt->∀ (L:List ac) (base:Int),Gd (L.map (mvT base))->L.length<=1000000000->∀ (i:Nat) (Mp:Int) (q:PE⊕(ad×List ac)),Pos L base i Mp b l->j4 f b x l=some q ->
  Ev2 (λ n m=>bM n (aC n) r1 m x.Ar x.fOp x.AI x.Gw x.A'.Ar x.A'.E' x.A'.If x.A'.Df x.A'.C' x.By L (i:Int) Mp base 0 0 []) (λ s=>∃ z,s=.inr z/\Out L base Mp b q z)
 p:∀ b l,Fl cH b l (lE f b l)
 s:∀ b l,(hd b l).Ar=3->Fl eP b l (qn f b l)
 n:∀ b l,(hd b l).Ar=1->Fl ge b l (mT f b l)
 i:∀ (en:Bytes) (l:List ac) (out:List ad),Gd l->out.length+l.length<=1000000000->∀ (L:List ac) (base:Int),Gd (L.map (mvT base))->L.length<=1000000000->∀ (i:Nat) (Mp:Int) (q:PE⊕(List ad×List ac)),Pos L base i Mp true l->ip f en l=some q ->
  Ev2 (λ n m=>cK n (aC n) en m out L (i:Int) Mp base 0 0 []) (Ly L base Mp en out q)
 t:∀ (l:List ac) (out:List ad),Gl l->out.length+2*l.length<=3000000000->∀ (L:List ac) (base:Int),Gd (L.map (mvT base))->L.length<=1000000000->∀ (i:Nat) (Mp:Int) (q:PE⊕(List ad×List ac)),Pos L base i Mp true l->oX f l=some q ->
  Ev2 (λ n m=>ce n (aC n) (dc n) m out L (i:Int) Mp base 0 0 []) (Ly L base Mp [125] out q)
 k:∀ l,Fl dc true l (na f l)
 lo:∀ (a k:Int) l,wdB true l [102,111,114]=true->k=12\/k=13->FlC (λ n p=>eM n p a k) l (lC f a k (tl true l))
 tm:∀ (s:Bytes) (a:Int) q,0<=a->a+(s.length:Int)<=1000000000->jC f s a=some q->Ev2 (λ n _=>ff n s a) (·=sC q)
 r:∀ (s:Bytes) (a:Int) (i fr:Nat) (text:Bytes) (parts:List ad) (Td:Bool) q,0<=a->a+(s.length:Int)<=1000000000->i<=s.length->fr<=i->text.length<=4096->parts.length<=2*i->eH f (a+(fr:Int)) (a+(i:Int)) text parts Td (s.drop i)=some q ->
  Ev2 (λ n m=>bZ n (aM n) m s a (i:Int) (fr:Int) text parts Td) (RdO s a q)
 w:∀ (s:Bytes) (a:Int) q,0<=a->a+(s.length:Int)<=1000000000->gv f s a=some q->Ev2 (λ n _=>iv n s a) (OV q)
theorem pB {α β γ:Type}{L:List ac}{base Mp:Int}{b:Bool}{x:PR α}{k:α->List ac->PR β}{q:PE⊕(β×List ac)}{f:Nat->Nat->Option (α×al)}{g:Nat->Nat->α×al->Option γ}{P:γ->Prop}(hq:pb x k=some q)
  (hc:∀ q',x=some q'->Ev2 f (Out L base Mp b q')) (h1:∀ e z (j:Nat) l',e.1≠0->Pos L base j Mp b l'->.inl e=q->Ev2 (λ n m=>g n m (z,.mk L (j:Int) Mp base (eD e))) P)
  (h2:∀ a l (j:Nat),x=some (.inr (a,l))->Pos L base j Mp b l->k a l=some q->Ev2 (λ n m=>g n m (a,.mk L (j:Int) Mp base dOk)) P):Ev2 (λ n m=>(f n m).bind (g n m)) P:=by
 rcases bc hq with ⟨e,hx,rfl⟩ | ⟨a,l,hx,hq⟩
 ·refine ah _ (hc _ hx) ?_;rintro ⟨z1,z2⟩ ⟨he,j,l',h3,h4⟩
  cases h3
  exact h1 e z1 j l' he h4 Z
 ·exact Kf
theorem sK {β γ:Type}{L:List ac}{base Mp:Int}{b:Bool}{x:PR Unit}{k:Unit->List ac->PR β}{q:PE⊕(β×List ac)}{f:Nat->Nat->Option al}{g:Nat->Nat->al->Option γ}{P:γ->Prop}(hq:pb x k=some q)
  (hc:∀ q',x=some q'->Ev2 f (GO L base Mp b q')) (h1:∀ e (j:Nat) l',e.1≠0->Pos L base j Mp b l'->.inl e=q->Ev2 (λ n m=>g n m (.mk L (j:Int) Mp base (eD e))) P)
  (h2:∀ l (j:Nat),x=some (.inr ((),l))->Pos L base j Mp b l->(L.drop j).map (mvT base)=l->k () l=some q->Ev2 (λ n m=>g n m (.mk L (j:Int) Mp base dOk)) P):Ev2 (λ n m=>(f n m).bind (g n m)) P:=by
 rcases bc hq with ⟨e,hx,rfl⟩ | ⟨a,l,hx,hq⟩
 ·refine ah _ (hc _ hx) ?_;rintro _ ⟨he,j,l',rfl,h4⟩;exact h1 e j l' he h4 rfl
 ·refine ah _ (hc _ hx) ?_;rintro _ ⟨j,rfl,h3,h4⟩;exact h2 l j hx h3 h4 hq
theorem EE {p:Prop}(h:p:=by
 rintro e z1 j l' he h3 rfl
 repeat' first
  | exact aa ⟨he,j,l',Z,h3⟩
  | exact ae Z (aa ⟨he,j,l',Z,h3⟩)
  | (refine ah _ qy ?_; rintro _ ⟨j,l',rfl,h3⟩)
  | (refine ah _ xy ?_; rintro _ ⟨j,l',rfl,h3⟩)
  | (refine ah _ Cr ?_; rintro _ ⟨j,l',rfl,h3⟩)
  | (refine ah _ kp ?_; rintro ⟨z1,z2⟩ ⟨j,l',h2,h3⟩; cases h2)
  | (refine ah _ (vb hL M' he h3) ?_; rintro ⟨z1,z2⟩ ⟨j,l',h2,h3⟩; cases h2)
  | (refine ah _ sx ?_; rintro _ ⟨j,rfl,h3⟩)
  | (refine ah _ (wL hL M' _ he h3) ?_; rintro _ ⟨j,rfl,h3⟩)):p:=h
theorem EX {p:Prop}(h:p:=by
 rintro e j l' he h3 rfl
 repeat' first
  | exact aa ⟨he,j,l',Z,h3⟩
  | exact ae Z (aa ⟨he,j,l',Z,h3⟩)
  | (refine ah _ qy ?_; rintro _ ⟨j,l',rfl,h3⟩)
  | (refine ah _ xy ?_; rintro _ ⟨j,l',rfl,h3⟩)
  | (refine ah _ Cr ?_; rintro _ ⟨j,l',rfl,h3⟩)
  | (refine ah _ kp ?_; rintro ⟨z1,z2⟩ ⟨j,l',h2,h3⟩; cases h2)
  | (refine ah _ (vb hL M' he h3) ?_; rintro ⟨z1,z2⟩ ⟨j,l',h2,h3⟩; cases h2)
  | (refine ah _ sx ?_; rintro _ ⟨j,rfl,h3⟩)
  | (refine ah _ (wL hL M' _ he h3) ?_; rintro _ ⟨j,rfl,h3⟩)):p:=h
theorem RV {f:Nat}(ih:Fol f):∀ b l,Fl aC b l (gi (f+1) b l):=by
 intro b l L base hL M' i Mp q h hq;rw [gi] at hq;refine aP ?_;simp only [aC];refine pB hq (λ _ hx=>ih.b 0 0 b l rfl (by decide) L base hL M' i Mp _ h hx) ?_ ?_
 ·exact EE
 intro c l1 j hx h3 hq;refine bG nj λ j h3=>?_;by_cases hs:sgB b l1 [63]=true
 ·
  rw [if_pos hs] at hq;refine af (by simp [hs]) ?_;refine bG (eA hL M' h3 (sg6 hs)) λ j ⟨h3,h4,h5⟩=>?_;refine pB hq (λ _ hx=>ih.e b _ L base hL M' j Mp _ h3 hx) ?_ ?_
  ·exact EE
  intro a l2 j hx h3 hq;refine sK hq (λ _ hx=>od hL M' _ h3 hx) ?_ ?_
  ·exact EX
  intro l3 j hx h3 h4 hq;refine pB hq (λ _ hx=>ih.e b _ L base hL M' j Mp _ h3 hx) ?_ ?_
  ·exact EE
  intro d l4 j hx h3 hq;exact jM
 ·
  rw [if_neg hs] at hq; cases hq;exact ae rC oN
theorem RU {f:Nat}(ih:Fol f):∀ (SR:Nat) (li:Int) b l,li=SR->SR<=6->Fl (λ n p=>a6 n p li) b l (nU (f+1) SR b l):=by
 intro SR li b l X7 h6 L base hL M' i Mp q h hq;rw [nU] at hq;refine aP ?_;simp only [a6];by_cases hv:5 < SR
 ·
  rw [if_pos hv] at hq;refine ae O ?_;refine ah _ (ih.u b l L base hL M' i Mp _ h hq) ?_;exact jw
 ·
  rw [if_neg hv] at hq;refine af O (ag aB ?_);refine pB hq (λ _ hx=>ih.b (SR+1) (li+1) b l O O  L base hL M' i Mp _ h hx) ?_ ?_
  ·
   rintro e z1 j l' he h3 rfl;subst X7;refine cm (aQ F9 ?_);rintro _ ⟨z,rfl,j,l',hz1,hz2⟩;exact ⟨he,j,l',hz1,hz2⟩
  intro c l1 j hx h3 hq;refine cm (aQ (aO (ih.bl SR li b _ _ (_,.mk L (j:Int) Mp base dOk) X7 O rfl L base hL M' j Mp q h3 hq)) ?_);exact xG
theorem P2 {f:Nat}(ih:Fol f):∀ (SR:Nat) (li:Int) b l (x:ad) (r5:ad×al),li=SR->SR<=5->x.fAt=r5.1.fAt->∀ (L:List ac) (base:Int),Gd (L.map (mvT base))->L.length<=1000000000->∀ (i:Nat) (Mp:Int) (q:PE⊕(ad×List ac)),Pos L base i Mp b l->oW (f+1) SR b x l=some q ->
  Ev2 (λ n m=>bS n (a6 n) li r5 m x.Ar x.fOp x.AI x.Gw x.A'.Ar x.A'.E' x.A'.If x.A'.Df x.A'.C' x.By L (i:Int) Mp base 0 0 []) (λ s=>∃ z,s=.inr z/\Out L base Mp b q z):=by
 intro SR li b l x r5 X7 hl5 S' L base hL M' i Mp q h hq;rw [oW] at hq;refine aw ?_;simp only [bS];subst X7;refine aj _ (ax (zH hl5) rfl) ?_;have ha:=Fy hL M' ((iz SR).map (·.1)) De h;rw [KB] at ha;have eta:ad.mk x.Ar x.fOp x.AI x.Gw (am.mk x.A'.Ar x.A'.E' x.A'.If x.A'.Df x.A'.C') x.By r5.1.fAt=x:=by rw [<- S']; exact yy x
 rw [eta]
 cases hp:vu b l SR with
 | none =>
  rw [hp] at ha hq
  cases hq
  refine ah _ ha ?_;rintro _ ⟨j,rfl,h3⟩;exact ae rfl (aa ⟨_,rfl,rfl,j,rfl,h3⟩)
 | some p =>
  rw [hp] at ha hq;obtain ⟨hm,hs⟩:=DX hp;refine ah _ ha ?_;rintro _ ⟨j,rfl,h3⟩;refine af mv ?_;refine bG (eA hL M' h3 (sg6 hs)) λ j ⟨h3,h4,h5⟩=>?_;refine ag aB ?_;have hq:pb (nU f (SR+1) b (tl b l)) (λ y l=>oW f SR b (ad.mk 7 p.2 [] [] v0 [x,y] x.fAt) l)=some q:=hq;refine pB hq (λ _ hx=>ih.b (SR+1) ((SR:Int)+1) b _ O O  L base hL M' j Mp _ h3 hx) ?_ ?_
  ·
   rintro e z1 j l' he h3 rfl;refine aj _ (Ny hl5 hm) ?_;refine aQ (vS hL M' he h3 hl5 r5 _ _ _ _ _ _ _ _ _ _) ?_;rintro _ ⟨z,rfl,j,l',hz1,hz2⟩;exact ⟨z,rfl,he,j,l',hz1,hz2⟩
  intro y l1 j hx h3 hq;refine aj _ (Ny hl5 hm) ?_;exact ih.bl SR SR b _ (ad.mk 7 p.2 [] [] v0 [x,_] x.fAt) r5 rfl hl5 S' L base hL M' j Mp q h3 hq
theorem G0 {f:Nat}(ih:Fol f):∀ b l,Fl dv b l (pb (lE f b l) λ e l=>j4 f b e l):=by
 intro b l L base hL M' i Mp q h hq;refine aP ?_;simp only [dv];refine pB hq (λ _ hx=>ih.p b l L base hL M' i Mp _ h hx) ?_ ?_
 ·
  rintro e z1 j l' he h3 rfl;refine cm (aQ GD ?_);rintro _ ⟨z,rfl,j,l',hz1,hz2⟩;exact ⟨he,j,l',hz1,hz2⟩
 intro c l1 j hx h3 hq;refine cm (aQ (aO (ih.pl b _ _ (_,.mk L (j:Int) Mp base dOk) rfl L base hL M' j Mp q h3 hq)) ?_);exact xG
theorem Sm {f:Nat}(ih:Fol f):∀ b l,Fl cS b l (unS (f+1) b l):=by
 intro b l L base hL M' i Mp q h hq;rw [unS] at hq;refine aP ?_;simp only [cS];by_cases hs:sgB b l [33]=true
 ·
  rw [if_pos hs] at hq;refine ah (λ t=>∃ j:Nat,t=(1,L,(j:Int),Mp,base,0,0,[])/\Pos L base j Mp b l) ?_ ?_
  ·
   refine bG qw λ j h3=>?_;exact ae hs qz
  ·
   rintro _ ⟨j,rfl,h3⟩;refine af (show ¬ (1:Int)=0 by decide) ?_;refine bG (eA hL M' h3 (sg6 hs)) λ j ⟨h3,h4,h5⟩=>?_;refine pB hq (λ _ hx=>ih.u b _ L base hL M' j Mp _ h3 hx) ?_ ?_
   ·exact EE
   intro c l1 j hx h3 hq;exact jM
 rw [if_neg hs] at hq;by_cases hs2:sgB b l [45]=true
 ·
  rw [if_pos hs2] at hq;refine ah (λ t=>∃ j:Nat,t=(2,L,(j:Int),Mp,base,0,0,[])/\Pos L base j Mp b l) ?_ ?_
  ·
   refine bG qw λ j h3=>?_;refine af hs ?_;refine bG nj λ j h3=>?_;exact ae hs2 qz
  ·
   rintro _ ⟨j,rfl,h3⟩;refine af (show ¬ (2:Int)=0 by decide) ?_;refine bG (eA hL M' h3 (sg6 hs2)) λ j ⟨h3,h4,h5⟩=>?_;refine pB hq (λ _ hx=>ih.u b _ L base hL M' j Mp _ h3 hx) ?_ ?_
   ·exact EE
   intro c l1 j hx h3 hq;exact jM
 rw [if_neg hs2] at hq;refine ah (λ t=>∃ j:Nat,t=(0,L,(j:Int),Mp,base,0,0,[])/\Pos L base j Mp b l) ?_ ?_
 ·
  refine bG qw λ j h3=>?_;refine af hs ?_;refine bG nj λ j h3=>?_;exact af hs2 qz
 ·
  rintro _ ⟨j,rfl,h3⟩;refine ae rfl ?_;refine ah _ (G0 ih b l L base hL M' j Mp _ h3 hq) ?_;exact jw
theorem PI {f:Nat}(ih:Fol f):∀ b l (x:ad) (r1:ad×al),x.fAt=r1.1.fAt->∀ (L:List ac) (base:Int),Gd (L.map (mvT base))->L.length<=1000000000->∀ (i:Nat) (Mp:Int) (q:PE⊕(ad×List ac)),Pos L base i Mp b l->j4 (f+1) b x l=some q ->
  Ev2 (λ n m=>bM n (aC n) r1 m x.Ar x.fOp x.AI x.Gw x.A'.Ar x.A'.E' x.A'.If x.A'.Df x.A'.C' x.By L (i:Int) Mp base 0 0 []) (λ s=>∃ z,s=.inr z/\Out L base Mp b q z):=by
 intro b l x r1 S' L base hL M' i Mp q h hq;have hn:=h.2.1;have hb:=h.2.2.2.1;rw [j4] at hq;refine aw ?_;simp only [bM];have eta:ad.mk x.Ar x.fOp x.AI x.Gw (am.mk x.A'.Ar x.A'.E' x.A'.If x.A'.Df x.A'.C') x.By r1.1.fAt=x:=by rw [<- S']; exact yy x
 rw [eta];refine cm ?_;refine bG qw λ j h3=>?_;by_cases hs:sgB b l [46]=true
 ·
  rw [if_pos hs] at hq;refine ae hs ?_;refine bG (eA hL M' h3 (sg6 hs)) λ j ⟨h3,h4,h5⟩=>?_;refine bG (gC hL M' h3) λ j ⟨h3,h4,h5⟩=>?_;by_cases hk:(hd b (tl b l)).Ar=1
  ·
   rw [if_pos hk] at hq;refine ae hk ?_;refine bG (eA hL M' h3 O) λ j ⟨h3,h4,h5⟩=>?_;exact aa (ih.pl b _ (ad.mk 4 0 (hd b (tl b l)).B' [] v0 [x] x.fAt) r1 S' L base hL M' j Mp q h3 hq)
  ·
   rw [if_neg hk] at hq; cases hq;refine af hk (aj _ x6 (aa ⟨_,rfl,(by decide:(2:Int)≠0),j,_,rfl,h3⟩))
 rw [if_neg hs] at hq;refine af hs ?_;refine bG nj λ j h3=>?_;by_cases hs2:sgB b l [91]=true
 ·
  rw [if_pos hs2] at hq;refine ae hs2 ?_;refine ah _ (pS hL M' h3 (sg6 hs2)) ?_;rintro _ ⟨j,rfl,h3⟩;refine pB hq (λ _ hx=>ih.e true _ L base hL M' j (Mp+1) _ h3 hx) ?_ ?_
  ·
   rintro e z1 j l' he h3 rfl;refine ah _ Cr ?_;rintro _ ⟨j,l',rfl,h3⟩;exact FT
  intro y l1 j hx h3 hq;refine sK hq (λ _ hx=>lO hL M' _ hn hb h3 hx) ?_ ?_
  ·
   rintro e j l' he h3 rfl;exact FT
  intro l2 j hx h3 h4 hq;exact aa (ih.pl b _ (ad.mk 5 0 [] [] v0 [x,_] x.fAt) r1 S' L base hL M' j Mp q h3 hq)
 ·
  rw [if_neg hs2] at hq; cases hq;exact af hs2 (aa ⟨_,rfl,rfl,j,rfl,h3⟩)
theorem Pos.gl {L:List ac}{base:Int}(hL:Gd (L.map (mvT base)))(M':L.length<=1000000000){i:Nat}{Mp:Int}{b:Bool}{l:List ac}(h:Pos L base i Mp b l)(hk:(hd b l).Ar≠6):Gl (tl b l):=by
 refine ⟨CQ (h.gd hL) hk,?_⟩;have h1:=congrArg List.length (qe (h.gd hL));have h2:=congrArg List.length h.2.2.2.2;have h3:=AA b ((L.drop i).map (mvT base));rw [List.length_map,ld] at h3;rw [aq] at h1;omega
theorem Du {b:Bool}{s:Bytes}{l:List ac}{e:PE}(h:ek b s l=some (.inl e)):e.1≠0:=by
 unfold ek at h;split at h
 ·cases h
 ·cases h; exact (show (2:Int)≠0 by decide)
def LP (L:List ac)(base Mp:Int)(en:Bytes)(q:PE⊕(List ad×List ac))(r:List ad×al):Prop:=match q with
 | .inl e=>e.1≠0/\∃ (j:Nat) (l':List ac),(r.2=.mk L (j:Int) Mp base (eD e)/\Pos L base j Mp true l')\/(r.2=.mk L (j:Int) Mp base dOk/\Pos L base j Mp true l'/\ek true en l'=some (.inl e))
 | .inr (ks,l')=>∃ (j:Nat) (l'':List ac),r.1=ks/\r.2=.mk L (j:Int) Mp base dOk/\Pos L base j Mp true l''/\ek true en l''=some (.inr ((),l'))
theorem Gn {f:Nat}(ih:Fol f):∀ (en:Bytes) (l:List ac),Gl l->∀ (L:List ac) (base:Int),Gd (L.map (mvT base))->L.length<=1000000000->∀ (i:Nat) (Mp:Int) (q:PE⊕(List ad×List ac)),Pos L base i Mp true l->ip f en l=some q ->
  Ev2 (λ n _=>gf n (.mk L (i:Int) Mp base dOk) en) (LP L base Mp en q):=by
 intro en l gl L base hL M' i Mp q h hq;refine aP ?_;simp only [gf];refine ah _ (aO (ih.i en l [] gl.1 Aq L base hL M' i Mp q h hq)) ?_;exact HI
theorem DG {f:Nat}(ih:Fol f):∀ (l:List ac),Gl l->∀ (L:List ac) (base:Int),Gd (L.map (mvT base))->L.length<=1000000000->∀ (i:Nat) (Mp:Int) (q:PE⊕(List ad×List ac)),Pos L base i Mp true l->oX f l=some q ->
  Ev2 (λ n _=>fH n (.mk L (i:Int) Mp base dOk)) (LP L base Mp [125] q):=by
 intro l gl L base hL M' i Mp q h hq;refine aP ?_;simp only [fH];refine ah _ (aO (ih.t l [] gl Aq L base hL M' i Mp q h hq)) ?_;exact HI
theorem SD {f:Nat}(ih:Fol f):∀ b l,Fl cH b l (lE (f+1) b l):=by
 intro b l L base hL M' i Mp q h hq;have hn:=h.2.1;have hb:=h.2.2.2.1;rw [lE] at hq;refine aP ?_;simp only [cH,aR,cl];refine af mv ?_;refine bG (gC hL M' h) λ j ⟨h3,h4,h5⟩=>?_;have tk:=sX (h3.gd hL);have t1':=tk.1;have t2':=tk.2.1;by_cases k2:(hd b l).Ar=2
 ·
  rw [if_pos k2] at hq;refine ae k2 (aj _ (yG _ (show (hd b l).B'.length<=1000000000 by omega)) ?_);by_cases hz:(oG (hd b l).B').2=0
  ·
   rw [if_pos hz] at hq; cases hq;refine ae hz ?_;exact BG
  ·
   rw [if_neg hz] at hq; cases hq;exact af hz (aj _ x6 (aa ⟨hz,j,l,rfl,h3⟩))
 rw [if_neg k2] at hq;refine af k2 ?_;by_cases k3:(hd b l).Ar=3
 ·
  rw [if_pos k3] at hq;refine ae k3 (ah _ (ih.s b l k3 L base hL M' j Mp q h3 hq) ?_);exact jw
 rw [if_neg k3] at hq;refine af k3 ?_;by_cases k1:(hd b l).Ar=1
 ·
  rw [if_pos k1] at hq;refine ae k1 (ah _ (ih.n b l k1 L base hL M' j Mp q h3 hq) ?_);exact jw
 rw [if_neg k1] at hq;refine af k1 ?_;by_cases k4:(hd b l).Ar=4
 ·
  have sg:∀ s,sgB b l s=true↔(hd b l).B'=s:=λ s=>by rw [lI]; exact ⟨λ h=>h.2,λ h=>⟨k4,h⟩⟩
  refine ae k4 (ah (Out L base Mp b q) (aP ?_) (λ z hz=>aa hz));simp only [gD];refine bG (gC hL M' h3) λ j ⟨h3,h4,h5⟩=>?_;by_cases s1:(hd b l).B'=[40]
  ·
   rw [if_pos ((sg _).2 s1)] at hq;refine ae s1 ?_;refine ah _ (pS hL M' h3 O) ?_;rintro _ ⟨j,rfl,h3⟩;refine pB hq (λ _ hx=>ih.e true _ L base hL M' j (Mp+1) _ h3 hx) ?_ ?_
   ·exact EE
   intro c l1 j hx h3 hq;refine sK hq (λ _ hx=>lO hL M' _ hn hb h3 hx) ?_ ?_
   ·exact EX
   intro l2 j hx h3 h4 hq;exact jM
  rw [if_neg (λ h=>s1 ((sg _).1 h))] at hq;refine af s1 ?_;by_cases s2:(hd b l).B'=[91]
  ·
   rw [if_pos ((sg _).2 s2)] at hq;refine ae s2 ?_;have gl:=h3.gl hL M' (by omega:(hd b l).Ar≠6);refine ah _ (pS hL M' h3 O) ?_;rintro _ ⟨j,rfl,h3⟩;refine bG (rm hL M' _ h3) λ j h3=>?_;by_cases hw:wdB true (tl b l) [102,111,114]=true
   ·
    rw [if_pos hw] at hq;refine ae hw (ah _ (ih.lo (hd b l).fAt 12 (tl b l) hw (by decide) L base hL M' j Mp b q hn hb h3 hq) ?_);exact jw
   ·
    rw [if_neg hw] at hq;refine af hw ?_;rcases bc hq with ⟨e,hx,rfl⟩ | ⟨ks,l1,hx,hq⟩
    ·
     refine ah _ wy ?_;rintro ⟨ys,z⟩ ⟨he,j,l',⟨hz,h3⟩ | ⟨hz,h3,hxx⟩⟩
     ·cases hz
      exact xL
     ·exact AF
    ·
     refine ah _ wy ?_;rintro ⟨ys,z⟩ ⟨j,l'',hy,hz,h3,hxx⟩
     cases hy; cases hz
     refine ah _ A3 ?_;rintro _ ⟨j,rfl,h3,h4⟩;exact jM
  rw [if_neg (λ h=>s2 ((sg _).1 h))] at hq;refine af s2 ?_;by_cases s3:(hd b l).B'=[123]
  ·
   rw [if_pos ((sg _).2 s3)] at hq;refine ae s3 ?_;have gl:=h3.gl hL M' (by omega:(hd b l).Ar≠6);refine ah _ (pS hL M' h3 O) ?_;rintro _ ⟨j,rfl,h3⟩;refine bG (rm hL M' _ h3) λ j h3=>?_;by_cases hw:wdB true (tl b l) [102,111,114]=true
   ·
    rw [if_pos hw] at hq;refine ae hw (ah _ (ih.lo (hd b l).fAt 13 (tl b l) hw (by decide) L base hL M' j Mp b q hn hb h3 hq) ?_);exact jw
   ·
    rw [if_neg hw] at hq;refine af hw ?_;rcases bc hq with ⟨e,hx,rfl⟩ | ⟨ks,l1,hx,hq⟩
    ·
     refine ah _ (DG ih _ gl L base hL M' j (Mp+1) _ h3 hx) ?_;rintro ⟨ys,z⟩ ⟨he,j,l',⟨hz,h3⟩ | ⟨hz,h3,hxx⟩⟩
     ·cases hz
      exact xL
     ·exact AF
    ·
     refine ah _ (DG ih _ gl L base hL M' j (Mp+1) _ h3 hx) ?_;rintro ⟨ys,z⟩ ⟨j,l'',hy,hz,h3,hxx⟩
     cases hy; cases hz
     refine ah _ A3 ?_;rintro _ ⟨j,rfl,h3,h4⟩;exact jM
  rw [if_neg (λ h=>s3 ((sg _).1 h))] at hq; cases hq;exact af s3 uI
 ·
  have sn:∀ s,¬ sgB b l s=true:=λ s h=>k4 (lI.1 h).1;rw [if_neg (sn _),if_neg (sn _),if_neg (sn _)] at hq; cases hq;exact af k4 uI
theorem R8 {f:Nat}(ih:Fol f):∀ b l,(hd b l).Ar=1->Fl ge b l (mT (f+1) b l):=by
 intro b l k1 L base hL M' i Mp q h hq;have hn:=h.2.1;have hb:=h.2.2.2.1;rw [mT] at hq;refine aP ?_;simp only [ge];refine bG (gC hL M' h) λ j ⟨h3,h4,h5⟩=>?_;by_cases s1:(hd b l).B'=[110,117,108,108]
 ·
  rw [if_pos s1] at hq; cases hq;refine ae s1 ?_;exact BG
 rw [if_neg s1] at hq;refine af s1 ?_;by_cases s2:(hd b l).B'=[116,114,117,101]
 ·
  rw [if_pos s2] at hq; cases hq;refine aj true xU (ae rfl ?_);refine bG (eA hL M' h3 O) λ j ⟨h3,h4,h5⟩=>?_;exact aj 1 xU (aj _ oe oN)
 rw [if_neg s2] at hq;by_cases s3:(hd b l).B'=[102,97,108,115,101]
 ·
  rw [if_pos s3] at hq; cases hq;refine aj true (af s2 (aa (decide_eq_true s3))) (ae rfl ?_);refine bG (eA hL M' h3 O) λ j ⟨h3,h4,h5⟩=>?_;exact aj 0 (af s2 (aa rfl)) (aj _ oe oN)
 rw [if_neg s3] at hq;refine aj false (af s2 (aa (decide_eq_false s3))) (af mv (aj _ uH ?_));by_cases s4:kR (hd b l).B'=true
 ·
  rw [if_pos s4] at hq; cases hq;exact ae s4 uI
 rw [if_neg s4] at hq;refine af s4 ?_;refine bG (eA hL M' h3 O) λ j ⟨h3,h4,h5⟩=>?_;refine bG nj λ j h3=>?_;by_cases s5:sgB b (tl b l) [40]=true
 ·
  rw [if_pos s5] at hq;refine af (by simp [s5]) ?_;have gl:=h3.gl hL M' (sg6 s5);refine ah _ (pS hL M' h3 (sg6 s5)) ?_;rintro _ ⟨j,rfl,h3⟩;rcases bc hq with ⟨e,hx,rfl⟩ | ⟨ks,l1,hx,hq⟩
  ·
   refine ah _ wy ?_;rintro ⟨ys,z⟩ ⟨he,j,l',⟨hz,h3⟩ | ⟨hz,h3,hxx⟩⟩
   ·cases hz
    exact xL
   ·exact AF
  ·
   refine ah _ wy ?_;rintro ⟨ys,z⟩ ⟨j,l'',hy,hz,h3,hxx⟩
   cases hy; cases hz
   refine ah _ A3 ?_;rintro _ ⟨j,rfl,h3,h4⟩;exact jM
 ·
  rw [if_neg s5] at hq; cases hq;exact ae (by simpa using s5) oN
theorem Ss {f:Nat}(ih:Fol f):∀ (en:Bytes) (l:List ac) (out:List ad),Gd l->out.length+l.length<=1000000000->∀ (L:List ac) (base:Int),Gd (L.map (mvT base))->L.length<=1000000000->∀ (i:Nat) (Mp:Int) (q:PE⊕(List ad×List ac)),Pos L base i Mp true l->ip (f+1) en l=some q ->
  Ev2 (λ n m=>cK n (aC n) en m out L (i:Int) Mp base 0 0 []) (Ly L base Mp en out q):=by
 intro en l out hg SS L base hL M' i Mp q h hq;have gl:Gl l:=⟨hg,by omega⟩
 have gt:=gll (b:=true) gl;rw [ip] at hq;refine aw ?_;simp only [cK,aR,cl];refine ah (λ t=>∃ j:Nat,t=(!sgB true l en,L,(j:Int),Mp,base,0,0,[])/\Pos L base j Mp true l) ?_ ?_
 ·
  refine ae Z ?_;refine bG qw λ j h3=>?_;exact kw
 rintro _ ⟨j,rfl,h3⟩;by_cases hs:sgB true l en=true
 ·
  exact G8
 rw [if_neg hs] at hq;refine ae rC ?_;refine pB hq (λ _ hx=>ih.e true l L base hL M' j Mp _ h3 hx) ?_ ?_
 ·
  rintro e z1 j l' he h3 rfl;exact wQ
 intro x l1 j hx h3 hq;have f1:=(fct f).e true l gl _ hx;refine ag cu ?_;refine bG nj λ j h3=>?_;by_cases hc:sgB true l1 [44]=true
 ·
  rw [if_pos hc] at hq;refine af (by simp [hc]) ?_;have b1:=f1.2.1.length_le;have b2:=gll (b:=true) f1.2.2;have g2:=glt f1.2.2 hc;refine bG (eA hL M' h3 (sg6 hc)) λ j ⟨h3,h4,h5⟩=>?_;rcases bc hq with ⟨e,hy,rfl⟩ | ⟨ks,l2,hy,hq⟩
  ·
   exact aQ (ih.i en _ (out++[_]) g2.1 kt L base hL M' j Mp _ h3 hy) (λ r hr=>hr)
  ·
   cases hq
   refine aQ (ih.i en _ (out++[_]) g2.1 kt L base hL M' j Mp _ h3 hy) ?_;rintro r ⟨j,l'',rfl,h3,hn⟩;exact ⟨j,l'',by rw [List.append_assoc]; rfl,h3,hn⟩
 ·
  rw [if_neg hc] at hq;refine ae (by simpa using hc) ?_;rcases bc hq with ⟨e,hy,rfl⟩ | ⟨u,l2,hy,hq⟩
  ·exact aa ⟨Du hy,j,l1,.inr ⟨Z,h3,hy⟩⟩
  ·cases hq
   exact aa ⟨j,l1,Z,h3,hy⟩
theorem Sb {f:Nat}(ih:Fol f):∀ (l:List ac) (out:List ad),Gl l->out.length+2*l.length<=3000000000->∀ (L:List ac) (base:Int),Gd (L.map (mvT base))->L.length<=1000000000->∀ (i:Nat) (Mp:Int) (q:PE⊕(List ad×List ac)),Pos L base i Mp true l->oX (f+1) l=some q ->
  Ev2 (λ n m=>ce n (aC n) (dc n) m out L (i:Int) Mp base 0 0 []) (Ly L base Mp [125] out q):=by
 intro l out gl SS L base hL M' i Mp q h hq;have hgn:=qe (h.gd hL);rw [oX] at hq;refine aw ?_;simp only [ce,aR,cl];refine ah (λ t=>∃ j:Nat,t=(!sgB true l [125],L,(j:Int),Mp,base,0,0,[])/\Pos L base j Mp true l) ?_ ?_
 ·
  refine ae Z ?_;refine bG qw λ j h3=>?_;exact kw
 rintro _ ⟨j,rfl,h3⟩;by_cases hs:sgB true l [125]=true
 ·
  exact G8
 rw [if_neg hs] at hq;refine ae rC ?_;refine pB hq (λ _ hx=>ih.k l L base hL M' j Mp _ h3 hx) ?_ ?_
 ·
  rintro e z1 j l' he h3 rfl;refine ag cu ?_;refine ah _ qy ?_;rintro _ ⟨j,l',rfl,h3⟩;refine ah _ kp ?_;rintro ⟨z1,z2⟩ ⟨j,l',h2,h3⟩
  cases h2
  exact wQ
 intro x l1 j hx h3 hq;refine ag cu ?_;refine sK hq (λ _ hy=>od hL M' _ h3 hy) ?_ ?_
 ·
  rintro e j l' he h3 rfl;refine ah _ kp ?_;rintro ⟨z1,z2⟩ ⟨j,l',h2,h3⟩
  cases h2
  exact wQ
 intro l2 j hy h3 h4 hq;refine pB hq (λ _ hv=>ih.e true l2 L base hL M' j Mp _ h3 hv) ?_ ?_
 ·
  rintro e z1 j l' he h3 rfl;exact wQ
 intro y l3 j hv h3 hq;refine ag cu ?_;refine bG nj λ j h3=>?_;by_cases hc:sgB true l3 [44]=true
 ·
  rw [if_pos hc] at hq;refine af (by simp [hc]) ?_;have gt:=gll (b:=true) gl;have f1:=(fct f).k l gl _ hx;have f2:=cW (b:=true) (s:=[61]) f1.2.2 _ hy;have f3:=(fct f).e true l2 f2.2.2 _ hv;have b1:=f1.2.1.length_le;have b2:=(f2.2.1.trans (tlS true l1)).length_le;have b3:=(f3.2.1.trans (tlS true l2)).length_le;have b4:=gll (b:=true) f3.2.2;have g2:=glt f3.2.2 hc;refine bG (eA hL M' h3 (sg6 hc)) λ j ⟨h3,h4,h5⟩=>?_;rcases bc hq with ⟨e,hr,rfl⟩ | ⟨ks,l4,hr,hq⟩
  ·
   exact aQ (ih.t _ ((out++[_])++[_]) g2 kt L base hL M' j Mp _ h3 hr) (λ r hr=>hr)
  ·
   cases hq
   refine aQ (ih.t _ ((out++[_])++[_]) g2 kt L base hL M' j Mp _ h3 hr) ?_;rintro r ⟨j,l'',rfl,h3,hn⟩;exact ⟨j,l'',by rw [List.append_assoc,List.append_assoc]; rfl,h3,hn⟩
 ·
  rw [if_neg hc] at hq;refine ae (by simpa using hc) ?_;rcases bc hq with ⟨e,hr,rfl⟩ | ⟨u,l4,hr,hq⟩
  ·exact aa ⟨Du hr,j,l3,.inr ⟨Z,h3,hr⟩⟩
  ·cases hq
   exact aa ⟨j,l3,by rw [List.append_assoc]; rfl,h3,hr⟩
theorem So {f:Nat}(ih:Fol f):∀ l,Fl dc true l (na (f+1) l):=by
 intro l L base hL M' i Mp q h hq;have hn:=h.2.1;have hb:=h.2.2.2.1;rw [na] at hq;refine aP ?_;simp only [dc];refine bG (gC hL M' h) λ j ⟨h3,h4,h5⟩=>?_;by_cases k1:(hd true l).Ar=1
 ·
  rw [if_pos k1] at hq; cases hq;refine ae k1 ?_;exact BG
 rw [if_neg k1] at hq;refine af k1 ?_;by_cases k3:(hd true l).Ar=3
 ·
  rw [if_pos k3] at hq;refine ae k3 (ah _ (ih.s true l k3 L base hL M' j Mp q h3 hq) ?_);exact jw
 rw [if_neg k3] at hq;refine af k3 ?_;refine bG nj λ j h3=>?_;by_cases s1:sgB true l [40]=true
 ·
  rw [if_pos s1] at hq;refine ae s1 ?_;refine ah _ (pS hL M' h3 (sg6 s1)) ?_;rintro _ ⟨j,rfl,h3⟩;refine pB hq (λ _ hx=>ih.e true _ L base hL M' j (Mp+1) _ h3 hx) ?_ ?_
  ·exact EE
  intro c l1 j hx h3 hq;refine sK hq (λ _ hx=>lO hL M' _ hn hb h3 hx) ?_ ?_
  ·exact EX
  intro l2 j hx h3 h4 hq;exact jM
 ·
  rw [if_neg s1] at hq; cases hq;exact af s1 uI
theorem O6 {f:Nat}(ih:Fol f):∀ (a k:Int) l,wdB true l [102,111,114]=true->k=12\/k=13->FlC (λ n p=>eM n p a k) l (lC (f+1) a k (tl true l)):=by
 intro a k l hw hk L base hL M' i Mp b q hn hb h hq;rw [lC] at hq;refine aP ?_;simp only [eM];refine bG (eA hL M' h (wd6 hw)) λ j ⟨h3,h4,h5⟩=>?_;refine pB hq (λ _ hx=>po hL M' h3 hx) ?_ ?_
 ·
  rintro e z1 j l' he h3 rfl;refine ah (λ t=>∃ (w1 w2:Bytes) (j:Nat) (l':List ac),t=(w1,w2,L,(j:Int),Mp+1,base,e.1,e.2,[])/\Pos L base j (Mp+1) true l') ?_ ?_
  ·refine ah _ sx ?_;rintro _ ⟨j,rfl,h3⟩;exact af mv (aa ⟨_,_,j,_,rfl,h3⟩)
  rintro _ ⟨w1,w2,j,l',rfl,h3⟩;refine ah _ xy ?_;rintro _ ⟨j,l',rfl,h3⟩;refine ah _ kp ?_;rintro ⟨z1,z2⟩ ⟨j,l',h2,h3⟩
  cases h2
  refine ag cu ?_;refine ah _ qy ?_;rintro _ ⟨j,l',rfl,h3⟩;refine ah _ kp ?_;rintro ⟨z1,z2⟩ ⟨j,l',h2,h3⟩
  cases h2
  refine ag cu ?_;refine ah (λ t=>∃ (en:Bytes) (ks:List ad) (j:Nat) (l':List ac),t=(en,ks,L,(j:Int),Mp+1,base,e.1,e.2,[])/\ks.length<=3/\Pos L base j (Mp+1) true l') ?_ ?_
  ·exact rR
  rintro _ ⟨en,ks,j,l',rfl,hks,h3⟩;exact ql
 intro v l1 j hx h3 hq;rcases bc hq with ⟨e,hy,rfl⟩ | ⟨nk,l2,hy,hq⟩
 ·
  refine ah (λ t=>e.1≠0/\∃ (w1 w2:Bytes) (j:Nat) (l':List ac),t=(w1,w2,L,(j:Int),Mp+1,base,e.1,e.2,[])/\Pos L base j (Mp+1) true l') ?_ ?_
  ·
   refine bG nj λ j h3=>?_;by_cases hc:sgB true l1 [44]=true
   ·
    rw [if_pos hc] at hy;refine ae hc ?_;refine bG (eA hL M' h3 (sg6 hc)) λ j ⟨h3,h4,h5⟩=>?_;rcases bc hy with ⟨e,hz,hee⟩ | ⟨v2,l3,hz,hee⟩
    ·cases hee
     refine ah _ (po hL M' h3 hz) ?_;rintro ⟨z1,z2⟩ ⟨he,j,l',h2,h3⟩
     cases h2
     exact aa ⟨he,_,_,j,l',Z,h3⟩
    ·cases hee
   ·
    rw [if_neg hc] at hy; cases hy
  rintro _ ⟨he,w1,w2,j,l',rfl,h3⟩;refine ah _ xy ?_;rintro _ ⟨j,l',rfl,h3⟩;refine ah _ kp ?_;rintro ⟨z1,z2⟩ ⟨j,l',h2,h3⟩
  cases h2
  refine ag cu ?_;refine ah _ qy ?_;rintro _ ⟨j,l',rfl,h3⟩;refine ah _ kp ?_;rintro ⟨z1,z2⟩ ⟨j,l',h2,h3⟩
  cases h2
  refine ag cu ?_;refine ah (λ t=>∃ (en:Bytes) (ks:List ad) (j:Nat) (l':List ac),t=(en,ks,L,(j:Int),Mp+1,base,e.1,e.2,[])/\ks.length<=3/\Pos L base j (Mp+1) true l') ?_ ?_
  ·exact rR
  rintro _ ⟨en,ks,j,l',rfl,hks,h3⟩;exact ql
 ·
  refine ah (λ t=>∃ (j:Nat),t=(nk.1,nk.2,L,(j:Int),Mp+1,base,0,0,[])/\Pos L base j (Mp+1) true l2) ?_ ?_
  ·
   refine bG nj λ j h3=>?_;by_cases hc:sgB true l1 [44]=true
   ·
    rw [if_pos hc] at hy;refine ae hc ?_;refine bG (eA hL M' h3 (sg6 hc)) λ j ⟨h3,h4,h5⟩=>?_;rcases bc hy with ⟨e,hz,hee⟩ | ⟨v2,l3,hz,hee⟩
    ·cases hee
    ·
     refine bG (po hL M' h3 hz) λ j h3=>?_
     cases hee
     exact kw
   ·
    rw [if_neg hc] at hy; cases hy;exact af hc qz
  rintro _ ⟨j,rfl,h3⟩;refine sK hq (λ _ hx=>Ah hL M' _ h3 hx) ?_ ?_
  ·
   rintro e j l' he h3 rfl;refine ah _ kp ?_;rintro ⟨z1,z2⟩ ⟨j,l',h2,h3⟩
   cases h2
   refine ag cu ?_;refine ah _ qy ?_;rintro _ ⟨j,l',rfl,h3⟩;refine ah _ kp ?_;rintro ⟨z1,z2⟩ ⟨j,l',h2,h3⟩
   cases h2
   refine ag cu ?_;refine ah (λ t=>∃ (en:Bytes) (ks:List ad) (j:Nat) (l':List ac),t=(en,ks,L,(j:Int),Mp+1,base,e.1,e.2,[])/\ks.length<=3/\Pos L base j (Mp+1) true l') ?_ ?_
   ·exact rR
   rintro _ ⟨en,ks,j,l',rfl,hks,h3⟩;exact ql
  intro l3 j hx h3 h4 hq;refine pB hq (λ _ hx=>ih.e true l3 L base hL M' j (Mp+1) _ h3 hx) ?_ ?_
  ·
   rintro e z1 j l' he h3 rfl;refine ag cu ?_;refine ah _ qy ?_;rintro _ ⟨j,l',rfl,h3⟩;refine ah _ kp ?_;rintro ⟨z1,z2⟩ ⟨j,l',h2,h3⟩
   cases h2
   refine ag cu ?_;refine ah (λ t=>∃ (en:Bytes) (ks:List ad) (j:Nat) (l':List ac),t=(en,ks,L,(j:Int),Mp+1,base,e.1,e.2,[])/\ks.length<=3/\Pos L base j (Mp+1) true l') ?_ ?_
   ·exact rR
   rintro _ ⟨en,ks,j,l',rfl,hks,h3⟩;exact ql
  intro x l4 j hx h3 hq;refine ag cu ?_;refine sK hq (λ _ hx=>od hL M' _ h3 hx) ?_ ?_
  ·
   rintro e j l' he h3 rfl;refine ah _ kp ?_;rintro ⟨z1,z2⟩ ⟨j,l',h2,h3⟩
   cases h2
   refine ag cu ?_;refine ah (λ t=>∃ (en:Bytes) (ks:List ad) (j:Nat) (l':List ac),t=(en,ks,L,(j:Int),Mp+1,base,e.1,e.2,[])/\ks.length<=3/\Pos L base j (Mp+1) true l') ?_ ?_
   ·exact rR
   rintro _ ⟨en,ks,j,l',rfl,hks,h3⟩;exact ql
  intro l5 j hx h3 h4 hq;refine pB hq (λ _ hx=>ih.e true l5 L base hL M' j (Mp+1) _ h3 hx) ?_ ?_
  ·
   rintro e z1 j l' he h3 rfl;refine ag cu ?_;refine ah (λ t=>∃ (en:Bytes) (ks:List ad) (j:Nat) (l':List ac),t=(en,ks,L,(j:Int),Mp+1,base,e.1,e.2,[])/\ks.length<=3/\Pos L base j (Mp+1) true l') ?_ ?_
   ·exact rR
   rintro _ ⟨en,ks,j,l',rfl,hks,h3⟩;exact ql
  intro c l6 j hx h3 hq;refine ag cu ?_;rcases bc hq with ⟨e,hy,rfl⟩ | ⟨ks,l7,hy,hq⟩
  ·
   refine ah (λ t=>e.1≠0/\∃ (en:Bytes) (ks:List ad) (j:Nat) (l':List ac),t=(en,ks,L,(j:Int),Mp+1,base,e.1,e.2,[])/\ks.length<=3/\Pos L base j (Mp+1) true l') ?_ ?_
   ·refine av (λ hk=>?_) (λ hk=>?_)
    ·
     rw [if_pos hk] at hy;rcases bc hy with ⟨e,hz,hee⟩ | ⟨u,l8,hz,hy⟩
     ·cases hee
      refine ah _ (od hL M' _ h3 hz) ?_;rintro _ ⟨he,j,l',rfl,h3⟩;refine ah _ kp ?_;rintro ⟨z1,z2⟩ ⟨j,l',h2,h3⟩;exact KV
     ·
      refine ah _ (od hL M' _ h3 hz) ?_;rintro _ ⟨j,rfl,h3,h4⟩;rcases bc hy with ⟨e,hz,hee⟩ | ⟨d,l9,hz,hee⟩
      ·cases hee
       refine ah _ (ih.e true l8 L base hL M' j (Mp+1) _ h3 hz) ?_;rintro ⟨z1,z2⟩ ⟨he,j,l',h2,h3⟩;exact KV
      ·cases hee
    ·rw [if_neg hk] at hy; cases hy
   rintro _ ⟨he,en,ks,j,l',rfl,hks,h3⟩;exact ql
  ·
   refine ah (λ t=>∃ (j:Nat),t=((if k=13 then [125] else [93]:Bytes),ks,L,(j:Int),Mp+1,base,0,0,[])/\ks.length<=3/\Pos L base j (Mp+1) true l7) ?_ ?_
   ·refine av (λ hk=>?_) (λ hk=>?_)
    ·
     rw [if_pos hk] at hy;rcases bc hy with ⟨e,hz,hee⟩ | ⟨u,l8,hz,hy⟩
     ·cases hee
     ·
      refine ah _ (od hL M' _ h3 hz) ?_;rintro _ ⟨j,rfl,h3,h4⟩;rcases bc hy with ⟨e,hz,hee⟩ | ⟨d,l9,hz,hee⟩
      ·cases hee
      ·
       refine bG (ih.e true l8 L base hL M' j (Mp+1) _ h3 hz) λ j h3=>?_;refine ag cu ?_
       cases hee
       exact aa ⟨j,by rw [if_pos hk]; rfl,by simp,h3⟩
    ·rw [if_neg hk] at hy; cases hy;exact aa ⟨j,by rw [if_neg hk]; rfl,by simp,h3⟩
   rintro _ ⟨j,rfl,hks,h3⟩;rcases bc hq with ⟨e,hy,rfl⟩ | ⟨ks2,l8,hy,hq⟩
   ·
    refine ah (λ t=>e.1≠0/\∃ (ks:List ad) (j:Nat) (l':List ac),t=(ks,L,(j:Int),Mp+1,base,e.1,e.2,[])/\Pos L base j (Mp+1) true l') ?_ ?_
    ·
     refine bG (rm hL M' _ h3) λ j h3=>?_;by_cases hc:wdB true l7 [105,102]=true
     ·
      rw [if_pos hc] at hy;refine ae hc ?_;refine bG (eA hL M' h3 (wd6 hc)) λ j ⟨h3,h4,h5⟩=>?_;rcases bc hy with ⟨e,hz,hee⟩ | ⟨d,l9,hz,hee⟩
      ·cases hee
       refine ah _ (ih.e true _ L base hL M' j (Mp+1) _ h3 hz) ?_;rintro ⟨z1,z2⟩ ⟨he,j,l',h2,h3⟩
       cases h2
       refine ag cu ?_;exact aa ⟨he,_,j,l',Z,h3⟩
      ·cases hee
     ·
      rw [if_neg hc] at hy; cases hy
    rintro _ ⟨he,ks,j,l',rfl,h3⟩;exact xL
   ·
    refine ah (λ t=>∃ (j:Nat),t=(ks2,L,(j:Int),Mp+1,base,0,0,[])/\Pos L base j (Mp+1) true l8) ?_ ?_
    ·
     refine bG (rm hL M' _ h3) λ j h3=>?_;by_cases hc:wdB true l7 [105,102]=true
     ·
      rw [if_pos hc] at hy;refine ae hc ?_;refine bG (eA hL M' h3 (wd6 hc)) λ j ⟨h3,h4,h5⟩=>?_;rcases bc hy with ⟨e,hz,hee⟩ | ⟨d,l9,hz,hee⟩
      ·cases hee
      ·
       refine bG (ih.e true _ L base hL M' j (Mp+1) _ h3 hz) λ j h3=>?_;refine ag cu ?_
       cases hee
       exact kw
     ·
      rw [if_neg hc] at hy; cases hy;exact af hc qz
    rintro _ ⟨j,rfl,h3⟩;refine sK hq (λ _ hx=>lO hL M' _ hn hb h3 hx) ?_ ?_
    ·exact EX
    intro l9 j hx h3 h4 hq;exact jM
theorem R9 {f:Nat}(ih:Fol f):∀ b l,(hd b l).Ar=3->Fl eP b l (qn (f+1) b l):=by
 intro b l k3 L base hL M' i Mp q h hq;rw [qn] at hq;refine aP ?_;simp only [eP];refine bG (gC hL M' h) λ j ⟨h3,h4,h5⟩=>?_;have tk:=sX (h3.gd hL);have t1':=tk.1;have t2':=tk.2.2.1 k3;refine ag Jy ?_
 cases ht:jC f (hd b l).B' ((hd b l).fAt+1) with
 | none=>rw [ht] at hq; cases hq
 | some y =>
  rw [ht] at hq;have hf:=(fct f).tm _ _ O O  y ht;refine aj _ (ih.tm (hd b l).B' ((hd b l).fAt+1) y O O  ht) ?_;rcases y with e | e
  ·cases hq
   exact af hf (aj _ x6 (aa ⟨hf,j,l,Z,h3⟩))
  ·cases hq
   refine ae Z ?_;refine bG (eA hL M' h3 O) λ j ⟨h3,h4,h5⟩=>?_;exact aa ⟨Z,j,Z,h3⟩
end Go.Ab.R06
end
section
namespace Go.Ab.R06
open Go.Ab Go.Ab.RB Go.Lib
section
variable {p:Prop}
theorem IM (h:p:=by
 exact ag (bv (by (try simp only []); omega) (by (try simp only []); omega)) (aa ⟨(by decide:(2:Int)≠0),(j:Int)+1,Z,by omega,by omega⟩)):p:=h
theorem AH (h:p:=by exact ax (Kg _ _ _ _) Z):p:=h
theorem nu (h:p:=by exact tA hL M' h):p:=h
end
section
variable {L:List ac}
def et (L:List ac)(i:Nat)(Mp:Int)(b:Bool)(l:List ac):Prop :=
 i < L.length/\0<=Mp/\Mp+((L.length - i:Nat):Int)<=1000000000/\b=decide (0 < Mp)/\nf b (L.drop i)=nf b l
def RAt (L:List ac)(i:Nat)(Mp:Int)(b:Bool)(l:List ac):Prop:=et L i Mp b l/\L.drop i=nf b l
theorem vh:∀ {L:List ac} {i:Nat},Gd L->i < L.length->Gd (L.drop i)
 | [],_,h,_=>h.elim
 | t::r,0,h,_=>h
 | t::r,i+1,h,hi=>by
  rcases h.2 with h2 | h2
  ·have:=h2.2;subst this; simp at hi
  ·exact vh (L:=r) (i:=i) h2.2 (by simpa using hi)
theorem et.gd {i:Nat}{Mp:Int}{b:Bool}{l:List ac}(hL:Gd L)(h:et L i Mp b l):Gd (nf b l):=by
 rw [<- h.2.2.2.2]; exact rl (vh hL h.1)
theorem et.ext {i j:Nat}{Mp:Int}{b:Bool}{l:List ac}(h:et L i Mp b l)(h1:i<=j)(h2:j < L.length)(h3:L.drop j=nf b (L.drop i)):RAt L j Mp b l:=by
 obtain ⟨q1,q2,q3,q4,q5⟩:=h;refine ⟨⟨h2,q2,by omega,q4,?_⟩,?_⟩
 ·rw [h3,KX,q5]
 ·rw [h3,q5]
theorem RAt.next {j:Nat}{Mp:Int}{b:Bool}{l:List ac}(hL:Gd L)(h:RAt L j Mp b l)(h6:(hd b l).Ar≠6) :
  et L (j+1) Mp b (tl b l)/\L.drop (j+1)=tl b l:=by
 have hg:Gd (nf b l):=h.1.gd hL
 have e:L.drop (j+1)=tl b l:=by
  have:=h.2;rw [md h.1.1,qe hg] at this;exact (qr this).2
 have Tc:=vQ (CQ hg h6)
 have:j+1 < L.length:=by
  exact Jj
 obtain ⟨⟨q1,q2,q3,q4,q5⟩,_⟩:=h;exact ⟨⟨this,q2,by omega,q4,by rw [e]⟩,e⟩
theorem RAt.inn {j:Nat}{Mp:Int}{b:Bool}{l:List ac}(hL:Gd L)(h:RAt L j Mp b l)(h6:(hd b l).Ar≠6):et L (j+1) (Mp+1) true (tl b l):=by
 obtain ⟨⟨q1,q2,q3,q4,q5⟩,e⟩:=h.next hL h6;have:=h.1.2.2.1;have:=h.1.1;refine ⟨q1,by omega,by omega,?_,by rw [e]⟩
 symm; rw [decide_eq_true_eq]; omega
theorem et.out {j:Nat}{Mp:Int}{b:Bool}{l l':List ac}(h:et L j (Mp+1) true l)(h0:0<=Mp)(hb:b=decide (0 < Mp))(he:L.drop j=l'):et L j Mp b l':=by
 obtain ⟨q1,q2,q3,q4,q5⟩:=h;exact ⟨q1,h0,by omega,hb,by rw [he]⟩
theorem MI (hL:Gd L)(M':L.length<=1000000000){Mp:Int}{d:ao}{a:Int}:∀ (k i:Nat),i+k=L.length->0 < k ->
  Ev2 (λ _ m=>cM (.mk L a Mp d) m (i:Int)) (λ j=>∃ j':Nat,j=(j':Int)/\i<=j'/\j' < L.length/\L.drop j'=nf (decide (0 < Mp)) (L.drop i)):=by
 intro k
 induction k with
 | zero=>intro i _ h; omega
 | succ k ih =>
  intro i hi _;have hd':=md (L:=L) (i:=i) O;refine aw ?_;simp only [cM];refine aj (decide (0 < Mp/\(lat L (i:Int)).Ar=5)) ?_ ?_
  ·refine av (λ h=>ae O (ag qp (aa ?_))) (λ h=>aa ?_)
   ·simp only [h,true_and]
   ·simp [h]
  ·by_cases h:0 < Mp/\(lat L (i:Int)).Ar=5
   ·refine ae nt (ag aB ?_)
    have hk:0 < k:=by
     have hg:=vh hL (i:=i) O;rw [hd'] at hg;rcases hg.2 with h2 | h2
     ·have h2:=h2.1; omega
     ·exact JC
    refine aQ (kj (P:=λ j=>Ev2 (λ _ m=>cM (.mk L a Mp d) m j) _) (ih (i+1) O hk)) ?_;exact Ir
   ·exact Iz
theorem tA (hL:Gd L)(M':L.length<=1000000000){i:Nat}{Mp:Int}{b:Bool}{l:List ac}{d:ao}(h:et L i Mp b l) :
  Ev2 (λ n _=>bF n (.mk L (i:Int) Mp d)) (λ z=>z.1=hd b l/\∃ j:Nat,z.2=.mk L (j:Int) Mp d/\RAt L j Mp b l):=by
 simp only [bF];have hi:=h.1;refine ah _ (aO (MI hL M' (d:=d) (a:=(i:Int)) (L.length - i) i O O)) ?_;rintro x ⟨j,rfl,h1,h2,h3⟩;rw [<- h.2.2.2.1] at h3;have ha:=h.ext h1 h2 h3
 have hhd:lat L (j:Int)=hd b l:=by
  have:=ha.2;rw [md h2,qe (h.gd hL)] at this;exact (qr this).1
 exact ae O (ag qp (aa ⟨hhd,j,Z,ha⟩))
theorem lz (hL:Gd L)(M':L.length<=1000000000){i:Nat}{Mp:Int}{b:Bool}{l:List ac}{d:ao}(s:Bytes)(h:et L i Mp b l) :
  Ev2 (λ n _=>aW n (.mk L (i:Int) Mp d) s) (λ z=>z.1=sgB b l s/\∃ j:Nat,z.2=.mk L (j:Int) Mp d/\RAt L j Mp b l):=by
 simp only [aW];refine bG nu λ j h3=>?_;refine aj (sgB b l s) (av (λ h=>aa ?_) (λ h=>aa ?_)) oN
 ·have h:(hd b l).Ar=4:=h;simp only [sgB,h,decide_true,Bool.true_and]
 ·have h:¬ (hd b l).Ar=4:=h;simp only [sgB,h,decide_false,Bool.false_and]
theorem zt (hL:Gd L)(M':L.length<=1000000000){i:Nat}{Mp:Int}{b:Bool}{l:List ac}{d:ao}(s:Bytes)(h:et L i Mp b l) :
  Ev2 (λ n _=>cR n (.mk L (i:Int) Mp d) s) (λ z=>z.1=wdB b l s/\∃ j:Nat,z.2=.mk L (j:Int) Mp d/\RAt L j Mp b l):=by
 simp only [cR];refine bG nu λ j h3=>?_;refine aj (wdB b l s) (av (λ h=>aa ?_) (λ h=>aa ?_)) oN
 ·have h:(hd b l).Ar=1:=h;simp only [wdB,h,decide_true,Bool.true_and]
 ·have h:¬ (hd b l).Ar=1:=h;simp only [wdB,h,decide_false,Bool.false_and]
theorem Kg (i Mp k a:Int):fv (.mk L i Mp dOk) k a=some (.mk L i Mp (eD (k,a))):=rfl
theorem pO (hL:Gd L)(M':L.length<=1000000000){i:Nat}{Mp:Int}{b:Bool}{l:List ac}(h:et L i Mp b l) :
  Ev2 (λ n _=>bT n (.mk L (i:Int) Mp dOk)) (λ z=>∃ j:Nat,z=.mk L (j:Int) Mp (eD (2,(hd b l).fAt))/\j < L.length):=by
 simp only [bT];refine bG nu λ j h3=>?_;exact aj _ AH (aa ⟨j,rfl,h3.1.1⟩)
def RFl (L:List ac)(Mp:Int)(N:Nat)(e:PE)(z:ai):Prop:=e.1≠0/\∃ I:Int,z=.mk L I Mp (eD e)/\0<=I/\I<=1000000000+(N:Int)
theorem iy (hL:Gd L)(M':L.length<=1000000000){i:Nat}{Mp:Int}{b:Bool}{l:List ac}(s:Bytes){q:PE⊕(Unit×List ac)}(h:et L i Mp b l)(hq:ek b s l=some q) :
  Ev2 (λ n _=>bQ n (.mk L (i:Int) Mp dOk) s) (λ z=>match q with
   | .inl e=>RFl L Mp 0 e z
   | .inr (_,l')=>∃ j:Nat,z=.mk L (j:Int) Mp dOk/\et L j Mp b l'/\L.drop j=l'):=by
 simp only [bQ];unfold ek at hq;by_cases hs:sgB b l s=true
 ·rw [if_pos hs] at hq; cases hq;refine ah (λ t=>∃ j:Nat,t=(L,(j:Int),Mp,0,0,[])/\RAt L j Mp b l) (ah _ (lz hL M' s h) ?_) ?_
  ·rintro ⟨z1,z2⟩ ⟨h1,j,h2,h3⟩;replace h1:z1=_:=h1; subst h1; cases h2;exact af (by simp [hs]) qz
  ·rintro _ ⟨j,rfl,h3⟩;have hn:=h3.next hL (sg6 hs);have:=h3.1.1;refine ag Ak (aa ⟨j+1,by (try simp only []); rfl,hn.1,hn.2⟩)
 ·rw [if_neg hs] at hq; cases hq;refine ah (λ t=>∃ j:Nat,t=(L,(j:Int),Mp,2,(hd b l).fAt,[])/\j < L.length) (ah _ (lz hL M' s h) ?_) ?_
  ·rintro ⟨z1,z2⟩ ⟨h1,j,h2,h3⟩;replace h1:z1=_:=h1; subst h1; cases h2;refine ae rC (ah _ (pO hL M' h3.1) ?_);rintro _ ⟨j,rfl,h4⟩;exact aa ⟨j,rfl,h4⟩
  ·rintro _ ⟨j,rfl,h3⟩;exact IM
theorem Is (s:Bytes):ei s=some (kR s):=w6 s
theorem DN (hL:Gd L)(M':L.length<=1000000000){i:Nat}{Mp:Int}{b:Bool}{l:List ac}{q:PE⊕(Bytes×List ac)}(h:et L i Mp b l)(hq:xE b l=some q) :
  Ev2 (λ n _=>cn n (.mk L (i:Int) Mp dOk)) (λ z=>match q with
   | .inl e=>RFl L Mp 0 e z.2
   | .inr (x,l')=>z.1=x/\∃ j:Nat,z.2=.mk L (j:Int) Mp dOk/\et L j Mp b l'):=by
 simp only [cn];refine bG nu λ j h3=>?_;unfold xE at hq;by_cases hs:(hd b l).Ar=1/\kR (hd b l).B'=false
 ·rw [if_pos hs] at hq; cases hq;refine aj (L,(j:Int),Mp,0,0,[]) (aj false (ae hs.1 (aj _ (ax (Is _) rfl) (aa hs.2))) se) ?_;have hn:=h3.next hL O;have:=h3.1.1;exact ag Ak (aa ⟨rfl,j+1,by (try simp only []); rfl,hn.1⟩)
 ·rw [if_neg hs] at hq; cases hq;refine ah (λ t=>∃ j:Nat,t=(L,(j:Int),Mp,2,(hd b l).fAt,[])/\j < L.length) (aj true (av (λ h1=>aj _ (ax (Is _) rfl) (aa ?_)) (λ h1=>aa rfl)) (ae rfl (ah _ (pO hL M' h3.1) ?_))) ?_
  ·have h1:(hd b l).Ar=1:=h1;exact JD
  ·rintro _ ⟨j,rfl,h4⟩;exact aa ⟨j,rfl,h4⟩
  ·rintro _ ⟨j,rfl,h4⟩;exact IM
theorem EO {SR:Nat}(h:SR<=5):mX (SR:Int)=some ((iz SR).map (·.1)):=by
 exact I3
theorem D3 {SR:Nat}(h:SR<=5):∃ k:Int,mU (SR:Int)=some k/\0 < k/\k<=13/\∀ (t:Nat) (p:Bytes×Int),(iz SR)[t]? = some p->p.2=k+(t:Int):=by
 rcases SR with _ | _ | _ | _ | _ | _ | k
 ·exact ⟨3,rfl,by decide,by decide,λ t p hp=>by rcases t with _ | _ | _ | _ | t <;> simp [iz] at hp <;> subst hp <;> rfl⟩
 ·exact ⟨4,rfl,by decide,by decide,λ t p hp=>by rcases t with _ | _ | _ | _ | t <;> simp [iz] at hp <;> subst hp <;> rfl⟩
 ·exact ⟨5,rfl,by decide,by decide,λ t p hp=>by rcases t with _ | _ | _ | _ | t <;> simp [iz] at hp <;> subst hp <;> rfl⟩
 ·exact ⟨7,rfl,by decide,by decide,λ t p hp=>by rcases t with _ | _ | _ | _ | t <;> simp [iz] at hp <;> subst hp <;> rfl⟩
 ·exact ⟨11,rfl,by decide,by decide,λ t p hp=>by rcases t with _ | _ | _ | _ | t <;> simp [iz] at hp <;> subst hp <;> rfl⟩
 ·exact ⟨13,rfl,by decide,by decide,λ t p hp=>by rcases t with _ | _ | _ | _ | t <;> simp [iz] at hp <;> subst hp <;> rfl⟩
 ·omega
theorem PY (hL:Gd L)(M':L.length<=1000000000){Mp:Int}{b:Bool}{l:List ac}{SR:Nat}(hlev:SR<=5):∀ (k t i:Nat),t+k=(iz SR).length->et L i Mp b l ->
  Ev2 (λ n m=>bJ n (SR:Int) ((iz SR).map (·.1)) m (t:Int) L (i:Int) Mp 0 0 []) (λ r=>match ((iz SR).drop t).find? (λ p=>sgB b l p.1) with
   | some p=>∃ j:Nat,r=.inr (p.2,.mk L (j:Int) Mp dOk)/\RAt L j Mp b l
   | none=>∃ j:Nat,r=.inl (L,(j:Int),Mp,0,0,[])/\et L j Mp b l):=by
 have SS:(iz SR).length<=4:=by rcases SR with _ | _ | _ | _ | _ | k <;> simp [iz]
 have hml:((iz SR).map (·.1)).length=(iz SR).length:=List.length_map ..;intro k
 induction k with
 | zero =>
  intro t i ht h;refine aw ?_;simp only [bJ];exact GA
 | succ k ih =>
  intro t i ht h;refine aw ?_;simp only [bJ];have hlt:t < (iz SR).length:=by omega
  have hdr:(iz SR).drop t=(iz SR)[t]::(iz SR).drop (t+1):=List.drop_eq_getElem_cons hlt;have hla:lat ((iz SR).map (·.1)) (t:Int)=((iz SR)[t]).1:=by rw [mW _ t O,List.getElem_map]
  refine ae O (ag qp ?_);rw [hla];refine bG (lz hL M' _ h) λ j h3=>?_;rw [hdr,List.find?_cons];obtain ⟨k0,f1,f2,f3,f4⟩:=D3 hlev
  cases hs:sgB b l ((iz SR)[t]).1 with
  | true =>
   refine ae Z (aj _ (ax f1 Z) (ag aB (aa ⟨j,?_,h3⟩)));rw [f4 t ((iz SR)[t]) (List.getElem?_eq_getElem hlt)]; rfl
  | false=>exact af mv (ag (bv O O) (kj (P:=λ x=>Ev2 (λ n m=>bJ n (SR:Int) ((iz SR).map (·.1)) m x L (j:Int) Mp 0 0 []) _) (ih (t+1) j O h3.1)))
theorem K3 (hL:Gd L)(M':L.length<=1000000000){i:Nat}{Mp:Int}{b:Bool}{l:List ac}{SR:Nat}(hlev:SR<=5)(h:et L i Mp b l) :
  Ev2 (λ n _=>dw n (.mk L (i:Int) Mp dOk) (SR:Int)) (λ r=>match vu b l SR with
   | some p=>∃ j:Nat,r=(p.2,.mk L (j:Int) Mp dOk)/\RAt L j Mp b l
   | none=>∃ j:Nat,r=(0,.mk L (j:Int) Mp dOk)/\et L j Mp b l):=by
 simp only [dw];refine aj _ (ax (EO hlev) rfl) ?_;have hl:=PY hL M' hlev (iz SR).length 0 i O h;rw [List.drop_zero] at hl;unfold vu
 cases hf:(iz SR).find? (λ p=>sgB b l p.1) with
 | some p =>
  exact Jw
 | none =>
  rw [hf] at hl;exact Ck
theorem Nb {SR:Nat}(hlev:SR<=5){p:Bytes×Int}(h:p∈iz SR):p.2≠0:=by
 have hall:∀ SR:Fin 6,∀ p∈iz SR.1,p.2≠0:=by decide
 exact hall ⟨SR,by omega⟩ p h
end
theorem OG (s:Bytes)(hd:s.all d3=true):AB s=oG s:=by
 have hn:oU s=false:=by
  cases s with
  | nil=>rfl
  | cons b r =>
   have:=nb hd (b:=b) List.mem_cons_self;have Tc:¬ b=45:=λ h=>by rw [h] at this; exact absurd this (by decide)
   simp [oU,Tc]
 have hdg:digits s=s:=by unfold digits; rw [hn]; rfl
 have hcp:p6 s=pk s:=by unfold p6; rw [hn,hdg]; rfl
 have hv:kW s=(gu 0 s:Int):=by unfold kW; rw [hn,hdg]; rfl
 by_cases hc:pk s=true
 ·by_cases hb:-iw<=kW s/\kW s<=iw
  ·have h1:oG s=(kW s,0):=by unfold oG; rw [hcp,if_pos hc,if_pos hb]
   have h0:0<=kW s:=by rw [hv]; omega
   have h2:=(EM s _ h1 h0).1;rw [h1,<- E3 h0 hb.2,h2]
  ·unfold oG AB;rw [hcp,if_pos hc,if_pos hc,if_neg hb,if_neg];rintro ⟨_,h2⟩;rw [hv] at hb;unfold iw at hb;omega
 ·unfold oG AB;rw [hcp,if_neg hc,if_neg hc]
end Go.Ab.R06
end
section
namespace Go.Ab.R06
open Go.Ab Go.Ab.RB Go.Lib
section
variable {p:Prop}
theorem wR (h:p:=by
 refine bG (zt hL M' _ h3) λ j ha=>?_
 exact aa ⟨j,Z,ha⟩):p:=h
theorem KM (h:p:=by
 rw [if_pos hs] at hq; cases hq
 exact af (by simp [hs]) (aa ⟨j,l,by rw [List.append_nil],ha,hs,Z⟩)):p:=h
theorem IG (h:p:=by
 refine ag (bv (by show _<=Mp+1 - 1; omega) (by show Mp+1 - 1<=_; omega)) ?_;refine aj (L,(j:Int)+1,Mp+1 - 1,0,0,[]) (ae Z ?_) (aa ⟨Z,j+1,by show ai.mk L ((j+1:Nat):Int) (Mp+1 - 1) dOk=_; rw [Int.add_sub_cancel],hn.1.out hn0 hb hn.2⟩);refine ag (bv (by show _<=(j:Int)+1; omega) (by show (j:Int)+1<=_; omega)) ?_
 exact aa Z):p:=h
theorem Ho (h:p:=by
 refine ag (by simp only [aq,n8,ph]; omega) ?_
 exact aa ⟨he,_,I,Z,by simp,Tq,by omega⟩):p:=h
theorem uN (h:p:=by
 exact aa ⟨j,Z,ha⟩):p:=h
theorem Hs (h:p:=by
 refine aj (L,I,Mp+1,e.1,e.2,[]) (af (qJ he) (aa Z)) ?_;refine ag (bv (by show _<=Mp+1 - 1; omega) (by show Mp+1 - 1<=_; omega)) ?_
 exact aa ⟨he,I,by show ai.mk L I (Mp+1 - 1) (eD e)=_; rw [Int.add_sub_cancel],by omega,by omega⟩):p:=h
theorem FB (h:p:=by
 rintro _ ⟨j,rfl,ha⟩
 exact af mv (aa ⟨j,Z,ha.1⟩)):p:=h
theorem xV (h:p:=by
 refine ag (by simp only [aq,n8,ph]; omega) ?_
 exact aj (false,L,I,Mp,e.1,e.2,[]) (af (qJ he) (aa Z)) (af mv (aa ⟨he,_,I,Z,Tq,by omega⟩))):p:=h
theorem AQ (h:p:=by
 rintro _ ⟨he,ks,I,rfl,Tq,TE⟩;refine aQ (Nz he ks I Mp) ?_;rintro _ rfl
 exact ⟨he,_,I,Z,Tq,TE⟩):p:=h
theorem wG (h:p:=by
 rintro _ ⟨j,rfl,hj⟩
 exact aa ⟨(by decide:(2:Int)≠0),(j:Int),Z,by omega,by omega⟩):p:=h
theorem BE (h:p:=by
 refine ag (by simp only [aq,n8,ph]; omega) ?_;refine ah (λ t=>∃ ks:List ad,ks.length<=3/\t=(ks,L,I,Mp+1,e.1,e.2,[])) (av (λ hk=>?_) (λ hk=>aa ⟨_,by simp,rfl⟩)) ?_
 ·refine aj (L,I,Mp+1,e.1,e.2,[]) (af (qJ he) (aa rfl)) ?_;refine ah _ (jf he I (Mp+1)) ?_;rintro ⟨y1,y2⟩ hy
  cases hy
  refine ag (by simp only [aq,n8,ph]; omega) ?_;exact aa ⟨_,by simp,Z⟩
 rintro _ ⟨ks,hks,rfl⟩;refine ah (λ t=>∃ ks:List ad,t=(ks,L,I,Mp+1,e.1,e.2,[])) (aj (false,L,I,Mp+1,e.1,e.2,[]) (af (qJ he) (aa rfl)) (af mv (aa ⟨_,rfl⟩))) ?_;rintro _ ⟨ks,rfl⟩;refine aj (L,I,Mp+1,e.1,e.2,[]) (af (qJ he) (aa rfl)) ?_;refine ag (bv (by show _<=Mp+1 - 1; omega) (by show Mp+1 - 1<=_; omega)) ?_
 exact aa ⟨he,I,by show ai.mk L I (Mp+1 - 1) (eD e)=_; rw [Int.add_sub_cancel],by omega,by omega⟩):p:=h
theorem AR (h:p:=by
 refine ag (by simp only [aq,n8,ph]; omega) ?_;refine ah (λ t=>∃ ks:List ad,ks.length<=3/\t=(ks,L,I2,Mp+1,e.1,e.2,[])) (av (λ hk=>?_) (λ hk=>aa ⟨_,by simp,rfl⟩)) ?_
 ·refine aj (L,I2,Mp+1,e.1,e.2,[]) (af (qJ he) (aa rfl)) ?_;refine ah _ (jf he I2 (Mp+1)) ?_;rintro ⟨y1,y2⟩ hy
  cases hy
  refine ag (by simp only [aq,n8,ph]; omega) ?_;exact aa ⟨_,by simp,Z⟩
 rintro _ ⟨ks,hks,rfl⟩;refine ah (λ t=>∃ ks:List ad,t=(ks,L,I2,Mp+1,e.1,e.2,[])) (aj (false,L,I2,Mp+1,e.1,e.2,[]) (af (qJ he) (aa rfl)) (af mv (aa ⟨_,rfl⟩))) ?_;rintro _ ⟨ks,rfl⟩;refine aj (L,I2,Mp+1,e.1,e.2,[]) (af (qJ he) (aa rfl)) ?_;refine ag (bv (by show _<=Mp+1 - 1; omega) (by show Mp+1 - 1<=_; omega)) ?_
 exact aa ⟨he,I2,by show ai.mk L I2 (Mp+1 - 1) (eD e)=_; rw [Int.add_sub_cancel],by omega,by omega⟩):p:=h
theorem KA (h:p:=by
 rcases q with e | ⟨x',l'⟩
 ·rintro _ ⟨he,y,I,hy,Tq,TE⟩;exact ⟨he,y,I,hy,Tq,by omega⟩
 ·rintro _ hz
  exact hz):p:=h
theorem Cz (h:p:=by
 exact aa ⟨he,_,I,Z,Tq,by omega⟩):p:=h
theorem nq (h:p:=by
 exact aa ⟨he,I,Z,Tq,by omega⟩):p:=h
theorem Hn (h:p:=by
 refine bG (lz hL M' _ h3) λ j ha=>?_
 exact aa ⟨j,by rw [he2]; rfl,ha⟩):p:=h
theorem BB (h:p:=by
 exact aj (false,L,I,Mp,e.1,e.2,[]) (af (qJ he) (aa Z)) (af mv (aa Z))):p:=h
theorem KL (h:p:=by
 refine ah (λ t=>∃ j:Nat,t=(false,L,(j:Int),Mp,0,0,[])/\RAt L j Mp true l) (ae Z (ah _ (lz hL M' _ h) ?_)) ?_
 ·rintro ⟨z1,z2⟩ ⟨h1,j,h2,ha⟩;replace h1:z1=_:=h1; subst h1; cases h2;exact aa ⟨j,by rw [hs]; rfl,ha⟩
 ·rintro _ ⟨j,rfl,ha⟩
  exact af mv (aa ⟨j,l,by rw [List.append_nil],ha,hs,Z⟩)):p:=h
theorem GP (h:p:=by
 rintro _ ⟨j,rfl,h3,h4⟩
 cases hq
 refine ag (bv (by show _<=Mp+1 - 1; omega) (by show Mp+1 - 1<=_; omega)) ?_
 exact aa ⟨Z,j,by show ai.mk L (j:Int) (Mp+1 - 1) dOk=_; rw [Int.add_sub_cancel],h3.out hn0 hb h4⟩):p:=h
theorem JB (h:p:=by
 refine ag (bv (by show _<=Mp+1 - 1; omega) (by show Mp+1 - 1<=_; omega)) ?_
 exact aa ⟨he,I,by show ai.mk L I (Mp+1 - 1) (eD e)=_; rw [Int.add_sub_cancel],Tq,by omega⟩):p:=h
theorem Bj (h:p:=by
 refine ag (bv (by show _<=(j:Int)+1; omega) (by show (j:Int)+1<=_; omega)) ?_
 exact aj _ (ax Z Z) (aa ⟨Z,j+1,Z,hn.1⟩)):p:=h
theorem rQ (h:p:=by
 rintro _ ⟨j,rfl,h3,h4⟩
 exact aa ⟨j,Z,h3,h4⟩):p:=h
theorem Co (h:p:=by
 rintro _ rfl
 exact ⟨he,_,I,Z,Tq,TE⟩):p:=h
theorem GJ (h:p:=by
 refine bG (lz hL M' _ ha.1) λ j ha=>?_
 exact af hs (aa ⟨j,Z,ha⟩)):p:=h
theorem Jq (h:p:=by exact vI ih [93] _ (by decide) L hL M' j _ Mp b _ Z hn0 hb g2 ha.1 hx):p:=h
theorem Cj (h:p:=by exact bv (by show _<=I+1; omega) (by show I+1<=_; omega)):p:=h
theorem wU (h:p:=by exact o6 ih true l2 L hL M' j _ Mp _ Z f2.2.2 h3 hv):p:=h
theorem Kz (h:p:=by exact kj (P:=λ y=>Ev2 (λ n _=>cn n (.mk L y (Mp+1) dOk)) _) (DN hL M' hn.1 hz)):p:=h
theorem Km (h:p:=by exact kj (P:=λ y=>Ev2 (λ n _=>cR n (.mk L y (Mp+1) dOk) [102,111,114]) _) (zt hL M' [102,111,114] hi)):p:=h
theorem Gp (h:p:=by exact vI ih [41] _ (by decide) L hL M' (j+1) ((j:Int)+1) Mp b _ Z hn0 hb g2 hi hx):p:=h
theorem GV (h:p:=by exact o6 ih true (tl true l7) L hL M' (j+1) ((j:Int)+1) (Mp+1) _ Z (glw gl7.1 hc) hn.1 hz):p:=h
theorem wC (h:p:=by exact iy hL M' _ h3 ZM):p:=h
theorem nw (h:p:=by exact lz hL M' _ ha.1):p:=h
theorem lx (h:p:=by exact af (qJ he) (aa Z)):p:=h
theorem FN (h:p:=by exact o6 ih true l8 L hL M' j _ (Mp+1) _ Z f8.2.2 h3 hz2):p:=h
theorem xC (h:p:=by exact aa ⟨j,Z,ha⟩):p:=h
theorem Kv (h:p:=by exact aj (false,L,I,Mp+1,e.1,e.2,[]) (af (qJ he) (aa Z)) (af mv (aa Z))):p:=h
theorem H5 (h:p:=by exact aj _ (ax Z Z) (aa ⟨Z,j+1,Z,hn.1⟩)):p:=h
theorem xl (h:p:=by exact iy hL M' _ h3 Wj):p:=h
theorem pd (h:p:=by exact lz hL M' _ h3):p:=h
theorem tR (h:p:=by exact pO hL M' ha.1):p:=h
theorem Hm (h:p:=by exact aO (ih.t (tl b l) [] g2 (by have:=g2.2; simp only [n8]; omega) L hL M' j _ (Mp+1) _ Z ha.1 hx)):p:=h
theorem HA (h:p:=by exact kj (P:=λ y=>Ev2 (λ n _=>cn n (.mk L y (Mp+1) dOk)) _) (DN hL M' hn.1 hx)):p:=h
theorem uq (h:p:=by exact iy hL M' _ h3 hn):p:=h
end
theorem qJ {e:PE}(he:e.1≠0):¬ (!(!decide ((eD e).Ar=0)))=true:=by rw [kC he]; decide
theorem F2 {b:Bool}{l:List ac}{s t:Bytes}(h:sgB b l s=true)(S7:s≠t):¬ sgB b l t=true:=λ k=>S7 ((lI.1 h).2.symm.trans (lI.1 k).2)
def vt {α:Type}(L:List ac)(Mp:Int)(b:Bool)(N:Nat)(q:PE⊕(α×List ac))(z:α×ai):Prop:=match q with
 | .inl e=>RFl L Mp N e z.2
 | .inr (x,l)=>z.1=x/\∃ j:Nat,z.2=.mk L (j:Int) Mp dOk/\et L j Mp b l
def Rl {α:Type}(F:Nat->ai->Option (α×ai))(b:Bool)(l:List ac)(x:PR α):Prop :=
 ∀ (L:List ac),Gd L->L.length<=1000000000->∀ (i:Nat) (I Mp:Int) (q:PE⊕(α×List ac)),I=i->Gl l->et L i Mp b l->x=some q->Ev2 (λ n _=>F n (.mk L I Mp dOk)) (vt L Mp b l.length q)
def RlC {α:Type}(F:Nat->ai->Option (α×ai))(l:List ac)(x:PR α):Prop :=
 ∀ (L:List ac),Gd L->L.length<=1000000000->∀ (i:Nat) (I Mp:Int) (b:Bool) (q:PE⊕(α×List ac)),I=i->0<=Mp->b=decide (0 < Mp)->Gl l->et L i (Mp+1) true l->x=some q->Ev2 (λ n _=>F n (.mk L I Mp dOk)) (vt L Mp b l.length q)
abbrev BT:=Int×Int×Bytes×Bytes×Int×Int×Bytes×(List am)×(List Bytes)×(List ad)×(List ac)×Int×Int×Int×Int×Bytes
def HH (x:ad)(s:List ac×Int×Int×Int×Int×Bytes):BT:=(x.Ar,x.fOp,x.AI,x.Gw,x.A'.Ar,x.A'.E',x.A'.If,x.A'.Df,x.A'.C',x.By,s)
def BLO (L:List ac)(Mp:Int)(b:Bool)(N:Nat)(at':Int)(q:PE⊕(ad×List ac))(t:BT):Prop:=match q with
 | .inl e=>e.1≠0/\∃ (x:ad) (I:Int),t=HH x (L,I,Mp,e.1,e.2,[])/\0<=I/\I<=1000000000+(N:Int)
 | .inr (x,l)=>∃ j:Nat,t=HH x (L,(j:Int),Mp,0,0,[])/\x.fAt=at'/\et L j Mp b l
def PLO (L:List ac)(Mp:Int)(b:Bool)(N:Nat)(q:PE⊕(ad×List ac))(t:BT⊕(ad×ai)):Prop:=match q with
 | .inl e=>e.1≠0/\∃ (x:ad) (I:Int),(t=.inl (HH x (L,I,Mp,e.1,e.2,[]))\/t=.inr (x,.mk L I Mp (eD e)))/\0<=I/\I<=1000000000+(N:Int)
 | .inr (x,l)=>∃ j:Nat,t=.inr (x,.mk L (j:Int) Mp dOk)/\et L j Mp b l
abbrev IT:=(List ad)×(List ac)×Int×Int×Int×Int×Bytes
def ILO (L:List ac)(Mp:Int)(en:Bytes)(out:List ad)(N:Nat)(q:PE⊕(List ad×List ac))(r:IT):Prop:=match q with
 | .inl e=>e.1≠0/\∃ (ks:List ad) (I:Int),r=(ks,L,I,Mp,e.1,e.2,[])/\0<=I/\I<=1000000000+(N:Int)
 | .inr (ks,l')=>∃ (j:Nat) (l'':List ac),r=(out++ks,L,(j:Int),Mp,0,0,[])/\RAt L j Mp true l''/\sgB true l'' en=true/\tl true l''=l'
structure Rol (f:Nat):Prop where
 e:∀ b l,Rl aK b l (gi f b l)
 b:∀ (SR:Nat) (li:Int) b l,li=SR->SR<=6->Rl (λ n p=>bA n p li) b l (nU f SR b l)
 bl:∀ (SR:Nat) (li:Int) b l (x:ad) (r5:ad×ai),li=SR->SR<=5->x.fAt=r5.1.fAt->∀ (L:List ac),Gd L->L.length<=1000000000->∀ (i:Nat) (Mp:Int) (q:PE⊕(ad×List ac)),Gl l->et L i Mp b l->oW f SR b x l=some q ->
  Ev2 (λ n m=>bK n (bA n) li r5 m x.Ar x.fOp x.AI x.Gw x.A'.Ar x.A'.E' x.A'.If x.A'.Df x.A'.C' x.By L (i:Int) Mp 0 0 []) (BLO L Mp b l.length r5.1.fAt q)
 u:∀ b l,Rl dJ b l (unS f b l)
 pl:∀ b l (x:ad) (r1:ad×ai),x.fAt=r1.1.fAt->∀ (L:List ac),Gd L->L.length<=1000000000->∀ (i:Nat) (I Mp:Int) (q:PE⊕(ad×List ac)),I=i->Gl l->et L i Mp b l->j4 f b x l=some q ->
  Ev2 (λ n m=>ba n (aK n) r1 m x.Ar x.fOp x.AI x.Gw x.A'.Ar x.A'.E' x.A'.If x.A'.Df x.A'.C' x.By L I Mp 0 0 []) (PLO L Mp b l.length q)
 p:∀ b l,Rl bB b l (lE f b l)
 s:∀ b l,(hd b l).Ar=3->Rl bB b l (qn f b l)
 n:∀ b l,(hd b l).Ar=1->∀ (L:List ac),Gd L->L.length<=1000000000->∀ (j:Nat) (Mp:Int) (q:PE⊕(ad×List ac)),Gl l->RAt L j Mp b l->mT f b l=some q->Ev2 (λ n _=>fw n (.mk L (j:Int) Mp dOk) (hd b l)) (vt L Mp b l.length q)
 i:∀ (en:Bytes) (l:List ac) (out:List ad),en≠[44]->Gl l->out.length+l.length<=1000000000->∀ (L:List ac),Gd L->L.length<=1000000000->∀ (i:Nat) (I Mp:Int) (q:PE⊕(List ad×List ac)),I=i->et L i Mp true l->ip f en l=some q ->
  Ev2 (λ n m=>bu n (aK n) en m out L I Mp 0 0 []) (ILO L Mp en out l.length q)
 t:∀ (l:List ac) (out:List ad),Gl l->out.length+2*l.length<=3000000000->∀ (L:List ac),Gd L->L.length<=1000000000->∀ (i:Nat) (I Mp:Int) (q:PE⊕(List ad×List ac)),I=i->et L i Mp true l->oX f l=some q ->
  Ev2 (λ n m=>bn n (cb n) (bf n) m out L I Mp 0 0 []) (ILO L Mp [125] out l.length q)
 k:∀ l,Rl cb true l (na f l)
 lo:∀ (tk:ac) (k:Int) (en:Bytes) l,wdB true l [102,111,114]=true->(k=12/\en=[93])\/(k=13/\en=[125])->RlC (λ n p=>ea n p tk en) l (lC f tk.fAt k (tl true l))
 tm:∀ (s:Bytes) (a:Int) q,0<=a->a+(s.length:Int)<=1000000000->jC f s a=some q->Ev2 (λ n _=>ed n s a) (·=sC q)
theorem tf {α β γ:Type}{L:List ac}{Mp:Int}{b:Bool}{N:Nat}{x:PR α}{k:α->List ac->PR β}{q:PE⊕(β×List ac)}{f:Nat->Nat->Option (α×ai)}{g:Nat->Nat->α×ai->Option γ}{P:γ->Prop}(hq:pb x k=some q)
  (hc:∀ q',x=some q'->Ev2 f (vt L Mp b N q')) (h1:∀ e z (I:Int),e.1≠0->0<=I->I<=1000000000+(N:Int)->.inl e=q->Ev2 (λ n m=>g n m (z,.mk L I Mp (eD e))) P)
  (h2:∀ a l (j:Nat),x=some (.inr (a,l))->et L j Mp b l->k a l=some q->Ev2 (λ n m=>g n m (a,.mk L (j:Int) Mp dOk)) P):Ev2 (λ n m=>(f n m).bind (g n m)) P:=by
 rcases bc hq with ⟨e,hx,rfl⟩ | ⟨a,l,hx,hq⟩
 ·refine ah _ (hc _ hx) ?_;rintro ⟨z1,z2⟩ ⟨he,I,h3,h4,h5⟩
  cases h3
  exact h1 e z1 I he h4 h5 Z
 ·exact Kf
theorem ER {p:Prop}(h:p:=by
 rintro e z1 I he Tq TE rfl
 first
  | exact aa ⟨he,I,Z,Tq,by omega⟩
  | exact ae (kC he) (aa ⟨he,I,Z,Tq,by omega⟩)
  | exact aj (true,L,I,Mp,e.1,e.2,[]) (ae (kC he) (aa Z)) (ae Z (aa ⟨he,I,Z,Tq,TE⟩))):p:=h
theorem Rw {f:Nat}(ih:Rol f):∀ b l,Rl aK b l (gi (f+1) b l):=by
 intro b l L hL M' i I Mp q hI gl h hq;subst hI;rw [gi] at hq;refine aP ?_;simp only [aK,au,cl];have b1:=(tlS b l).length_le;refine tf hq (λ _ hx=>ih.b 0 0 b l rfl (by decide) L hL M' i _ Mp _ rfl gl h hx) ?_ ?_
 ·exact ER
 intro c l1 j hx h3 hq;have f1:=(fct f).b 0 b l gl _ hx;have b2:=f1.2.1.length_le;have b3:=(tlS b l1).length_le;by_cases hs:sgB b l1 [63]=true
 ·
  rw [if_pos hs] at hq;refine ah (λ t=>∃ j:Nat,t=(false,L,(j:Int),Mp,0,0,[])/\RAt L j Mp b l1) (af mv ?_) ?_
  ·
   refine bG pd λ j ha=>?_;exact aa ⟨j,by rw [hs]; rfl,ha⟩
  rintro _ ⟨j,rfl,ha⟩;have hj:=ha.1.1;have hn:=ha.next hL (sg6 hs);have g2:=glt f1.2.2 hs;refine af mv ?_;refine ag fR ?_;refine tf hq (λ _ Wj=>ih.e b _ L hL M' (j+1) ((j:Int)+1) Mp _ rfl g2 hn.1 Wj) ?_ ?_
  ·exact ER
  intro a l2 j Wj h3 hq;have f2:=(fct f).e b _ g2 _ Wj;have b4:=f2.2.1.length_le;have b5:=(tlS b (tl b l1)).length_le;refine af mv ?_;rcases bc hq with ⟨e,ZM,rfl⟩ | ⟨u,l3,ZM,hq⟩
  ·
   refine ah _ wC ?_;rintro _ ⟨he,I,rfl,Tq,TE⟩;exact ae (kC he) (aa ⟨he,I,rfl,Tq,by omega⟩)
  ·
   refine ah _ wC ?_;rintro _ ⟨j,rfl,h3,h4⟩;have f3:=cW (b:=b) (s:=[58]) f2.2.2 _ ZM;have b6:=(f3.2.1.trans (tlS b l2)).length_le;refine af mv ?_;refine tf hq (λ _ ZL=>ih.e b _ L hL M' j _ Mp _ rfl f3.2.2 h3 ZL) ?_ ?_
   ·exact ER
   intro d l4 j ZL h3 hq;exact jM
 ·
  rw [if_neg hs] at hq; cases hq;refine ah (λ t=>∃ j:Nat,t=(true,L,(j:Int),Mp,0,0,[])/\et L j Mp b l1) (af mv ?_) ?_
  ·
   refine bG pd λ j ha=>?_;exact aa ⟨j,by rw [show sgB b l1 [63]=false by simpa using hs]; rfl,ha.1⟩
  rintro _ ⟨j,rfl,h3⟩;exact ae rfl oN
theorem Nx {L:List ac}{e:PE}(he:e.1≠0)(li:Int)(r5:ad×ai)(x:ad)(I Mp:Int) :
  Ev2 (λ n m=>bK n (bA n) li r5 m x.Ar x.fOp x.AI x.Gw x.A'.Ar x.A'.E' x.A'.If x.A'.Df x.A'.C' x.By L I Mp e.1 e.2 []) (·=HH x (L,I,Mp,e.1,e.2,[])):=by
 refine aw ?_;simp only [bK,au,cl];exact BB
theorem Sy {f:Nat}(ih:Rol f):∀ (SR:Nat) (li:Int) b l,li=SR->SR<=6->Rl (λ n p=>bA n p li) b l (nU (f+1) SR b l):=by
 intro SR li b l X7 h6 L hL M' i I Mp q hI gl h hq;subst hI;rw [nU] at hq;refine aP ?_;simp only [bA];by_cases hv:5 < SR
 ·rw [if_pos hv] at hq;refine ae O ?_;refine ah _ (ih.u b l L hL M' i _ Mp _ rfl gl h hq) ?_;exact jw
 rw [if_neg hv] at hq;refine af O (ag aB ?_);have b1:=(tlS b l).length_le;refine tf hq (λ _ hx=>ih.b (SR+1) (li+1) b l O O  L hL M' i _ Mp _ rfl gl h hx) ?_ ?_
 ·
  rintro e z1 I he Tq TE rfl;refine ah _ (aO (Nx he li (z1,.mk L I Mp (eD e)) z1 I Mp)) ?_;rintro _ rfl;exact aa ⟨he,I,rfl,Tq,TE⟩
 intro c l1 j hx h3 hq;have f1:=(fct f).b (SR+1) b l gl _ hx;have b2:=f1.2.1.length_le;refine ah _ (aO (ih.bl SR li b _ _ (_,.mk L (j:Int) Mp dOk) X7 O rfl L hL M' j Mp q f1.2.2 h3 hq)) ?_;rcases q with e | ⟨x,l'⟩
 ·rintro _ ⟨he,x,I,rfl,Tq,TE⟩;exact nq
 ·rintro _ ⟨j,rfl,hx,h3⟩;refine aa ⟨?_,j,rfl,h3⟩;exact (congrArg (λ a=>ad.mk x.Ar x.fOp x.AI x.Gw (am.mk x.A'.Ar x.A'.E' x.A'.If x.A'.Df x.A'.C') x.By a) hx.symm).trans (yy x)
theorem Px {f:Nat}(ih:Rol f):∀ (SR:Nat) (li:Int) b l (x:ad) (r5:ad×ai),li=SR->SR<=5->x.fAt=r5.1.fAt->∀ (L:List ac),Gd L->L.length<=1000000000->∀ (i:Nat) (Mp:Int) (q:PE⊕(ad×List ac)),Gl l->et L i Mp b l->oW (f+1) SR b x l=some q ->
  Ev2 (λ n m=>bK n (bA n) li r5 m x.Ar x.fOp x.AI x.Gw x.A'.Ar x.A'.E' x.A'.If x.A'.Df x.A'.C' x.By L (i:Int) Mp 0 0 []) (BLO L Mp b l.length r5.1.fAt q):=by
 intro SR li b l x r5 X7 hl5 S' L hL M' i Mp q gl h hq;rw [oW] at hq;refine aw ?_;simp only [bK,au,cl];subst X7;have ho:=K3 hL M' hl5 h;have b1:=(tlS b l).length_le;have eta:ad.mk x.Ar x.fOp x.AI x.Gw (am.mk x.A'.Ar x.A'.E' x.A'.If x.A'.Df x.A'.C') x.By r5.1.fAt=x:=by rw [<- S']; exact yy x
 rw [eta]
 cases hp:vu b l SR with
 | none =>
  rw [hp] at ho hq
  cases hq
  refine ah (λ t=>∃ j:Nat,t=(false,L,(j:Int),Mp,0,0,[])/\et L j Mp b l) (ae Z (ah _ ho ?_)) ?_
  ·rintro _ ⟨j,rfl,h3⟩;exact kw
  ·rintro _ ⟨j,rfl,h3⟩;exact af mv (aa ⟨j,rfl,S',h3⟩)
 | some p =>
  rw [hp] at ho hq;obtain ⟨hm,hs⟩:=DX hp;refine ah (λ t=>∃ j:Nat,t=(true,L,(j:Int),Mp,0,0,[])/\RAt L j Mp b l) (ae rfl (ah _ ho ?_)) ?_
  ·rintro _ ⟨j,rfl,h3⟩;refine aa ⟨j,?_,h3⟩;rw [show decide (p.2=0)=false from decide_eq_false (Nb hl5 hm)]; rfl
  rintro _ ⟨j,rfl,h3⟩;refine ae rfl ?_;have ho:=K3 hL M' hl5 h3.1;rw [hp] at ho;refine ah _ ho ?_;rintro _ ⟨j,rfl,ha⟩;have hj:=ha.1.1;have hn:=ha.next hL (sg6 hs);have g2:=glt gl hs;refine ag fR ?_;refine ag aB ?_;have hq:pb (nU f (SR+1) b (tl b l)) (λ y l=>oW f SR b (ad.mk 7 p.2 [] [] v0 [x,y] x.fAt) l)=some q:=hq;refine tf hq (λ _ hx=>ih.b (SR+1) ((SR:Int)+1) b _ O O  L hL M' (j+1) ((j:Int)+1) Mp _ rfl g2 hn.1 hx) ?_ ?_
  ·
   rintro e z1 I he Tq TE rfl;refine aQ (Nx he (SR:Int) r5 (ad.mk 7 p.2 [] [] v0 [x,z1] x.fAt) I Mp) ?_;rintro _ rfl;exact ⟨he,_,I,rfl,Tq,by omega⟩
  intro y l1 j hx h3 hq;have f1:=(fct f).b (SR+1) b _ g2 _ hx;have b2:=f1.2.1.length_le;have b3:=(tlS b (tl b l)).length_le;refine aQ (ih.bl SR SR b _ (ad.mk 7 p.2 [] [] v0 [x,_] x.fAt) r5 rfl hl5 S' L hL M' j Mp q f1.2.2 h3 hq) ?_;rcases q with e | ⟨x',l'⟩
  ·rintro _ ⟨he,y,I,rfl,Tq,TE⟩;exact ⟨he,y,I,rfl,Tq,by omega⟩
  ·rintro _ hz;exact hz
theorem Ja {f:Nat}(ih:Rol f):∀ b l,Rl fj b l (pb (lE f b l) λ e l=>j4 f b e l):=by
 intro b l L hL M' i I Mp q hI gl h hq;subst hI;refine aP ?_;simp only [fj];have b1:=(tlS b l).length_le;refine tf hq (λ _ hx=>ih.p b l L hL M' i _ Mp _ rfl gl h hx) ?_ ?_
 ·
  rintro e z1 I he Tq TE rfl;refine ez (HH z1 (L,I,Mp,e.1,e.2,[])) (aO (f:=λ n m=>ba n (aK n) (z1,.mk L I Mp (eD e)) m z1.Ar z1.fOp z1.AI z1.Gw z1.A'.Ar z1.A'.E' z1.A'.If z1.A'.Df z1.A'.C' z1.By L I Mp e.1 e.2 []) (aw ?_)) (aa ⟨he,I,rfl,Tq,TE⟩);simp only [ba,au,cl];exact af (qJ he) (aa rfl)
 intro c l1 j hx h3 hq;have f1:=(fct f).p b l gl _ hx;have b2:=f1.2.1.length_le;refine cm (aQ (aO (ih.pl b _ _ (_,.mk L (j:Int) Mp dOk) rfl L hL M' j _ Mp q rfl f1.2.2 h3 hq)) ?_);rcases q with e | ⟨x,l'⟩
 ·rintro _ ⟨he,x,I,rfl | rfl,Tq,TE⟩
  ·exact nq
  ·exact ⟨he,I,Z,Tq,by omega⟩
 ·rintro _ ⟨j,rfl,h3⟩;exact ⟨rfl,j,rfl,h3⟩
theorem Sf {f:Nat}(ih:Rol f):∀ b l,Rl dJ b l (unS (f+1) b l):=by
 intro b l L hL M' i I Mp q hI gl h hq;subst hI;rw [unS] at hq;refine aP ?_;simp only [dJ];have b1:=(tlS b l).length_le;refine bG nu λ j ha=>?_;by_cases hs:sgB b l [33]=true
 ·
  rw [if_pos hs] at hq;refine ah (λ t=>∃ j:Nat,t=(1,L,(j:Int),Mp,0,0,[])/\RAt L j Mp b l) ?_ ?_
  ·
   refine bG nw λ j ha=>?_;exact ae hs xC
  rintro _ ⟨j,rfl,ha⟩;refine ah (λ t=>∃ j:Nat,t=(1,L,(j:Int),Mp,0,0,[])/\RAt L j Mp b l) ?_ ?_
  ·
   refine bG nw λ j ha=>?_;exact af (F2 hs (by decide)) xC
  rintro _ ⟨j,rfl,ha⟩;have hj:=ha.1.1;have hn:=ha.next hL (sg6 hs);have g2:=glt gl hs;have b2:=(tlS b (tl b l)).length_le;refine af (show ¬ (1:Int)=0 by decide) ?_;refine ag fR ?_;refine tf hq (λ _ hx=>ih.u b _ L hL M' (j+1) ((j:Int)+1) Mp _ rfl g2 hn.1 hx) ?_ ?_
  ·exact ER
  intro c l1 j hx h3 hq;exact jM
 rw [if_neg hs] at hq;by_cases hs2:sgB b l [45]=true
 ·
  rw [if_pos hs2] at hq;refine ah (λ t=>∃ j:Nat,t=(0,L,(j:Int),Mp,0,0,[])/\RAt L j Mp b l) ?_ ?_
  ·
   exact GJ
  rintro _ ⟨j,rfl,ha⟩;refine ah (λ t=>∃ j:Nat,t=(2,L,(j:Int),Mp,0,0,[])/\RAt L j Mp b l) ?_ ?_
  ·
   refine bG nw λ j ha=>?_;exact ae hs2 xC
  rintro _ ⟨j,rfl,ha⟩;have hj:=ha.1.1;have hn:=ha.next hL (sg6 hs2);have g2:=glt gl hs2;have b2:=(tlS b (tl b l)).length_le;refine af (show ¬ (2:Int)=0 by decide) ?_;refine ag fR ?_;refine tf hq (λ _ hx=>ih.u b _ L hL M' (j+1) ((j:Int)+1) Mp _ rfl g2 hn.1 hx) ?_ ?_
  ·exact ER
  intro c l1 j hx h3 hq;exact jM
 rw [if_neg hs2] at hq;refine ah (λ t=>∃ j:Nat,t=(0,L,(j:Int),Mp,0,0,[])/\RAt L j Mp b l) ?_ ?_
 ·
  exact GJ
 rintro _ ⟨j,rfl,ha⟩;refine ah (λ t=>∃ j:Nat,t=(0,L,(j:Int),Mp,0,0,[])/\RAt L j Mp b l) ?_ ?_
 ·
  refine bG nw λ j ha=>?_;exact af hs2 xC
 rintro _ ⟨j,rfl,ha⟩;refine ae rfl ?_;refine ah _ (Ja ih b l L hL M' j _ Mp _ rfl gl ha.1 hq) ?_;exact jw
theorem Qk {f:Nat}(ih:Rol f):∀ b l (x:ad) (r1:ad×ai),x.fAt=r1.1.fAt->∀ (L:List ac),Gd L->L.length<=1000000000->∀ (i:Nat) (I Mp:Int) (q:PE⊕(ad×List ac)),I=i->Gl l->et L i Mp b l->j4 (f+1) b x l=some q ->
  Ev2 (λ n m=>ba n (aK n) r1 m x.Ar x.fOp x.AI x.Gw x.A'.Ar x.A'.E' x.A'.If x.A'.Df x.A'.C' x.By L I Mp 0 0 []) (PLO L Mp b l.length q):=by
 intro b l x r1 S' L hL M' i I Mp q hI gl h hq;subst hI;have hn0:=h.2.1;have hb:=h.2.2.2.1;have Wk:=h.2.2.1;rw [j4] at hq;refine aw ?_;simp only [ba,au,cl];have b1:=(tlS b l).length_le;have eta:ad.mk x.Ar x.fOp x.AI x.Gw (am.mk x.A'.Ar x.A'.E' x.A'.If x.A'.Df x.A'.C') x.By r1.1.fAt=x:=by rw [<- S']; exact yy x
 rw [eta];refine ae rfl (cm ?_);refine bG (lz hL M' _ h) λ j ha=>?_;by_cases hs:sgB b l [46]=true
 ·
  rw [if_pos hs] at hq;have hj:=ha.1.1;have hn:=ha.next hL (sg6 hs);have g2:=glt gl hs;refine ae hs ?_;refine ag fR ?_;refine bG (kj (P:=λ y=>Ev2 (λ n _=>bF n (.mk L y Mp dOk)) _) (tA hL M' hn.1)) λ j ha=>?_;have hj:=ha.1.1;by_cases hk:(hd b (tl b l)).Ar=1
  ·
   rw [if_pos hk] at hq;have hn:=ha.next hL O;have g3:=glk g2 hk (by decide);have b2:=(tlS b (tl b l)).length_le;refine ae hk ?_;refine ag fR ?_;refine aa (aQ (ih.pl b _ (ad.mk 4 0 (hd b (tl b l)).B' [] v0 [x] x.fAt) r1 S' L hL M' (j+1) ((j:Int)+1) Mp q rfl g3 hn.1 hq) ?_);exact KA
  ·
   rw [if_neg hk] at hq; cases hq;refine af hk (ah _ tR ?_);rintro _ ⟨j,rfl,hj⟩;exact aa ⟨(by decide:(2:Int)≠0),x,(j:Int),.inr rfl,by omega,by omega⟩
 rw [if_neg hs] at hq;refine af hs ?_;refine bG nw λ j ha=>?_;by_cases hs2:sgB b l [91]=true
 ·
  rw [if_pos hs2] at hq;have hj:=ha.1.1;have hi:=ha.inn hL (sg6 hs2);have g2:=glt gl hs2;refine ae hs2 ?_;refine ag fR ?_;refine ag qt ?_;refine tf hq (λ _ hx=>ih.e true _ L hL M' (j+1) ((j:Int)+1) (Mp+1) _ rfl g2 hi hx) ?_ ?_
  ·
   rintro e z1 I he Tq TE rfl;refine aj (L,I,Mp+1,e.1,e.2,[]) lx ?_;refine ag mr ?_;refine aa ?_;have e5:Mp+1 - 1=Mp:=Int.add_sub_cancel Mp 1;simp only [e5];refine aw ?_;simp only [ba,au,cl];exact af (qJ he) (aa ⟨he,ad.mk 5 0 [] [] v0 [x,z1] r1.1.fAt,I,.inl rfl,Tq,by omega⟩)
  intro y l1 j hx h3 hq;have f1:=(fct f).e true _ g2 _ hx;have b2:=f1.2.1.length_le;have b3:=(tlS true (tl b l)).length_le;rcases bc hq with ⟨e,Wj,rfl⟩ | ⟨u,l2,Wj,hq⟩
  ·
   refine ah (λ t=>e.1≠0/\∃ I:Int,t=(L,I,Mp+1,e.1,e.2,[])/\0<=I/\I<=1000000000) (ae Z ?_) ?_
   ·
    refine ah _ xl ?_;rintro _ ⟨he,I,rfl,Tq,TE⟩;exact nq
   rintro _ ⟨he,I,rfl,Tq,TE⟩;refine ag mr ?_;refine aa ?_;have e5:Mp+1 - 1=Mp:=Int.add_sub_cancel Mp 1;simp only [e5];refine aw ?_;simp only [ba,au,cl];exact af (qJ he) (aa ⟨he,ad.mk 5 0 [] [] v0 [x,_] r1.1.fAt,I,.inl rfl,Tq,by omega⟩)
  ·
   refine ah (λ t=>∃ j:Nat,t=(L,(j:Int),Mp+1,0,0,[])/\et L j (Mp+1) true l2/\L.drop j=l2) (ae Z ?_) ?_
   ·
    refine ah _ xl ?_;exact rQ
   rintro _ ⟨j,rfl,h3,h4⟩;have f3:=cW (b:=true) (s:=[93]) f1.2.2 _ Wj;have b4:=(f3.2.1.trans (tlS true l1)).length_le;refine ag mr ?_;refine aa ?_;have e5:Mp+1 - 1=Mp:=Int.add_sub_cancel Mp 1;simp only [e5];refine aQ (ih.pl b _ (ad.mk 5 0 [] [] v0 [x,_] x.fAt) r1 S' L hL M' j _ Mp q rfl f3.2.2 (h3.out hn0 hb h4) hq) ?_;exact KA
 ·
  rw [if_neg hs2] at hq; cases hq;exact af hs2 (aa ⟨j,rfl,ha.1⟩)
theorem RP {f:Nat}(ih:Rol f):∀ b l,(hd b l).Ar=3->Rl bB b l (qn (f+1) b l):=by
 intro b l k3 L hL M' i I Mp q hI gl h hq;subst hI;rw [qn] at hq;refine aP ?_;simp only [bB];refine bG nu λ j ha=>?_;have tk:=sX (ha.1.gd hL);have t1':=tk.1;have t2':=tk.2.2.1 k3;have hj:=ha.1.1;have hn:=ha.next hL O;refine af (show ¬ (hd b l).Ar=2 by omega) (ae k3 ?_);refine ag Jy ?_
 cases ht:jC f (hd b l).B' ((hd b l).fAt+1) with
 | none=>rw [ht] at hq; cases hq
 | some y =>
  rw [ht] at hq;have hf:=(fct f).tm _ _ O O  y ht;refine aj _ (ih.tm (hd b l).B' ((hd b l).fAt+1) y O O  ht) ?_;rcases y with e | e
  ·cases hq
   refine aj (L,(j:Int),Mp,e.1,e.2,[]) (af hf (aj _ AH (aa Z))) ?_;refine ag fR ?_;exact aa ⟨hf,(j:Int)+1,Z,by omega,by omega⟩
  ·cases hq
   refine aj (L,(j:Int),Mp,0,0,[]) u5 ?_;refine ag fR ?_;exact aa ⟨Z,j+1,Z,hn.1⟩
theorem Db {f:Nat}(ih:Rol f):∀ b l,sgB b l [40]=true->Rl bB b l (pb (gi f true (tl b l)) λ e l=>pb (ek true [41] l) λ _ l=>pok e l):=by
 intro b l hs L hL M' i I Mp q hI gl h hq;subst hI;have hn0:=h.2.1;have hb:=h.2.2.2.1;have Wk:=h.2.2.1;have b1:=(tlS b l).length_le;have k4:=(lI.1 hs).1;refine aP ?_;simp only [bB,au,cl];refine bG nu λ j ha=>?_;refine af (show ¬ (hd b l).Ar=2 by omega) (af (show ¬ (hd b l).Ar=3 by omega) (af (show ¬ (hd b l).Ar=1 by omega) ?_));refine bG nw λ j ha=>?_;have hj:=ha.1.1;have hi:=ha.inn hL (sg6 hs);have g2:=glt gl hs;refine ae hs ?_;refine ag fR ?_;refine ag qt ?_;refine tf hq (λ _ hx=>ih.e true _ L hL M' (j+1) ((j:Int)+1) (Mp+1) _ rfl g2 hi hx) ?_ ?_
 ·
  rintro e z1 I he Tq TE rfl;refine aj (L,I,Mp+1,e.1,e.2,[]) lx ?_;exact JB
 intro c l1 j hx h3 hq;have f1:=(fct f).e true _ g2 _ hx;have b2:=f1.2.1.length_le;have b3:=(tlS true (tl b l)).length_le;rcases bc hq with ⟨e,Wj,rfl⟩ | ⟨u,l2,Wj,hq⟩
 ·
  refine ah (λ t=>e.1≠0/\∃ I:Int,t=(L,I,Mp+1,e.1,e.2,[])/\0<=I/\I<=1000000000) (ae Z ?_) ?_
  ·
   refine ah _ xl ?_;rintro _ ⟨he,I,rfl,Tq,TE⟩;exact nq
  rintro _ ⟨he,I,rfl,Tq,TE⟩;exact JB
 ·
  refine ah (λ t=>∃ j:Nat,t=(L,(j:Int),Mp+1,0,0,[])/\et L j (Mp+1) true l2/\L.drop j=l2) (ae Z ?_) ?_
  ·
   refine ah _ xl ?_;exact rQ
  exact GP
theorem vt.up {α:Type}{L:List ac}{Mp:Int}{b:Bool}{N M:Nat}{q:PE⊕(α×List ac)}{z:α×ai}(h:vt L Mp b N q z)(hNM:N<=M):vt L Mp b M q z:=by
 rcases q with e | ⟨x,l⟩
 ·obtain ⟨he,I,h1,h2,h3⟩:=h;exact ⟨he,I,h1,h2,by omega⟩
 ·exact h
theorem jf {L:List ac}{e:PE}(he:e.1≠0)(I Mp:Int):Ev2 (λ n _=>bf n (.mk L I Mp (eD e))) (λ z=>z.2=.mk L I Mp (eD e)):=by
 refine aP ?_;simp only [bf,au,cl];exact ae (kC he) (aa Z)
theorem Nu {L:List ac}{e:PE}(he:e.1≠0)(en:Bytes)(out:List ad)(I Mp:Int) :
  Ev2 (λ n m=>bu n (aK n) en m out L I Mp e.1 e.2 []) (·=(out,L,I,Mp,e.1,e.2,[])):=by
 refine aw ?_;simp only [bu,au,cl];exact BB
theorem Nz {L:List ac}{e:PE}(he:e.1≠0)(out:List ad)(I Mp:Int) :
  Ev2 (λ n m=>bn n (cb n) (bf n) m out L I Mp e.1 e.2 []) (·=(out,L,I,Mp,e.1,e.2,[])):=by
 refine aw ?_;simp only [bn,au,cl];exact BB
theorem Sq {L:List ac}(hL:Gd L)(M':L.length<=1000000000){en:Bytes}{out:List ad}{i:Nat}{Mp:Int}{l:List ac}(N:Nat)(h:et L i Mp true l)(hs:sgB true l en=true) :
  Ev2 (λ n m=>bu n (aK n) en m out L (i:Int) Mp 0 0 []) (ILO L Mp en out N (.inr ([],tl true l))):=by
 refine aw ?_;simp only [bu,au,cl];exact KL
theorem Rv {L:List ac}(hL:Gd L)(M':L.length<=1000000000){out:List ad}{i:Nat}{Mp:Int}{l:List ac}(N:Nat)(h:et L i Mp true l)(hs:sgB true l [125]=true) :
  Ev2 (λ n m=>bn n (cb n) (bf n) m out L (i:Int) Mp 0 0 []) (ILO L Mp [125] out N (.inr ([],tl true l))):=by
 refine aw ?_;simp only [bn,au,cl];exact KL
theorem o6 {f:Nat}(ih:Rol f):∀ b l,Rl bf b l (gi f b l):=by
 intro b l L hL M' i I Mp q hI gl h hq;refine aP ?_;simp only [bf,au,cl];refine af mv (ah _ (ih.e b l L hL M' i I Mp q hI gl h hq) ?_);exact jw
theorem SG {f:Nat}(ih:Rol f):∀ (en:Bytes) (l:List ac) (out:List ad),en≠[44]->Gl l->out.length+l.length<=1000000000->∀ (L:List ac),Gd L->L.length<=1000000000->∀ (i:Nat) (I Mp:Int) (q:PE⊕(List ad×List ac)),I=i->et L i Mp true l->ip (f+1) en l=some q ->
  Ev2 (λ n m=>bu n (aK n) en m out L I Mp 0 0 []) (ILO L Mp en out l.length q):=by
 intro en l out XM gl SS L hL M' i I Mp q hI h hq;subst hI;have gt:=gll (b:=true) gl;rw [ip] at hq;refine aw ?_;simp only [bu,au,cl];refine ah (λ t=>∃ j:Nat,t=(!sgB true l en,L,(j:Int),Mp,0,0,[])/\RAt L j Mp true l) (ae rfl ?_) ?_
 ·
  refine bG (lz hL M' _ h) λ j ha=>?_;exact uN
 rintro _ ⟨j,rfl,ha⟩;by_cases hs:sgB true l en=true
 ·exact KM
 rw [if_neg hs] at hq;refine ae rC ?_;rcases bc hq with ⟨e,hx,rfl⟩ | ⟨x,l1,hx,hq⟩
 ·
  refine ah (λ t=>e.1≠0/\∃ (ks:List ad) (I:Int),t=(ks,L,I,Mp,e.1,e.2,[])/\0<=I/\I<=1000000000+(l.length:Int)) ?_ ?_
  ·
   refine ah _ (ih.e true l L hL M' j _ Mp _ rfl gl ha.1 hx) ?_;rintro ⟨z1,z2⟩ ⟨he,I,h2,Tq,TE⟩
   cases h2
   exact xV
  rintro _ ⟨he,ks,I,rfl,Tq,TE⟩;refine aQ (Nu he en ks I Mp) ?_;exact Co
 ·
  have f1:=(fct f).e true l gl _ hx;have b2:=f1.2.1.length_le;have b4:=gll (b:=true) f1.2.2;by_cases hc:sgB true l1 [44]=true
  ·
   rw [if_pos hc] at hq;have Tc:¬ sgB true l1 en=true:=F2 hc (λ k=>XM k.symm);have g2:=glt f1.2.2 hc;refine ah (λ t=>∃ j:Nat,t=(out++[x],L,(j:Int),Mp,0,0,[])/\et L j Mp true (tl true l1)) ?_ ?_
   ·
    refine bG (ih.e true l L hL M' j _ Mp _ Z gl ha.1 hx) λ j h3=>?_;refine ag cu ?_;refine ah (λ t=>∃ j:Nat,t=(true,L,(j:Int),Mp,0,0,[])/\RAt L j Mp true l1) (ae Z ?_) ?_
    ·
     refine bG pd λ j ha=>?_;exact aa ⟨j,by rw [show sgB true l1 en=false by simpa using Tc]; rfl,ha⟩
    rintro _ ⟨j,rfl,ha⟩;refine ae rfl ?_;refine ah _ (iy hL M' [44] (q:=.inr ((),tl true l1)) ha.1 (by unfold ek; rw [if_pos hc]; rfl)) ?_;rintro _ ⟨j,rfl,h3,h4⟩;exact kw
   rintro _ ⟨j,rfl,h3⟩;rcases bc hq with ⟨e,hy,rfl⟩ | ⟨ks,l2,hy,hq⟩
   ·refine aQ (ih.i en _ (out++[x]) XM g2 kt L hL M' j _ Mp _ rfl h3 hy) ?_;rintro _ ⟨he,ks,I,rfl,Tq,TE⟩;exact ⟨he,ks,I,rfl,Tq,by omega⟩
   ·cases hq
    refine aQ (ih.i en _ (out++[x]) XM g2 kt L hL M' j _ Mp _ rfl h3 hy) ?_;rintro _ ⟨j,l'',rfl,ha,hs,ht⟩;exact ⟨j,l'',by rw [List.append_assoc]; rfl,ha,hs,ht⟩
  ·
   rw [if_neg hc] at hq;by_cases he2:sgB true l1 en=true
   ·
    refine ah (λ t=>∃ j:Nat,t=(out++[x],L,(j:Int),Mp,0,0,[])/\et L j Mp true l1) ?_ ?_
    ·
     refine bG (ih.e true l L hL M' j _ Mp _ Z gl ha.1 hx) λ j h3=>?_;refine ag cu ?_;refine ah (λ t=>∃ j:Nat,t=(false,L,(j:Int),Mp,0,0,[])/\RAt L j Mp true l1) (ae Z ?_) ?_
     ·
      exact Hn
     exact FB
    rintro _ ⟨j,rfl,h3⟩;have hq:pb (ek true en l1) (λ _ l=>pok [x] l)=some q:=hq;unfold ek at hq;rw [if_pos he2] at hq
    cases hq
    refine aQ (Sq hL M' l.length h3 he2) ?_;rintro _ ⟨j,l'',rfl,ha,hs,ht⟩;exact ⟨j,l'',by rw [List.append_nil],ha,hs,ht⟩
   ·
    have hq:pb (ek true en l1) (λ _ l=>pok [x] l)=some q:=hq;unfold ek at hq;rw [if_neg he2] at hq
    cases hq
    refine ah (λ t=>((2,(hd true l1).fAt):PE).1≠0/\∃ (ks:List ad) (I:Int),t=(ks,L,I,Mp,2,(hd true l1).fAt,[])/\0<=I/\I<=1000000000+(l.length:Int)) ?_ ?_
    ·
     refine bG (ih.e true l L hL M' j _ Mp _ Z gl ha.1 hx) λ j h3=>?_;refine ag cu ?_;refine ah (λ t=>∃ j:Nat,t=(true,L,(j:Int),Mp,0,0,[])/\RAt L j Mp true l1) (ae Z ?_) ?_
     ·
      refine bG pd λ j ha=>?_;exact aa ⟨j,by rw [show sgB true l1 en=false by simpa using he2]; rfl,ha⟩
     rintro _ ⟨j,rfl,ha⟩;refine ae rfl ?_;refine ah _ (iy hL M' [44] (q:=.inl (2,(hd true l1).fAt)) ha.1 (by unfold ek; rw [if_neg hc]; rfl)) ?_;rintro _ ⟨he,I,rfl,Tq,TE⟩;exact Cz
    rintro _ ⟨he,ks,I,rfl,Tq,TE⟩;refine aQ (Nu (e:=(2,(hd true l1).fAt)) he en ks I Mp) ?_;exact Co
theorem vI {f:Nat}(ih:Rol f):∀ (en:Bytes) l,en≠[44]->RlC (λ n p=>eR n p en) l (ip f en l):=by
 intro en l XM L hL M' i I Mp b q hI hn0 hb gl h hq;subst hI;have Wk:=h.2.2.1;refine aP ?_;simp only [eR,au,cl];refine ag qt ?_;refine ah _ (aO (ih.i en l [] XM gl Aq L hL M' i _ (Mp+1) q rfl h hq)) ?_;rcases q with e | ⟨ks,l'⟩
 ·rintro _ ⟨he,ks,I,rfl,Tq,TE⟩;refine ag mr ?_;refine aj (L,I,Mp+1 - 1,e.1,e.2,[]) lx (aa ⟨he,I,by show ai.mk L I (Mp+1 - 1) (eD e)=_; rw [Int.add_sub_cancel],Tq,TE⟩)
 ·rintro _ ⟨j,l'',rfl,ha,hs,rfl⟩;have hj:=ha.1.1;have hn:=ha.next hL (sg6 hs);exact IG
theorem Sg {f:Nat}(ih:Rol f):∀ b l,(hd b l).Ar=1->∀ (L:List ac),Gd L->L.length<=1000000000->∀ (j:Nat) (Mp:Int) (q:PE⊕(ad×List ac)),Gl l->RAt L j Mp b l->mT (f+1) b l=some q->Ev2 (λ n _=>fw n (.mk L (j:Int) Mp dOk) (hd b l)) (vt L Mp b l.length q):=by
 intro b l k1 L hL M' j Mp q gl ha hq;have hj:=ha.1.1;have hn:=ha.next hL O;have hn0:=ha.1.2.1;have hb:=ha.1.2.2.2.1;have Wk:=ha.1.2.2.1;have g1:=glk gl k1 (by decide);have b1:=(tlS b l).length_le;have b2:=(tlS b (tl b l)).length_le;rw [mT] at hq;refine aP ?_;simp only [fw];by_cases s1:(hd b l).B'=[110,117,108,108]
 ·rw [if_pos s1] at hq; cases hq;refine ae s1 ?_;exact Bj
 rw [if_neg s1] at hq;refine af s1 ?_;by_cases s2:(hd b l).B'=[116,114,117,101]
 ·rw [if_pos s2] at hq; cases hq;refine aj true xU (ae rfl ?_);refine ag fR ?_;exact aj 1 xU H5
 rw [if_neg s2] at hq;by_cases s3:(hd b l).B'=[102,97,108,115,101]
 ·rw [if_pos s3] at hq; cases hq;refine aj true (af s2 (aa (decide_eq_true s3))) (ae rfl ?_);refine ag fR ?_;exact aj 0 (af s2 (aa rfl)) H5
 rw [if_neg s3] at hq;refine aj false (af s2 (aa (decide_eq_false s3))) (af mv (aj _ (ax (Is _) rfl) ?_));by_cases s4:kR (hd b l).B'=true
 ·rw [if_pos s4] at hq; cases hq;refine ae s4 (ah _ tR ?_);exact wG
 rw [if_neg s4] at hq;refine af s4 ?_;refine ag fR ?_;refine bG (kj (P:=λ y=>Ev2 (λ n _=>aW n (.mk L y Mp dOk) [40]) _) (lz hL M' [40] hn.1)) λ j ha=>?_;have hj:=ha.1.1;by_cases s5:sgB b (tl b l) [40]=true
 ·rw [if_pos s5] at hq;have hi:=ha.inn hL (sg6 s5);have g2:=glt g1 s5;refine af (by simp [s5]) ?_;refine ag fR ?_;rcases bc hq with ⟨e,hx,rfl⟩ | ⟨ks,l1,hx,hq⟩
  ·refine ah _ Gp ?_;rintro ⟨z1,z2⟩ ⟨he,I,h2,Tq,TE⟩
   cases h2
   exact nq
  ·refine bG Gp λ j h3=>?_;exact jM
 ·rw [if_neg s5] at hq; cases hq;exact ae (by simpa using s5) (aa ⟨rfl,j,rfl,ha.1⟩)
theorem RF {f:Nat}(ih:Rol f):∀ (l:List ac) (out:List ad),Gl l->out.length+2*l.length<=3000000000->∀ (L:List ac),Gd L->L.length<=1000000000->∀ (i:Nat) (I Mp:Int) (q:PE⊕(List ad×List ac)),I=i->et L i Mp true l->oX (f+1) l=some q ->
  Ev2 (λ n m=>bn n (cb n) (bf n) m out L I Mp 0 0 []) (ILO L Mp [125] out l.length q):=by
 intro l out gl SS L hL M' i I Mp q hI h hq;subst hI;have gt:=gll (b:=true) gl;rw [oX] at hq;refine aw ?_;simp only [bn,au,cl];refine ah (λ t=>∃ j:Nat,t=(!sgB true l [125],L,(j:Int),Mp,0,0,[])/\RAt L j Mp true l) (ae rfl ?_) ?_
 ·
  refine bG (lz hL M' _ h) λ j ha=>?_;exact uN
 rintro _ ⟨j,rfl,ha⟩;by_cases hs:sgB true l [125]=true
 ·exact KM
 rw [if_neg hs] at hq;refine ae rC ?_;rcases bc hq with ⟨e,hx,rfl⟩ | ⟨x,l1,hx,hq⟩
 ·
  refine ah (λ t=>e.1≠0/\∃ (ks:List ad) (I:Int),t=(ks,L,I,Mp,e.1,e.2,[])/\0<=I/\I<=1000000000+(l.length:Int)) ?_ ?_
  ·
   refine ah _ (ih.k l L hL M' j _ Mp _ rfl gl ha.1 hx) ?_;rintro ⟨z1,z2⟩ ⟨he,I,h2,Tq,TE⟩
   cases h2
   refine ag cu ?_;refine aj (L,I,Mp,e.1,e.2,[]) lx ?_;refine ah _ (jf he I Mp) ?_;rintro ⟨y1,y2⟩ hy
   cases hy
   exact xV
  exact AQ
 ·
  have f1:=(fct f).k l gl _ hx;have b2:=f1.2.1.length_le;rcases bc hq with ⟨e,hn,rfl⟩ | ⟨u,l2,hn,hq⟩
  ·
   refine ah (λ t=>e.1≠0/\∃ (ks:List ad) (I:Int),t=(ks,L,I,Mp,e.1,e.2,[])/\0<=I/\I<=1000000000+(l.length:Int)) ?_ ?_
   ·
    refine bG (ih.k l L hL M' j _ Mp _ Z gl ha.1 hx) λ j h3=>?_;refine ag cu ?_;refine ah (λ t=>e.1≠0/\∃ I:Int,t=(L,I,Mp,e.1,e.2,[])/\0<=I/\I<=1000000000) (ae Z ?_) ?_
    ·
     refine ah _ uq ?_;rintro _ ⟨he,I,rfl,Tq,TE⟩;exact nq
    rintro _ ⟨he,I,rfl,Tq,TE⟩;refine ah _ (jf he I Mp) ?_;rintro ⟨y1,y2⟩ hy
    cases hy
    exact xV
   exact AQ
  ·
   have f2:=cW (b:=true) (s:=[61]) f1.2.2 _ hn;have b3:=(f2.2.1.trans (tlS true l1)).length_le;rcases bc hq with ⟨e,hv,rfl⟩ | ⟨y,l3,hv,hq⟩
   ·
    refine ah (λ t=>e.1≠0/\∃ (ks:List ad) (I:Int),t=(ks,L,I,Mp,e.1,e.2,[])/\0<=I/\I<=1000000000+(l.length:Int)) ?_ ?_
    ·
     refine bG (ih.k l L hL M' j _ Mp _ Z gl ha.1 hx) λ j h3=>?_;refine ag cu ?_;refine ah (λ t=>∃ j:Nat,t=(L,(j:Int),Mp,0,0,[])/\et L j Mp true l2) (ae Z ?_) ?_
     ·
      refine ah _ uq ?_;rintro _ ⟨j,rfl,h3,h4⟩;exact kw
     rintro _ ⟨j,rfl,h3⟩;refine ah _ wU ?_;rintro ⟨z1,z2⟩ ⟨he,I,h2,Tq,TE⟩
     cases h2
     exact xV
    exact AQ
   ·
    have f3:=(fct f).e true l2 f2.2.2 _ hv;have b4:=(f3.2.1.trans (tlS true l2)).length_le;have b5:=gll (b:=true) f3.2.2;by_cases hc:sgB true l3 [44]=true
    ·
     rw [if_pos hc] at hq;have Tc:¬ sgB true l3 [125]=true:=F2 hc (by decide);have g2:=glt f3.2.2 hc;refine ah (λ t=>∃ j:Nat,t=((out++[x])++[y],L,(j:Int),Mp,0,0,[])/\et L j Mp true (tl true l3)) ?_ ?_
     ·
      refine bG (ih.k l L hL M' j _ Mp _ Z gl ha.1 hx) λ j h3=>?_;refine ag cu ?_;refine ah (λ t=>∃ j:Nat,t=(L,(j:Int),Mp,0,0,[])/\et L j Mp true l2) (ae Z ?_) ?_
      ·
       refine ah _ uq ?_;rintro _ ⟨j,rfl,h3,h4⟩;exact kw
      rintro _ ⟨j,rfl,h3⟩;refine bG wU λ j h3=>?_;refine ag cu ?_;refine ah (λ t=>∃ j:Nat,t=(true,L,(j:Int),Mp,0,0,[])/\RAt L j Mp true l3) (ae rfl ?_) ?_
      ·
       refine bG pd λ j ha=>?_;exact aa ⟨j,by rw [show sgB true l3 [125]=false by simpa using Tc]; rfl,ha⟩
      rintro _ ⟨j,rfl,ha⟩;refine ae rfl ?_;refine ah _ (iy hL M' [44] (q:=.inr ((),tl true l3)) ha.1 (by unfold ek; rw [if_pos hc]; rfl)) ?_;rintro _ ⟨j,rfl,h3,h4⟩;exact kw
     rintro _ ⟨j,rfl,h3⟩;rcases bc hq with ⟨e,hy,rfl⟩ | ⟨ks,l4,hy,hq⟩
     ·refine aQ (ih.t _ ((out++[x])++[y]) g2 kt L hL M' j _ Mp _ rfl h3 hy) ?_;rintro _ ⟨he,ks,I,rfl,Tq,TE⟩;exact ⟨he,ks,I,rfl,Tq,by omega⟩
     ·cases hq
      refine aQ (ih.t _ ((out++[x])++[y]) g2 kt L hL M' j _ Mp _ rfl h3 hy) ?_;rintro _ ⟨j,l'',rfl,ha,hs,ht⟩;exact ⟨j,l'',by rw [List.append_assoc,List.append_assoc]; rfl,ha,hs,ht⟩
    ·
     rw [if_neg hc] at hq;by_cases he2:sgB true l3 [125]=true
     ·
      refine ah (λ t=>∃ j:Nat,t=((out++[x])++[y],L,(j:Int),Mp,0,0,[])/\et L j Mp true l3) ?_ ?_
      ·
       refine bG (ih.k l L hL M' j _ Mp _ Z gl ha.1 hx) λ j h3=>?_;refine ag cu ?_;refine ah (λ t=>∃ j:Nat,t=(L,(j:Int),Mp,0,0,[])/\et L j Mp true l2) (ae Z ?_) ?_
       ·
        refine ah _ uq ?_;rintro _ ⟨j,rfl,h3,h4⟩;exact kw
       rintro _ ⟨j,rfl,h3⟩;refine bG wU λ j h3=>?_;refine ag cu ?_;refine ah (λ t=>∃ j:Nat,t=(false,L,(j:Int),Mp,0,0,[])/\RAt L j Mp true l3) (ae rfl ?_) ?_
       ·
        exact Hn
       exact FB
      rintro _ ⟨j,rfl,h3⟩;have hq:pb (ek true [125] l3) (λ _ l=>pok [x,y] l)=some q:=hq;unfold ek at hq;rw [if_pos he2] at hq
      cases hq
      refine aQ (Rv hL M' l.length h3 he2) ?_;rintro _ ⟨j,l'',rfl,ha,hs,ht⟩;exact ⟨j,l'',by rw [List.append_nil,List.append_assoc]; rfl,ha,hs,ht⟩
     ·
      have hq:pb (ek true [125] l3) (λ _ l=>pok [x,y] l)=some q:=hq;unfold ek at hq;rw [if_neg he2] at hq
      cases hq
      refine ah (λ t=>((2,(hd true l3).fAt):PE).1≠0/\∃ (ks:List ad) (I:Int),t=(ks,L,I,Mp,2,(hd true l3).fAt,[])/\0<=I/\I<=1000000000+(l.length:Int)) ?_ ?_
      ·
       refine bG (ih.k l L hL M' j _ Mp _ Z gl ha.1 hx) λ j h3=>?_;refine ag cu ?_;refine ah (λ t=>∃ j:Nat,t=(L,(j:Int),Mp,0,0,[])/\et L j Mp true l2) (ae Z ?_) ?_
       ·
        refine ah _ uq ?_;rintro _ ⟨j,rfl,h3,h4⟩;exact kw
       rintro _ ⟨j,rfl,h3⟩;refine bG wU λ j h3=>?_;refine ag cu ?_;refine ah (λ t=>∃ j:Nat,t=(true,L,(j:Int),Mp,0,0,[])/\RAt L j Mp true l3) (ae rfl ?_) ?_
       ·
        refine bG pd λ j ha=>?_;exact aa ⟨j,by rw [show sgB true l3 [125]=false by simpa using he2]; rfl,ha⟩
       rintro _ ⟨j,rfl,ha⟩;refine ae rfl ?_;refine ah _ (iy hL M' [44] (q:=.inl (2,(hd true l3).fAt)) ha.1 (by unfold ek; rw [if_neg hc]; rfl)) ?_;rintro _ ⟨he,I,rfl,Tq,TE⟩;exact Cz
      rintro _ ⟨he,ks,I,rfl,Tq,TE⟩;refine aQ (Nz (e:=(2,(hd true l3).fAt)) he ks I Mp) ?_;exact Co
theorem RG {f:Nat}(ih:Rol f):∀ b l,Rl bB b l (lE (f+1) b l):=by
 intro b l L hL M' i I Mp q hI gl h hq;rw [lE] at hq;by_cases k3:(hd b l).Ar=3
 ·rw [if_neg O,if_pos k3] at hq;exact ih.s b l k3 L hL M' i I Mp q hI gl h hq
 by_cases s1:sgB b l [40]=true
 ·have k4:=(lI.1 s1).1;rw [if_neg O,if_neg k3,if_neg O,if_pos s1] at hq;exact Db ih b l s1 L hL M' i I Mp q hI gl h hq
 subst hI;have hn0:=h.2.1;have hb:=h.2.2.2.1;have Wk:=h.2.2.1;have b1:=(tlS b l).length_le;refine aP ?_;simp only [bB];refine bG nu λ j ha=>?_;have tk:=sX (ha.1.gd hL);have t1':=tk.1;have t2':=tk.2.1;have hj:=ha.1.1;by_cases k2:(hd b l).Ar=2
 ·rw [if_pos k2] at hq;have hn:=ha.next hL O;refine ae k2 (aj _ (Mt _ (show (hd b l).B'.length<=1000000000 by omega) (tk.2.2.2 k2)) ?_);rw [OG _ (tk.2.2.2 k2)];by_cases hz:(oG (hd b l).B').2=0
  ·rw [if_pos hz] at hq; cases hq;refine aj (L,(j:Int),Mp,0,0,[]) (ae hz (aa rfl)) ?_;exact Bj
  ·rw [if_neg hz] at hq; cases hq;refine aj (L,(j:Int),Mp,(oG (hd b l).B').2,(hd b l).fAt,[]) (af hz (aj _ AH (aa rfl))) ?_;refine ag fR ?_;exact aj _ oe (aa ⟨hz,(j:Int)+1,rfl,by omega,by omega⟩)
 rw [if_neg k2,if_neg k3] at hq;refine af k2 (af k3 ?_);by_cases k1:(hd b l).Ar=1
 ·rw [if_pos k1] at hq;refine ae k1 (ah _ (ih.n b l k1 L hL M' j Mp q gl ha hq) ?_);exact jw
 rw [if_neg k1,if_neg s1] at hq;refine af k1 ?_;refine bG nw λ j ha=>?_;refine af s1 ?_;refine bG nw λ j ha=>?_;by_cases s2:sgB b l [91]=true
 ·
  rw [if_pos s2] at hq;have hj:=ha.1.1;have hi:=ha.inn hL (sg6 s2);have g2:=glt gl s2;refine ae s2 (ah (vt L Mp b l.length q) (aP ?_) (λ z hz=>aa hz));simp only [iG];refine ag fR ?_;refine ag qt ?_;refine bG Km λ j ha=>?_;have hj:=ha.1.1;have e5:Mp+1 - 1=Mp:=Int.add_sub_cancel Mp 1;refine ag mr ?_;by_cases hw:wdB true (tl b l) [102,111,114]=true
  ·rw [if_pos hw] at hq;refine ae hw ?_;simp only [e5];refine ah _ (ih.lo (hd b l) 12 [93] (tl b l) hw (.inl ⟨rfl,rfl⟩) L hL M' j _ Mp b q rfl hn0 hb g2 ha.1 hq) ?_;rintro ⟨z1,z2⟩ hz;exact aa (hz.up b1)
  ·rw [if_neg hw] at hq;refine af hw ?_;simp only [e5];rcases bc hq with ⟨e,hx,rfl⟩ | ⟨ks,l1,hx,hq⟩
   ·refine ah _ Jq ?_;rintro ⟨z1,z2⟩ ⟨he,I,h2,Tq,TE⟩
    cases h2
    exact nq
   ·refine bG Jq λ j h3=>?_;exact jM
 rw [if_neg s2] at hq;refine af s2 ?_;refine bG nw λ j ha=>?_;by_cases s3:sgB b l [123]=true
 ·
  rw [if_pos s3] at hq;have hj:=ha.1.1;have hi:=ha.inn hL (sg6 s3);have g2:=glt gl s3;refine ae s3 (ah (vt L Mp b l.length q) (aP ?_) (λ z hz=>aa hz));simp only [gR,au,cl];refine ag fR ?_;refine ag qt ?_;refine bG Km λ j ha=>?_;have hj:=ha.1.1;have e5:Mp+1 - 1=Mp:=Int.add_sub_cancel Mp 1;by_cases hw:wdB true (tl b l) [102,111,114]=true
  ·rw [if_pos hw] at hq;refine ae hw ?_;refine ag mr ?_;simp only [e5];refine ah _ (ih.lo (hd b l) 13 [125] (tl b l) hw (.inr ⟨rfl,rfl⟩) L hL M' j _ Mp b q rfl hn0 hb g2 ha.1 hq) ?_;rintro ⟨z1,z2⟩ hz;exact aa (hz.up b1)
  ·rw [if_neg hw] at hq;refine af hw ?_;rcases bc hq with ⟨e,hx,rfl⟩ | ⟨ks,l1,hx,hq⟩
   ·refine ah _ Hm ?_;rintro _ ⟨he,ks,I,rfl,Tq,TE⟩;refine ag mr ?_;refine aj (L,I,Mp+1 - 1,e.1,e.2,[]) lx (aa ⟨he,I,by show ai.mk L I (Mp+1 - 1) (eD e)=_; rw [Int.add_sub_cancel],Tq,by omega⟩)
   ·refine ah _ Hm ?_;rintro _ ⟨j,l'',rfl,ha,hs,rfl⟩;have hj:=ha.1.1;have hn:=ha.next hL (sg6 hs)
    cases hq
    exact IG
 rw [if_neg s3] at hq; cases hq;refine af s3 (ah _ tR ?_);exact wG
theorem Rp {f:Nat}(ih:Rol f):∀ l,Rl cb true l (na (f+1) l):=by
 intro l L hL M' i I Mp q hI gl h hq;subst hI;rw [na] at hq;refine aP ?_;simp only [cb];refine bG nu λ j ha=>?_;have hj:=ha.1.1;by_cases k1:(hd true l).Ar=1
 ·rw [if_pos k1] at hq; cases hq;have hn:=ha.next hL O;refine ae k1 ?_;exact Bj
 rw [if_neg k1] at hq;refine af k1 ?_;by_cases k3:(hd true l).Ar=3
 ·rw [if_pos k3] at hq;refine aj (true,L,(j:Int),Mp,0,0,[]) (ae k3 (aa rfl)) (ae rfl ?_);refine ah _ (ih.s true l k3 L hL M' j _ Mp q rfl gl ha.1 hq) ?_;exact jw
 rw [if_neg k3] at hq;refine ah (λ t=>∃ j:Nat,t=(sgB true l [40],L,(j:Int),Mp,0,0,[])/\RAt L j Mp true l) (af k3 ?_) ?_
 ·
  refine bG nw λ j ha=>?_;exact uN
 rintro _ ⟨j,rfl,ha⟩;by_cases s1:sgB true l [40]=true
 ·rw [if_pos s1] at hq;refine ae s1 ?_;refine ah _ (Db ih true l s1 L hL M' j _ Mp q rfl gl ha.1 hq) ?_;exact jw
 ·rw [if_neg s1] at hq; cases hq;refine af s1 (ah _ tR ?_);exact wG
theorem On {f:Nat}(ih:Rol f):∀ (tk:ac) (k:Int) (en:Bytes) l,wdB true l [102,111,114]=true->(k=12/\en=[93])\/(k=13/\en=[125])->RlC (λ n p=>ea n p tk en) l (lC (f+1) tk.fAt k (tl true l)):=by
 intro tk k en l hw Zg L hL M' i I Mp b q hI hn0 hb gl h hq;subst hI;have Wk:=h.2.2.1;have X7:=h.1;have gt:=gll (b:=true) gl;rw [lC] at hq;have XM:(if k=13 then [125] else [93]:Bytes)=en:=by rcases Zg with ⟨rfl,rfl⟩ | ⟨rfl,rfl⟩ <;> rfl
 have Ve:en=[125]↔k=13:=by rcases Zg with ⟨rfl,rfl⟩ | ⟨rfl,rfl⟩ <;> decide
 rw [XM] at hq;refine aP ?_;simp only [ea,au,cl];refine aj k (av (λ h=>aa (Ve.1 h).symm) (λ h=>aa (by rcases Zg with ⟨rfl,rfl⟩ | ⟨rfl,rfl⟩; rfl; exact absurd rfl h))) ?_;refine ag qt ?_;refine bG nu λ j ha=>?_;have hj:=ha.1.1;have hn:=ha.next hL (wd6 hw);have g1:=glw gl hw;refine ag fR ?_;rcases bc hq with ⟨e,hx,rfl⟩ | ⟨v,l1,hx,hq⟩
 ·
  refine ah _ HA ?_;rintro ⟨z1,z2⟩ ⟨he,I,h2,Tq,TE⟩
  cases h2
  refine ah (λ t=>∃ (w1 w2:Bytes),t=(w1,w2,L,I,Mp+1,e.1,e.2,[])) (aj (false,L,I,Mp+1,e.1,e.2,[]) lx (af mv (aa ⟨_,_,rfl⟩))) ?_;rintro _ ⟨w1,w2,rfl⟩;refine aj (L,I,Mp+1,e.1,e.2,[]) Kv ?_;refine ag Cj ?_;have hI2:0<=I+1/\I+1<=1000000001:=by omega
  refine ah _ (jf he (I+1) (Mp+1)) ?_;rintro ⟨y1,y2⟩ hy
  cases hy
  generalize I+1=I2 at hI2 ⊢;refine ag cu ?_;refine aj (L,I2,Mp+1,e.1,e.2,[]) lx ?_;refine ah _ (jf he I2 (Mp+1)) ?_;rintro ⟨y1,y2⟩ hy
  cases hy
  exact AR
 ·
  refine bG HA λ j h3=>?_;have f1:=o5 (b:=true) g1 _ hx;have gl1:Gl l1:=f1.2.2;have b1:=(f1.2.1.trans (tlS true _)).length_le;rcases bc hq with ⟨e,hy,rfl⟩ | ⟨nk,l2,hy,hq⟩
  ·
   refine ah (λ t=>e.1≠0/\∃ (w1 w2:Bytes) (I:Int),t=(w1,w2,L,I,Mp+1,e.1,e.2,[])/\0<=I/\I<=1000000000) ?_ ?_
   ·
    refine ah (λ t=>∃ j:Nat,t=(sgB true l1 [44],L,(j:Int),Mp+1,0,0,[])/\RAt L j (Mp+1) true l1) (ae Z ?_) ?_
    ·
     refine bG pd λ j ha=>?_;exact uN
    rintro _ ⟨j,rfl,ha⟩;have hj:=ha.1.1;by_cases hc:sgB true l1 [44]=true
    ·
     rw [if_pos hc] at hy;have hn:=ha.next hL (sg6 hc);refine ae hc ?_;refine ag fR ?_;rcases bc hy with ⟨e,hz,hee⟩ | ⟨v2,l3,hz,hee⟩
     ·cases hee
      refine ah _ Kz ?_;rintro ⟨z1,z2⟩ ⟨he,I,h2,Tq,TE⟩
      cases h2
      exact aa ⟨he,_,_,I,Z,Tq,by omega⟩
     ·cases hee
    ·
     rw [if_neg hc] at hy; cases hy
   rintro _ ⟨he,w1,w2,I,rfl,Tq,TE⟩;refine aj (L,I,Mp+1,e.1,e.2,[]) Kv ?_;refine ag Cj ?_;have hI2:0<=I+1/\I+1<=1000000001:=by omega
   refine ah _ (jf he (I+1) (Mp+1)) ?_;rintro ⟨y1,y2⟩ hy
   cases hy
   generalize I+1=I2 at hI2 ⊢;refine ag cu ?_;refine aj (L,I2,Mp+1,e.1,e.2,[]) lx ?_;refine ah _ (jf he I2 (Mp+1)) ?_;rintro ⟨y1,y2⟩ hy
   cases hy
   exact AR
  ·
   have gl2:Gl l2:=by
    by_cases hc:sgB true l1 [44]=true
    ·rw [if_pos hc] at hy;rcases bc hy with ⟨e,hz,hee⟩ | ⟨v2,l3,hz,hee⟩
     ·cases hee
     ·cases hee; exact (o5 (glt gl1 hc) _ hz).2.2
    ·rw [if_neg hc] at hy; cases hy; exact gl1
   refine ah (λ t=>∃ j:Nat,t=(nk.1,nk.2,L,(j:Int),Mp+1,0,0,[])/\et L j (Mp+1) true l2) ?_ ?_
   ·
    refine ah (λ t=>∃ j:Nat,t=(sgB true l1 [44],L,(j:Int),Mp+1,0,0,[])/\RAt L j (Mp+1) true l1) (ae Z ?_) ?_
    ·
     refine bG pd λ j ha=>?_;exact uN
    rintro _ ⟨j,rfl,ha⟩;have hj:=ha.1.1;by_cases hc:sgB true l1 [44]=true
    ·
     rw [if_pos hc] at hy;have hn:=ha.next hL (sg6 hc);refine ae hc ?_;refine ag fR ?_;rcases bc hy with ⟨e,hz,hee⟩ | ⟨v2,l3,hz,hee⟩
     ·cases hee
     ·
      refine bG Kz λ j h3=>?_
      cases hee
      exact kw
    ·
     rw [if_neg hc] at hy; cases hy;exact af hc (aa ⟨j,rfl,ha.1⟩)
   rintro _ ⟨j,rfl,h3⟩;rcases bc hq with ⟨e,hx,rfl⟩ | ⟨u,l3,hx,hq⟩
   ·
    unfold y9 at hx;by_cases hc:wdB true l2 [105,110]=true
    ·rw [if_pos hc] at hx; cases hx
    rw [if_neg hc] at hx; cases hx;refine ah (λ t=>((2,(hd true l2).fAt):PE).1≠0/\∃ (I:Int),t=(L,I,Mp+1,2,(hd true l2).fAt,[])/\0<=I/\I<=1000000000) ?_ ?_
    ·
     refine ah (λ t=>∃ j:Nat,t=(!wdB true l2 [105,110],L,(j:Int),Mp+1,0,0,[])/\RAt L j (Mp+1) true l2) (ae Z ?_) ?_
     ·
      exact wR
     rintro _ ⟨j,rfl,ha⟩;refine ae (by simpa using hc) (ah _ tR ?_);exact wG
    obtain ⟨e,he2⟩:∃ e:PE,e=(2,(hd true l2).fAt):=⟨_,rfl⟩
    rw [<- he2];rintro _ ⟨he,I,hI,Tq,TE⟩;rw [show (2,(hd true l2).fAt,([]:Bytes))=(e.1,e.2,[]) by rw [he2]] at hI
    cases hI
    refine ag Cj ?_;have hI2:0<=I+1/\I+1<=1000000001:=by omega
    refine ah _ (jf he (I+1) (Mp+1)) ?_;rintro ⟨y1,y2⟩ hy
    cases hy
    generalize I+1=I2 at hI2 ⊢;refine ag cu ?_;refine aj (L,I2,Mp+1,e.1,e.2,[]) lx ?_;refine ah _ (jf he I2 (Mp+1)) ?_;rintro ⟨y1,y2⟩ hy
    cases hy
    exact AR
   ·
    have f3:=A2 (b:=true) (s:=[105,110]) gl2 _ hx;have gl3:Gl l3:=f3.2.2;refine ah (λ t=>∃ j:Nat,t=(L,(j:Int),Mp+1,0,0,[])/\RAt L j (Mp+1) true l2/\wdB true l2 [105,110]=true/\l3=tl true l2) ?_ ?_
    ·
     unfold y9 at hx;by_cases hc:wdB true l2 [105,110]=true
     ·
      rw [if_pos hc] at hx; cases hx;refine ah (λ t=>∃ j:Nat,t=(!wdB true l2 [105,110],L,(j:Int),Mp+1,0,0,[])/\RAt L j (Mp+1) true l2) (ae rfl ?_) ?_
      ·
       exact wR
      rintro _ ⟨j,rfl,ha⟩;exact af (by simp [hc]) (aa ⟨j,rfl,ha,hc,rfl⟩)
     ·rw [if_neg hc] at hx; cases hx
    rintro _ ⟨j,rfl,ha,hc,rfl⟩;have hj:=ha.1.1;have hn:=ha.next hL (wd6 hc);refine ag fR ?_
    have bl2:l2.length<=l.length:=by
     by_cases hc:sgB true l1 [44]=true
     ·rw [if_pos hc] at hy;rcases bc hy with ⟨e,hz,hee⟩ | ⟨v2,l3,hz,hee⟩
      ·cases hee
      ·cases hee; have:=((o5 (glt gl1 hc) _ hz).2.1.trans ((tlS true _).trans (tlS true l1))).length_le; omega
     ·rw [if_neg hc] at hy; cases hy; omega
    have bt2:=(tlS true l2).length_le;refine tf hq (λ _ Wj=>o6 ih true (tl true l2) L hL M' (j+1) ((j:Int)+1) (Mp+1) _ Z gl3 hn.1 Wj) ?_ ?_
    ·
     rintro e z1 I he Tq TE rfl;have TE:I<=1000000000+(l.length:Int):=by omega
     refine ag cu ?_;refine aj (L,I,Mp+1,e.1,e.2,[]) lx ?_;refine ah _ (jf he I (Mp+1)) ?_;rintro ⟨y1,y2⟩ hy
     cases hy
     exact BE
    intro x l4 j Wj h3 hq;refine ag cu ?_;have f4:=(fct f).e true _ gl3 _ Wj;have bl4:=(f4.2.1.trans (tlS true _)).length_le;rcases bc hq with ⟨e,ZM,rfl⟩ | ⟨u,l5,ZM,hq⟩
    ·
     refine ah (λ t=>e.1≠0/\∃ I:Int,t=(L,I,Mp+1,e.1,e.2,[])/\0<=I/\I<=1000000000) (ae Z ?_) ?_
     ·
      refine ah _ wC ?_;rintro _ ⟨he,I,rfl,Tq,TE⟩;exact nq
     rintro _ ⟨he,I,rfl,Tq,TE⟩;refine ah _ (jf he I (Mp+1)) ?_;rintro ⟨y1,y2⟩ hy
     cases hy
     exact BE
    ·
     have f5:=cW (b:=true) (s:=[58]) f4.2.2 _ ZM;have bl5:=(f5.2.1.trans (tlS true _)).length_le;refine ah (λ t=>∃ j:Nat,t=(L,(j:Int),Mp+1,0,0,[])/\et L j (Mp+1) true l5/\L.drop j=l5) (ae Z ?_) ?_
     ·
      refine ah _ wC ?_;exact rQ
     rintro _ ⟨j,rfl,h3,h4⟩;refine tf hq (λ _ ZL=>o6 ih true l5 L hL M' j _ (Mp+1) _ rfl f5.2.2 h3 ZL) ?_ ?_
     ·
      rintro e z1 I he Tq TE rfl;exact BE
     intro c l6 j ZL h3 hq;refine ag cu ?_;have f6:=(fct f).e true _ f5.2.2 _ ZL;have bl6:=(f6.2.1.trans (tlS true _)).length_le;rcases bc hq with ⟨e,hy2,rfl⟩ | ⟨ks,l7,hy2,hq⟩
     ·
      refine ah (λ t=>e.1≠0/\∃ (ks:List ad) (I:Int),t=(ks,L,I,Mp+1,e.1,e.2,[])/\ks.length<=3/\0<=I/\I<=1000000000+(l.length:Int)) ?_ ?_
      ·
       refine av (λ hk=>?_) (λ hk=>?_)
       ·
        rw [if_pos (Ve.1 hk)] at hy2;rcases bc hy2 with ⟨e,hz,hee⟩ | ⟨u,l8,hz,hy3⟩
        ·cases hee
         refine ah (λ t=>e.1≠0/\∃ I:Int,t=(L,I,Mp+1,e.1,e.2,[])/\0<=I/\I<=1000000000) (ae Z ?_) ?_
         ·
          refine ah _ (iy hL M' _ h3 hz) ?_;rintro _ ⟨he,I,rfl,Tq,TE⟩;exact nq
         rintro _ ⟨he,I,rfl,Tq,TE⟩;refine ah _ (jf he I (Mp+1)) ?_;rintro ⟨y1,y2⟩ hy
         cases hy
         exact Ho
        ·
         have f8:=cW (b:=true) (s:=[61,62]) f6.2.2 _ hz;have bl8:=(f8.2.1.trans (tlS true _)).length_le;refine ah (λ t=>∃ j:Nat,t=(L,(j:Int),Mp+1,0,0,[])/\et L j (Mp+1) true l8/\L.drop j=l8) (ae Z ?_) ?_
         ·
          refine ah _ (iy hL M' _ h3 hz) ?_;exact rQ
         rintro _ ⟨j,rfl,h3,h4⟩;rcases bc hy3 with ⟨e,hz2,hee⟩ | ⟨d,l9,hz2,hee⟩
         ·cases hee
          refine ah _ FN ?_;rintro ⟨z1,z2⟩ ⟨he,I,h2,Tq,TE⟩
          cases h2
          exact Ho
         ·cases hee
       ·rw [if_neg (λ h=>hk (Ve.2 h))] at hy2; cases hy2
      rintro _ ⟨he,ks,I,rfl,hks,Tq,TE⟩;refine ah (λ t=>∃ ks:List ad,t=(ks,L,I,Mp+1,e.1,e.2,[])) (aj (false,L,I,Mp+1,e.1,e.2,[]) lx (af mv (aa ⟨_,rfl⟩))) ?_;rintro _ ⟨ks,rfl⟩;exact Hs
     ·
      have gl7:Gl l7/\l7.length<=l6.length:=by
       by_cases hk:k=13
       ·rw [if_pos hk] at hy2;rcases bc hy2 with ⟨e,hz,hee⟩ | ⟨u,l8,hz,hy3⟩
        ·cases hee
        rcases bc hy3 with ⟨e,hz2,hee⟩ | ⟨d,l9,hz2,hee⟩
        ·cases hee
        cases hee
        have f8:=cW (b:=true) (s:=[61,62]) f6.2.2 _ hz;have f9:=(fct f).e true _ f8.2.2 _ hz2;exact ⟨f9.2.2,(f9.2.1.trans ((tlS true _).trans (f8.2.1.trans (tlS true _)))).length_le⟩
       ·rw [if_neg hk] at hy2; cases hy2; exact ⟨f6.2.2,bx _⟩
      refine ah (λ t=>∃ j:Nat,t=(ks,L,(j:Int),Mp+1,0,0,[])/\ks.length<=3/\et L j (Mp+1) true l7) ?_ ?_
      ·
       refine av (λ hk=>?_) (λ hk=>?_)
       ·
        rw [if_pos (Ve.1 hk)] at hy2;rcases bc hy2 with ⟨e,hz,hee⟩ | ⟨u,l8,hz,hy3⟩
        ·cases hee
        ·
         have f8:=cW (b:=true) (s:=[61,62]) f6.2.2 _ hz;have bl8:=(f8.2.1.trans (tlS true _)).length_le;refine ah (λ t=>∃ j:Nat,t=(L,(j:Int),Mp+1,0,0,[])/\et L j (Mp+1) true l8/\L.drop j=l8) (ae Z ?_) ?_
         ·
          refine ah _ (iy hL M' _ h3 hz) ?_;exact rQ
         rintro _ ⟨j,rfl,h3,h4⟩;rcases bc hy3 with ⟨e,hz2,hee⟩ | ⟨d,l9,hz2,hee⟩
         ·cases hee
         ·
          refine bG FN λ j h3=>?_;refine ag cu ?_
          cases hee
          exact aa ⟨j,Z,by simp,h3⟩
       ·rw [if_neg (λ h=>hk (Ve.2 h))] at hy2; cases hy2;exact aa ⟨j,rfl,by simp,h3⟩
      rintro _ ⟨j,rfl,hks,h3⟩;have bl7:=gl7.2;rcases bc hq with ⟨e,hy4,rfl⟩ | ⟨ks2,l8,hy4,hq⟩
      ·
       refine ah (λ t=>e.1≠0/\∃ (ks:List ad) (I:Int),t=(ks,L,I,Mp+1,e.1,e.2,[])/\0<=I/\I<=1000000000+(l.length:Int)) ?_ ?_
       ·
        refine ah (λ t=>∃ j:Nat,t=(wdB true l7 [105,102],L,(j:Int),Mp+1,0,0,[])/\RAt L j (Mp+1) true l7) (ae Z ?_) ?_
        ·
         exact wR
        rintro _ ⟨j,rfl,ha⟩;have hj:=ha.1.1;by_cases hc:wdB true l7 [105,102]=true
        ·
         rw [if_pos hc] at hy4;have hn:=ha.next hL (wd6 hc);have bt7:=(tlS true l7).length_le;refine ae hc ?_;refine ag fR ?_;rcases bc hy4 with ⟨e,hz,hee⟩ | ⟨d,l9,hz,hee⟩
         ·cases hee
          refine ah _ GV ?_;rintro ⟨z1,z2⟩ ⟨he,I,h2,Tq,TE⟩
          cases h2
          refine ag cu ?_;exact Cz
         ·cases hee
        ·
         rw [if_neg hc] at hy4; cases hy4
       rintro _ ⟨he,ks,I,rfl,Tq,TE⟩;exact Hs
      ·
       refine ah (λ t=>∃ j:Nat,t=(ks2,L,(j:Int),Mp+1,0,0,[])/\et L j (Mp+1) true l8) ?_ ?_
       ·
        refine ah (λ t=>∃ j:Nat,t=(wdB true l7 [105,102],L,(j:Int),Mp+1,0,0,[])/\RAt L j (Mp+1) true l7) (ae Z ?_) ?_
        ·
         exact wR
        rintro _ ⟨j,rfl,ha⟩;have hj:=ha.1.1;by_cases hc:wdB true l7 [105,102]=true
        ·
         rw [if_pos hc] at hy4;have hn:=ha.next hL (wd6 hc);have bt7:=(tlS true l7).length_le;refine ae hc ?_;refine ag fR ?_;rcases bc hy4 with ⟨e,hz,hee⟩ | ⟨d,l9,hz,hee⟩
         ·cases hee
         ·
          refine bG GV λ j h3=>?_;refine ag cu ?_
          cases hee
          exact kw
        ·
         rw [if_neg hc] at hy4; cases hy4;exact af hc (aa ⟨j,rfl,ha.1⟩)
       rintro _ ⟨j,rfl,h3⟩;rcases bc hq with ⟨e,hx5,rfl⟩ | ⟨u,l9,hx5,hq⟩
       ·
        refine ah (λ t=>e.1≠0/\∃ I:Int,t=(L,I,Mp+1,e.1,e.2,[])/\0<=I/\I<=1000000000) (ae Z ?_) ?_
        ·
         refine ah _ (iy hL M' _ h3 hx5) ?_;rintro _ ⟨he,I,rfl,Tq,TE⟩;exact nq
        rintro _ ⟨he,I,rfl,Tq,TE⟩;refine ag mr ?_;exact aa ⟨he,I,by show ai.mk L I (Mp+1 - 1) (eD e)=_; rw [Int.add_sub_cancel],by omega,by omega⟩
       ·
        refine ah (λ t=>∃ j:Nat,t=(L,(j:Int),Mp+1,0,0,[])/\et L j (Mp+1) true l9/\L.drop j=l9) (ae Z ?_) ?_
        ·
         refine ah _ (iy hL M' _ h3 hx5) ?_;exact rQ
        exact GP
end Go.Ab.R06
end
section
namespace Go.Ab.R06
open Go.Ab Go.Ab.RB Go.Lib
section
variable {p:Prop}
theorem I6 (h:p:=by
 exact i2 (s.length - r'.length) _ y (by show (s.length:Int) - (r'.length:Int) - 1+1=_; omega) O (by rw [hsd]; exact h)):p:=h
theorem w9 (h:p:=by
 have:=D1 hl
 exact af O (aa (.inl Z))):p:=h
theorem Jl (h:p:=by
 exact ae (by decide) (aa (by unfold uj; rw [if_neg (by decide)]; rfl))):p:=h
theorem xf (h:p:=by
 cases y with
 | none =>
  rintro r (rfl | rfl)
  ·exact aa Z
  ·rfl
 | some r'=>rintro r rfl; rfl):p:=h
theorem Gs (h:p:=by
 exact i1 d (i+1) (ci+1) di y O O O (by rw [g3]; omega) O (by rw [g3]; exact h)):p:=h
theorem Io (h:p:=by
 have hlr:r.length=s.length - (i+1):=by rw [<- g3,ld]
 refine ae O (aa ?_);show Sum.inr ci=Sum.inr _
 congr 1; omega):p:=h
theorem J1 (h:p:=by
 exact i1 (d+1) (i+1) (ci+1) (di+1) y O O O (by rw [g3]; omega) O (by rw [g3]; exact h)):p:=h
theorem Hp (h:p:=by
 exact i1 (d - 1) (i+1) (ci+1) (di - 1) y O O O (by rw [g3]; omega) O (by rw [g3]; exact h)):p:=h
theorem BC (h:p:=by exact bv (by show _<=(s.length:Int) - (r'.length:Int) - 1+1; omega) (by show (s.length:Int) - (r'.length:Int) - 1+1<=_; omega)):p:=h
theorem HG (h:p:=by exact ag (bv (by (try simp only []); omega) (by (try simp only []); omega)) (aa Z)):p:=h
theorem Cn (h:p:=by exact bv (by show _<=ci+1; omega) (by show ci+1<=_; omega)):p:=h
theorem B8 (h:p:=by rw [List.length_take]; omega):p:=h
theorem uA (h:p:=by exact ax (nB _ _) hp):p:=h
end
theorem qI {s:Bytes}{i:Nat}{b:UInt8}{r:Bytes}(h:s.drop i=b::r):s.getD i 0=b/\i < s.length/\s.drop (i+1)=r:=by
 have hi:i < s.length:=by
  rcases Nat.lt_or_ge i s.length with q | q
  ·exact q
  ·rw [List.drop_eq_nil_of_le q] at h; cases h
 rw [List.drop_eq_getElem_cons hi] at h
 injection h with h1 h2
 refine ⟨?_,hi,h2⟩;rw [<- h1]; simp [hi]
theorem D1 {s:Bytes}{i:Nat}(h:s.drop i=[]):s.length<=i:=List.drop_eq_nil_iff.1 h
theorem oT (s:Bytes)(i k:Nat):s.drop (i+k)=(s.drop i).drop k:=by rw [List.drop_drop]
theorem Ey {s r:Bytes}(h:r <:+ s):s.drop (s.length - r.length)=r:=(List.suffix_iff_eq_drop.1 h).symm
theorem nB (l p:Bytes):strings_HasPrefix l p=some (hasPrefix l p):=rfl
def CO (s:Bytes)(y:Option Bytes)(r:Unit⊕Int):Prop:=match y with
 | none=>r=.inl ()\/r=.inr (-1)
 | some r'=>r=.inr ((s.length:Int) - (r'.length:Int) - 1)
def JH (s:Bytes):Option Bytes->Int
 | none=>-1
 | some r'=>(s.length:Int) - (r'.length:Int) - 1
theorem CS {s:Bytes}{i:Int}{y:Option Bytes}(h:Ev2 (λ n m=>dC (f0 n) s m i 1) (CO s y)):Ev2 (λ n _=>dA n s i) (·=JH s y):=by
 refine aP ?_;simp only [dA];refine cm (aQ (aO (f:=λ n m=>dC (f0 n) s m i 1) h) ?_);exact xf
theorem L5 {s:Bytes}{i:Int}{y:Option Bytes}(h:Ev2 (λ n m=>eg (dA n) s m i) (CO s y)):Ev2 (λ n _=>f0 n s i) (·=JH s y):=by
 refine aP ?_;simp only [f0];refine cm (aQ (aO (f:=λ n m=>eg (dA n) s m i) h) ?_);exact xf
theorem HN {s:Bytes}(hs:s.length<=1000000000):∀ (f:Nat),
  (∀ (d i:Nat) (ci di:Int) (y:Option Bytes),ci=i->di=d->1<=d->d+(s.drop i).length<=2000000000->i<=1000000010->fV f d (s.drop i)=some y->Ev2 (λ n m=>dC (f0 n) s m ci di) (CO s y)) /\
  (∀ (i:Nat) (ci:Int) (y:Option Bytes),ci=i->i<=1000000010->ix f (s.drop i)=some y->Ev2 (λ n m=>eg (dA n) s m ci) (CO s y))
 | 0=>⟨λ d i ci di y _ _ _ _ _ h=>(by rw [fV] at h; cases h),λ i ci y _ _ h=>(by rw [ix] at h; cases h)⟩
 | f+1=>by
  obtain ⟨i1,i2⟩:=HN hs f;constructor
  ·intro d i ci di y hci hdi h1 hd hi h;refine aw ?_;simp only [dC]
   cases hl:s.drop i with
   | nil =>
    rw [hl,fV] at h; cases h;exact w9
   | cons b r =>
    obtain ⟨g1,g2,g3⟩:=qI hl;have hb:byt s ci=(b.toNat:Int):=by rw [hci,cD,g1]
    rw [hl,fV] at h;rw [hl,aq] at hd;refine ae O (ag O ?_);rw [hb];refine cm ?_;by_cases h123:b.toNat=123
    ·rw [if_pos h123] at h;refine ae O (ag aB (aa (ag Cn ?_)));exact J1
    rw [if_neg h123] at h;refine af O ?_;by_cases h125:b.toNat=125
    ·rw [if_pos h125] at h;refine ae O (ag aB ?_);by_cases hd1:d=1
     ·rw [if_pos hd1] at h; cases h;exact Io
     ·rw [if_neg hd1] at h;refine af O (aa (ag Cn ?_));exact Hp
    rw [if_neg h125] at h;refine af O ?_;by_cases h34:b.toNat=34
    ·rw [if_pos h34] at h;refine ae O (ag aB ?_)
     cases hq:ix f r with
     | none=>rw [hq] at h; cases h
     | some z =>
      rw [hq] at h;refine aj _ (L5 (i2 (i+1) (ci+1) z O O  (by rw [g3]; exact hq))) ?_
      cases z with
      | none=>cases h; exact ae (show (-1:Int) < 0 by decide) (aa (.inr rfl))
      | some r' =>
       have hsf:=(iU f).2 _ _ hq;have Sk:=hsf.1.length_le;have hrl:r.length=s.length - (i+1):=by rw [<- g3,ld]
       have hrs:r' <:+ s:=by rw [<- g3] at hsf; exact hsf.1.trans (List.drop_suffix _ _)
       have hsd:=Ey hrs;refine af (by show ¬ (s.length:Int) - (r'.length:Int) - 1 < 0; omega) (aa (ag BC ?_));exact i1 d (s.length - r'.length) _ di y (by show (s.length:Int) - (r'.length:Int) - 1+1=_; omega) hdi h1 (by rw [hsd]; omega) O (by rw [hsd]; exact h)
    ·rw [if_neg h34] at h;refine af O (aa (ag Cn ?_));exact Gs
  ·intro i ci y hci hi h;refine aw ?_;simp only [eg]
   cases hl:s.drop i with
   | nil =>
    rw [hl,ix] at h; cases h;exact w9
   | cons b r =>
    obtain ⟨g1,g2,g3⟩:=qI hl;have hb:byt s ci=(b.toNat:Int):=by rw [hci,cD,g1]
    have hsub:sub s ci (s.length:Int)=b::r:=by rw [jU,hci,Int.toNat_natCast,hl]
    rw [hl,ix] at h;refine ae O ?_;rw [hb,hsub];refine cm (ag O ?_);by_cases h34:b.toNat=34
    ·rw [if_pos h34] at h; cases h;exact Io
    rw [if_neg h34] at h;refine af O (ag O ?_);by_cases h92:b.toNat=92
    ·rw [if_pos h92] at h;refine ae O (ag aB (aa (ag aB ?_)));exact i2 (i+1+1) (ci+1+1) y O O  (by rw [oT s (i+1) 1,g3]; exact h)
    rw [if_neg h92] at h;refine af O (ag O (aj _ (ax (nB _ _) rfl) ?_));by_cases hp3:hasPrefix (b::r) [36,36,123]=true
    ·rw [if_pos hp3] at h;refine ae hp3 (ag aB (aa (ag aB ?_)));exact i2 (i+3) (ci+2+1) y O O  (by rw [oT s i 3,hl]; exact h)
    rw [if_neg hp3] at h;refine af hp3 (ag O (aj _ (ax (nB _ _) rfl) ?_));by_cases hp2:hasPrefix (b::r) [36,123]=true
    ·rw [if_pos hp2] at h;refine ae hp2 (ag aB ?_)
     cases hq:fV f 1 ((b::r).drop 2) with
     | none=>rw [hq] at h; cases h
     | some z =>
      rw [hq] at h;have e2:s.drop (i+2)=(b::r).drop 2:=by rw [oT s i 2,hl]
      refine aj _ (CS (i1 1 (i+2) (ci+2) 1 z O rfl (by decide) iN O (by rw [e2]; exact hq))) ?_
      cases z with
      | none=>cases h; exact ae (show (-1:Int) < 0 by decide) (aa (.inr rfl))
      | some r' =>
       have hsf:=(iU f).1 _ _ _ hq;have Sk:=hsf.1.length_le;have hrl:((b::r).drop 2).length=s.length - (i+2):=by rw [<- e2,ld]
       have hrs:r' <:+ s:=by rw [<- e2] at hsf; exact hsf.1.trans (List.drop_suffix _ _)
       have hsd:=Ey hrs;refine af (by show ¬ (s.length:Int) - (r'.length:Int) - 1 < 0; omega) (aa (ag BC ?_));exact I6
    ·rw [if_neg hp2] at h;refine af hp2 (aa (ag aB ?_));exact i2 (i+1) (ci+1) y O O  (by rw [g3]; exact h)
theorem sO:∀ (k:Nat) (l:Bytes) (a:Nat) (x:Bytes),(bN k l a).2 < l.length->bN k (l.take ((bN k l a).2+1)++x) a=bN k l a
 | 0,l,a,x,_=>by rw [bN,bN]
 | k+1,[],a,x,h=>by simp at h
 | k+1,b::r,a,x,h=>by
  have e:bN (k+1) (b::r) a=match pj b with
   | some d=>((bN k r (16*a+d)).1,(bN k r (16*a+d)).2+1)
   | none=>(a,0):=by rw [bN]; cases pj b <;> rfl
  cases hd:pj b with
  | none =>
   rw [hd] at e;rw [e];show bN (k+1) (b::x) a=_;rw [bN,hd]
  | some d =>
   rw [hd] at e;simp only at e;rw [e] at h ⊢;have ih:=sO k r (16*a+d) x (by simp only [aq] at h; omega);show bN (k+1) (b::(r.take ((bN k r (16*a+d)).2+1)++x)) a=_;rw [bN,hd];simp only [ih]
theorem CN (b:UInt8):strings_IndexByte ([48,49,50,51,52,53,54,55,56,57,97,98,99,100,101,102]:Bytes) (b.toNat:Int)=some (indexByte E7 b)/\decide (0<=indexByte E7 b)=(pj b).isSome:=by
 constructor
 ·exact Ky
 ·rw [vM]
  cases pj b with
  | none=>rfl
  | some d=>simp
theorem LR (s:Bytes)(_hs:s.length<=1000000000):∀ (k i a:Nat),i+k=6->i<=s.length->Ev2 (λ _ m=>b8 s m (i:Int)) (·=((i+(bN k (s.drop i) a).2:Nat):Int)):=by
 intro k
 induction k with
 | zero =>
  intro i a hi hl;refine aw ?_;simp only [b8];refine aj false (av (λ _=>af O (aa rfl)) (λ _=>aa rfl)) (af mv (aa ?_));rw [bN]; rfl
 | succ k ih =>
  intro i a hi hl;refine aw ?_;simp only [b8]
  cases hd:s.drop i with
  | nil =>
   have:=D1 hd;refine aj false ov (af mv (aa ?_));rw [bN]; rfl
  | cons b r =>
   obtain ⟨g1,g2,g3⟩:=qI hd;have hb:byt s (i:Int)=(b.toNat:Int):=by rw [cD,g1]
   refine aj (pj b).isSome ?_ ?_
   ·refine ae O (ae O (ag O ?_));rw [hb];exact aj _ (ax (CN b).1 Z) (aa (CN b).2)
   ·rw [bN]
    cases hx:pj b with
    | none=>exact af mv (aa Z)
    | some d =>
     refine ae rfl (ag aB ?_);have:=qL (P:=λ j=>Ev2 (λ _ m=>b8 s m j) _) (ih (i+1) (16*a+d) O O);refine aQ this ?_;rintro _ rfl;rw [g3]; congr 1; simp only []; omega
theorem ML (s:Bytes)(hs:s.length<=1000000000):Ev2 (λ n _=>hQ n s) (·=((bN 6 s 0).2:Int)):=by
 simp only [hQ];refine aj _ (aO (f:=λ _ m=>b8 s m 0) (LR s hs 6 0 0 rfl (rg _))) (aa ?_);rw [List.drop_zero,Nat.zero_add]
theorem AN (b:UInt8)(r:Bytes)(h:b.toNat < 128):decodeL (b::r)=(b.toNat,1):=by
 have e:=vJ b h;have h2:=C4 (b.toNat:Int) (by unfold gj; omega) r;rw [e] at h2;simpa using h2
theorem ND (r:Bytes):(decodeL (92::r)).1=92:=by
 have:=AN (92:UInt8) r (by decide);rw [this]; rfl
theorem Ne (x:Bytes):((cV (x++[34])).2.2=0->(cV (x++[34])).2.1=(x.length:Int)->(IE (34::92::(x++[34]))).1=encodeRune (cV (x++[34])).1/\(IE (34::92::(x++[34]))).2.2=0)/\((cV (x++[34])).2.2≠0->(IE (34::92::(x++[34]))).2.2≠0):=by
 have h34:(34:UInt8).toNat=34:=rfl;rw [wx,if_pos h34,pP,if_neg (show ¬ (92:UInt8).toNat=34 by decide),if_pos (ND _)];constructor
 ·intro h0 h1;rw [if_pos h0,h1,Int.toNat_natCast,List.drop_left];have hn:(92::(x++[34])).length=(x.length+1)+1:=by simp
  rw [hn,pP,if_pos h34];have hr:=(ol (x++[34])).2.2.1 h0;have hle:=lF _ hr.1;simp only [List.nil_append];rw [if_neg O,if_neg O];exact ⟨rfl,rfl⟩
 ·intro h0;rw [if_neg h0];exact h0
theorem L2 {c:UInt8}(h:c.toNat≠117)(t t':Bytes):cV (c::t)=cV (c::t')/\((cV (c::t)).2.2=0->(cV (c::t)).2.1=1)/\((cV (c::t)).2.2≠0->(cV (c::t)).2.2=2):=by
 have e:∀ t:Bytes,cV (c::t)=if c.toNat=110 then (10,1,0) else if c.toNat=114 then (13,1,0) else if c.toNat=116 then (9,1,0) else if c.toNat=34\/c.toNat=92 then ((c.toNat:Int),1,0) else (0,0,2):=λ t=>by
  rw [pW];simp only [if_neg h]
 rw [e t,e t'];refine ⟨rfl,?_⟩;by_cases h1:c.toNat=110
 ·rw [if_pos h1]; simp
 rw [if_neg h1];by_cases h2:c.toNat=114
 ·rw [if_pos h2]; simp
 rw [if_neg h2];by_cases h3:c.toNat=116
 ·rw [if_pos h3]; simp
 rw [if_neg h3];by_cases h4:c.toNat=34\/c.toNat=92
 ·rw [if_pos h4]; simp
 rw [if_neg h4]; simp
theorem Dc (d:UInt8)(u:Bytes):cV (117::d::u)=if d.toNat=123 then ((fz u).1,(fz u).2.1+2,(fz u).2.2) else (0,0,2):=by
 rw [pW]; rfl
theorem EC (u:Bytes)(h:(bN 6 u 0).2 < u.length):fz (u.take ((bN 6 u 0).2+1)++[34])=fz u/\((fz u).2.2=0->(fz u).2.1=(((bN 6 u 0).2+1:Nat):Int))/\((fz u).2.2≠0->(fz u).2.2=2):=by
 have e:=sO 6 u 0 [34] h;unfold fz;rw [e];generalize bN 6 u 0=H at h ⊢;obtain ⟨v,c⟩:=H;simp only at h ⊢
 have l1:¬ c=(u.take (c+1)++[34]).length:=by
  rw [ph,List.length_take,List.length_singleton]; omega
 have g1:∀ k,k<=c->(u.take (c+1)++[34]).getD k 0=u.getD k 0:=by
  intro k hk;rw [List.getD_eq_getElem?_getD,List.getD_eq_getElem?_getD,List.getElem?_append_left B8,List.getElem?_take_of_lt O]
 rw [if_neg l1,if_neg (show ¬ c=u.length by omega),g1 c (bx _),g1 0 (rg _)];refine ⟨rfl,?_⟩;split
 ·simp
 ·simp
def uj (r:Bytes):Bytes×Int×Int:=if (cV r).2.2=0 then (encodeRune (cV r).1,(cV r).2.1+1,0) else ([],0,(cV r).2.2)
theorem DV {s x:Bytes}{k:Int}(_hs:s.length<=1000000000)(hxs:x.length<=100)(hk:k=((x.length+1:Nat):Int))(hx:s.take (x.length+1)=92::x){q:Bytes×Int×Int}(h0:(cV (x++[34])).2.2=0->(cV (x++[34])).2.1=(x.length:Int)/\q=(encodeRune (cV (x++[34])).1,k,0))(h1:(cV (x++[34])).2.2≠0->q=([],0,2)) :
  Ev2 (λ n _=>if (s.length:Int) < k then some (([]:Bytes),(0:Int),(40:Int)) else
   ck ((0:Int)<=0/\0<=k/\k<=(s.length:Int)) <|
   ck (([34]:Bytes).length+(sub s 0 k).length<=9223372036854775807) <|
   ck ((([34]:Bytes)++(sub s 0 k)).length+([34]:Bytes).length<=9223372036854775807) <|
   (hZ n ((([34]:Bytes)++(sub s 0 k))++([34]:Bytes))).bind λ Ud =>
   if Ud.2.2=0 then some (Ud.1,k,0) else some (([]:Bytes),0,2)) (·=q):=by
 have hl:(92::x).length=x.length+1:=rfl
 have hxl:x.length+1<=s.length:=by
  have:=congrArg List.length hx;rw [List.length_take,hl] at this; omega
 have hsub:sub s 0 k=92::x:=by
  subst hk;show (s.take _).drop 0=_;rw [List.drop_zero,Int.toNat_natCast,hx]
 rw [hsub];refine af O (ag O (ag ns (ag kt ?_)));have SS:((([34]:Bytes)++(92::x))++([34]:Bytes)).length<=1000000000:=by simp only [ph,aq,n8]; omega
 refine aj _ (Qc _ SS) ?_;have e:(([34]:Bytes)++(92::x))++([34]:Bytes)=34::92::(x++[34]):=rfl;rw [e];obtain ⟨u1,u2⟩:=Ne x;by_cases hz:(cV (x++[34])).2.2=0
 ·obtain ⟨z1,z2⟩:=h0 hz;obtain ⟨w1,w2⟩:=u1 hz z1;exact ae w2 (aa (by rw [w1,z2]))
 ·exact af (u2 hz) (aa (h1 hz).symm)
theorem Ns {r:Bytes}(hs:(92::r:Bytes).length<=1000000000):Ev2 (λ n _=>kZ n (92::r)) (·=uj r):=by
 simp only [kZ];have hl0:(92::r:Bytes).length=r.length+1:=rfl
 cases r with
 | nil =>
  refine ez 2 (aj false (ax (nB _ _) (by decide)) se) ?_;exact Jl
 | cons c t =>
  by_cases hc:c.toNat=117
  ·have hc':c=117:=(pc (by decide)).1 hc;subst hc';have hp:hasPrefix (92::117::t) [92,117]=true:=by simp [hasPrefix]
   cases t with
   | nil =>
    refine ez 4 (aj true uA (ae Z (aj false Bp (af mv Bp)))) ?_;exact Jl
   | cons d u =>
    have hl:(92::117::d::u:Bytes).length=u.length+3:=rfl;have hb:byt (92::117::d::u) 2=(d.toNat:Int):=rfl;have e:=Dc d u;by_cases hd:d.toNat=123
    ·rw [if_pos hd] at e;have hd':d=123:=(pc (by decide)).1 hd
     have h6:Ev2 (λ _ _=>(if (2:Int) < ((92::117::d::u:Bytes).length:Int) then ck ((0:Int)<=2/\(2:Int) < ((92::117::d::u:Bytes).length:Int)) <| some (!decide (byt (92::117::d::u) 2=123)) else some false:Option Bool)) (·=false):=by
      refine ae O (ag O (aa ?_));rw [hb,hd]; rfl
     cases u with
     | nil =>
      refine ez 4 (aj true uA (ae Z (aj false h6 (af mv og)))) ?_;refine ae G (aa ?_);have hx:(fz []).2.2=40:=by decide
      unfold uj;rw [e];show _=if (fz []).2.2=0 then _ else ([],0,(fz []).2.2);rw [hx]; rfl
     | cons v w =>
      have hlv:(v::w).length=w.length+1:=rfl;have hsub:sub (92::117::d::v::w) 3 ((92::117::d::v::w:Bytes).length:Int)=v::w:=by rw [jU]; rfl
      have hrun:=nH 6 (v::w) 0;refine ez (4+((bN 6 (v::w) 0).2:Int)) (aj true uA (ae Z (aj false h6 (af mv (ae O (ag O ?_)))))) ?_
      ·rw [hsub];exact aj _ (ML _ O) qB
      by_cases hc:(bN 6 (v::w) 0).2=(v::w).length
      ·refine ae O (aa ?_);have hx:(fz (v::w)).2.2=40:=by unfold fz; simp only [hc,if_true]
       unfold uj;rw [e];show _=if (fz (v::w)).2.2=0 then _ else ([],0,(fz (v::w)).2.2);rw [hx]; rfl
      ·obtain ⟨x1,x2,x3⟩:=EC (v::w) O;have hlt:((v::w).take ((bN 6 (v::w) 0).2+1)).length=(bN 6 (v::w) 0).2+1:=by rw [List.length_take]; omega
       have ex:cV ((117::d::(v::w).take ((bN 6 (v::w) 0).2+1))++[34])=cV (117::d::v::w):=by
        show cV (117::d::((v::w).take ((bN 6 (v::w) 0).2+1)++[34]))=_;rw [Dc,if_pos hd,x1,e]
       refine DV (x:=117::d::(v::w).take ((bN 6 (v::w) 0).2+1)) hs (by simp only [aq,hlt]; omega) (by simp only [aq,hlt]; omega) ?_ ?_ ?_
       ·simp only [aq,hlt]; rfl
       ·rw [ex];intro hz;have hz':(fz (v::w)).2.2=0:=by rw [e] at hz; exact hz
        refine ⟨?_,?_⟩
        ·rw [e]; show (fz (v::w)).2.1+2=_; rw [x2 hz']; simp only [aq,hlt]; omega
        ·unfold uj; rw [if_pos hz];refine Prod.ext Z (Prod.ext ?_ Z);rw [e]; show (fz (v::w)).2.1+2+1=4+((bN 6 (v::w) 0).2:Int); rw [x2 hz']; omega
       ·rw [ex];intro hz;have hz':(fz (v::w)).2.2≠0:=by rw [e] at hz; exact hz
        unfold uj; rw [if_neg hz];rw [e]; show ([],0,(fz (v::w)).2.2)=_; rw [x3 hz']
    ·rw [if_neg hd] at e;refine iC ([],0,2) (aj true uA (ae rfl (aj true (ae O (ag O (aa ?_))) u5))) ?_
     ·rw [hb]; simp; omega
     ·unfold uj; rw [e]; rfl
  ·have hp:hasPrefix (92::c::t) [92,117]=false:=by
    have:¬ c=117:=λ h=>hc (by rw [h]; rfl);unfold hasPrefix;simp only [List.isPrefixOf,beq_self_eq_true,Bool.true_and];rw [beq_eq_false_iff_ne.2 (λ h=>this h.symm)]; rfl
   obtain ⟨o1,o2,o3⟩:=L2 hc t [34];refine ez 2 (aj false uA se) ?_;refine DV (x:=[c]) hs G rfl rfl ?_ ?_
   ·intro hz;have hz:(cV (c::[34])).2.2=0:=hz;rw [<- o1] at hz;refine ⟨?_,?_⟩
    ·show (cV (c::[34])).2.1=_; rw [<- o1,o2 hz]; rfl
    ·unfold uj; rw [if_pos hz,o2 hz];show _=(encodeRune (cV (c::[34])).1,_,_);rw [<- o1]; rfl
   ·intro hz;have hz:(cV (c::[34])).2.2≠0:=hz;rw [<- o1] at hz;unfold uj; rw [if_neg hz,o3 hz]
theorem Kx (s:Bytes)(a i fr:Int)(text:Bytes)(parts:List ad)(Td:Bool)(h:inR (a+fr)):dG (.mk s a i fr text parts Td)=some (if 4096 < text.length then ao.mk 3 (a+fr) [] else dOk,.mk s a i fr text parts Td):=by
 unfold dG;by_cases hl:4096 < text.length
 ·rw [if_pos (by show (4096:Int) < (text.length:Int); omega),if_pos hl];exact bC h
 ·rw [if_neg (by show ¬ (4096:Int) < (text.length:Int); omega),if_neg hl]; rfl
def ItO (s:Bytes)(a i fr:Int)(text:Bytes)(parts:List ad)(Td:Bool)(q:Int⊕(Bytes×Nat))(r:ao×ar):Prop:=match q with
 | .inl k=>r.1=ao.mk k (a+i) []
 | .inr (t,n)=>if 4096 < text.length+t.length then r.1=ao.mk 3 (a+fr) [] else r=(dOk,.mk s a (i+n) fr (text++t) parts Td)
theorem Qd {s:Bytes}(hs:s.length<=1000000000){a fr:Int}{i:Nat}(ha:0<=a)(ha2:a<=1000000000)(hf:0<=fr)(hf2:fr<=1000000000)(text:Bytes)(ht:text.length<=4096)(parts:List ad)(Td:Bool){b:UInt8}{r:Bytes}(hl:s.drop i=b::r) :
  Ev2 (λ n _=>gh n (.mk s a (i:Int) fr text parts Td)) (ItO s a i fr text parts Td (iE (b::r))):=by
 obtain ⟨g1,g2,g3⟩:=qI hl;have hsub:sub s (i:Int) (s.length:Int)=b::r:=by rw [jU,Int.toNat_natCast,hl]
 have M':(b::r).length=s.length - i:=by rw [<- hl,ld]
 have hb0:byt (b::r) 0=(b.toNat:Int):=rfl;have hlc:(b::r).length=r.length+1:=rfl
 have fin:∀ (t:Bytes) (n:Nat),iE (b::r)=.inr (t,n)->n<=1000000000->t.length<=1000000000->Ev2 (λ _ _=>(dG (ar.mk s a ((i:Int)+(n:Int)) fr (text++t) parts Td)).bind λ TT=>some (TT.1,(ar.mk TT.2.fs TT.2.fat TT.2.fi TT.2.D' TT.2.F' TT.2.BY TT.2.IN))) (ItO s a i fr text parts Td (iE (b::r))):=by
  intro t n hi _ _;refine aj _ (ax (Kx s a _ fr _ parts Td aB) rfl) (aa ?_);rw [hi];unfold ItO;simp only [ph];by_cases hl:4096 < text.length+t.length
  ·rw [if_pos hl,if_pos hl]
  ·rw [if_neg hl,if_neg hl]
 simp only [gh];rw [hsub];refine ag O ?_;by_cases h92:b.toNat=92
 ·have hb':b=92:=(pc (by decide)).1 h92;have hle:=ol r;have hi:iE (b::r)=if (cV r).2.2=0 then .inr (encodeRune (cV r).1,(cV r).2.1.toNat+1) else .inl (cV r).2.2:=by rw [iE,if_pos h92]
  subst hb';by_cases hz:(cV r).2.2=0
  ·rw [if_pos hz] at hi;obtain ⟨e1,e2⟩:=hle.2.2.1 hz;have hel:=lF _ e1;refine ez ((i:Int)+(((cV r).2.1.toNat+1:Nat):Int),text++encodeRune (cV r).1) (ag O (ae (by rw [hb0]; rfl) (aj _ (Ns O) ?_))) (fin _ _ hi O O);unfold uj; rw [if_pos hz];refine ae rfl (ag Py (ag Ak (aa ?_)));simp only [];congr 2; omega
  ·rw [if_neg hz] at hi;refine iC (ao.mk (cV r).2.2 (a+(i:Int)) [],ar.mk s a (i:Int) fr text parts Td) (ag O (ae (by rw [hb0]; rfl) (aj _ (Ns O) ?_))) ?_
   ·unfold uj; rw [if_neg hz];exact af hz HG
   ·rw [hi]; rfl
 ·have hd:bm (b::r)=some (((decodeL (b::r)).1:Int),((decodeL (b::r)).2:Int)):=by
   exact Ce
  have hdf:=iA (b::r) G
  have hq:(decodeL (b::r)).1=34↔b.toNat=34:=by
   by_cases h128:b.toNat < 128
   ·rw [AN b r h128]
   ·have:=AZ b r O; omega
  have hi:iE (b::r)=if jx (decodeL (b::r))\/b.toNat=34 then .inl 2 else .inr ((b::r).take (decodeL (b::r)).2,(decodeL (b::r)).2):=by rw [iE,if_neg h92]
  have hsb:∀ w:Nat,sub (b::r) 0 (w:Int)=(b::r).take w:=λ w=>by show ((b::r).take _).drop 0=_; rw [List.drop_zero,Int.toNat_natCast]
  generalize decodeL (b::r)=D at hd hdf hq hi;obtain ⟨c,w⟩:=D;simp only at hd hdf hq
  have hbad:Ev2 (λ _ _=>(if (c:Int)=65533 then if (w:Int)=1 then some true else if (c:Int) < 32 then some true else if (c:Int)=127 then some true else some (decide ((c:Int)=34)) else if (c:Int) < 32 then some true else if (c:Int)=127 then some true else some (decide ((c:Int)=34)):Option Bool)) (·=decide (jx (c,w)\/b.toNat=34)):=by
   have mk:∀ x:Bool,(x=true↔(((c=65533/\w=1)\/c < 32\/c=127)\/c=34))->x=decide (jx (c,w)\/b.toNat=34):=by
    intro x hx;refine eqB ?_;rw [hx,decide_eq_true_eq,<- hq]
    rfl
   refine av (λ h1=>av (λ h2=>aa (mk _ ?_)) (λ h2=>av (λ h3=>aa (mk _ ?_)) (λ h3=>av (λ h4=>aa (mk _ ?_)) (λ h4=>aa (mk _ ?_))))) (λ h1=>av (λ h3=>aa (mk _ ?_)) (λ h3=>av (λ h4=>aa (mk _ ?_)) (λ h4=>aa (mk _ ?_))))
   all_goals (try rw [decide_eq_true_eq])
   all_goals (try simp only [true_iff])
   all_goals omega
  by_cases hx:jx (c,w)\/b.toNat=34
  ·rw [if_pos hx] at hi;refine iC (ao.mk 2 (a+(i:Int)) [],ar.mk s a (i:Int) fr text parts Td) (ag O (af (by rw [hb0]; omega) (aj _ (ax hd rfl) (aj _ hbad (ae (decide_eq_true hx) HG))))) ?_;rw [hi]; rfl
  ·rw [if_neg hx] at hi;have hw2:=hdf.2.1;refine ez ((i:Int)+(w:Int),text++(b::r).take w) (ag O (af (by rw [hb0]; omega) (aj _ (ax hd rfl) (aj _ hbad (af (by simpa using hx) ?_))))) (fin _ _ hi O B8);simp only [hsb];exact ag O (ag B8 qB)
end Go.Ab.R06
end
section
namespace Go.Ab.R06
open Go.Ab Go.Ab.RB Go.Lib
section
variable {p:Prop}
theorem JQ (h:p:=by
 rw [show (i:Int)+2=((i+2:Nat):Int) by omega,xa,List.drop_take,e2]
 congr 1; omega):p:=h
theorem JP (h:p:=by
 exact aj true (ax (nB _ _) hp3) (ae Z (ag (by simp only [aq,n8]; omega) (ag (bv O O) (aj _ (ax hlong Z) (aa Z)))))):p:=h
theorem Bn (h:p:=by
 exact aj _ (I8 hz) (aa Z)):p:=h
theorem FH (h:p:=by
 rintro _ ⟨j,rfl⟩
 exact aa ⟨(by decide:(2:Int)≠0),Z⟩):p:=h
theorem FD (h:p:=by
 by_cases h:chk e=0
 ·exact ae h (aa (by unfold qE; simp only [h,if_true]; rfl))
 ·exact af h (aa (by unfold qE; simp only [h,if_false]; rfl))):p:=h
theorem IB (h:p:=by exact bv (by show _<=a+(i:Int); omega) (by show a+(i:Int)<=_; omega)):p:=h
theorem sf (h:p:=by exact ax (nB _ _) (by simpa using hp3)):p:=h
theorem Af (h:p:=by exact ax (nB _ _) (by simpa using hp2)):p:=h
theorem AP (h:p:=by exact bv (by show _<=(i:Int)+2; omega) (by show (i:Int)+2<=_; omega)):p:=h
theorem HJ (h:p:=by exact aO (f:=λ n m=>bZ n (aM n) m s a 0 0 [] [] false) hread):p:=h
end
theorem Dh {src:Bytes->SE⊕Bytes}{l:Bytes}(hs:∀ r e n,r.length<=l.length->src r=.inl e->e.2=some n->n<=l.length){e:SE}{n:Nat}(h:jY src l=.inl e)(hn:e.2=some n):n<=l.length:=by
 cases l with
 | nil=>cases h; cases hn; exact rg _
 | cons b r =>
  rw [kB] at h;split at h
  ·split at h
   ·cases h; cases hn; exact bx _
   ·cases h
  split at h
  ·cases h
  split at h
  ·cases h
  split at h
  ·split at h
   ·rename_i e' he
    cases h
    exact hs r e n (Nat.le_succ _) he hn
   ·cases h
  split at h
  ·cases h; cases hn; exact bx _
  ·cases h
theorem J8:∀ (f k:Nat),(∀ l e n,fA f k l=.inl e->e.2=some n->n<=l.length)/\(∀ d l e n,jl f k d l=.inl e->e.2=some n->n<=l.length)
 | 0,k=>⟨λ l e n h hn=>(by rw [fA] at h; cases h; cases hn),λ d l e n h hn=>(by rw [jl] at h; cases h; cases hn)⟩
 | f+1,k=>by
  have ih:=J8 f;constructor
  ·intro l e n h hn
   cases l with
   | nil=>rw [fA] at h; cases h; cases hn
   | cons b r =>
    rw [nF] at h;split at h
    ·cases h
    split at h
    ·have:=(ih k).1 _ e n h hn;rw [ld] at this; omega
    split at h
    ·split at h
     ·cases h; cases hn; exact bx _
     ·split at h
      ·rename_i e' he
       cases h
       have:=(ih (k+1)).2 _ _ e n he hn;rw [ld] at this; omega
      ·rename_i l' he;have h1:=((gQ f (k+1)).2 _ _ _ he).2;have:=(ih k).1 _ e n h hn;rw [ld] at h1; omega
    ·have hX:(if b.toNat=92 then r else b::r).length<=(b::r).length:=by split <;> simp
     generalize (if b.toNat=92 then r else b::r)=X at h hX
     cases X with
     | nil=>cases h; cases hn
     | cons c t =>
      simp only at h;split at h
      ·cases h; cases hn; exact hX
      ·have:=(ih k).1 _ e n h hn;rw [ld] at this; omega
  ·intro d l e n h hn;rw [nT] at h;have hk:=uL false l
   cases hsk:fF false l with
   | nil=>rw [hsk,GE] at h; cases h; cases hn
   | cons b r =>
    rw [hsk] at hk;rw [hsk,nR] at h
    cases ht:jY (fA f k) (b::r) with
    | inl e' =>
     rw [ht,rb] at h; cases h;exact Nat.le_trans (Dh (λ x y m hx hxy hm=>Nat.le_trans ((ih k).1 x y m hxy hm) hx) ht hn) hk
    | inr z =>
     obtain ⟨c,t,l'⟩:=z;have h1:=(kO (λ x y _ hxy=>(gQ f k).1 x y hxy) ht).2;rw [ht,oY] at h;split at h
     ·split at h
      ·cases h
      ·have:=(ih k).2 _ _ e n h hn; omega
     split at h
     ·have:=(ih k).2 _ _ e n h hn; omega
     ·have:=(ih k).2 _ _ e n h hn; omega
theorem yC:∀ (f c:Nat) (l:Bytes) (e:SE) (n:Nat),kh f c l=.inl e->e.2=some n->n<=l.length
 | 0,c,l,e,n,h,hn=>by rw [kh] at h; cases h; cases hn
 | f+1,c,l,e,n,h,hn=>by
  rw [ml] at h;have hk:=uL true l
  cases hsk:fF true l with
  | nil =>
   rw [hsk,nX] at h;split at h
   ·cases h; cases hn; exact rg _
   ·cases h
  | cons b r =>
   rw [hsk] at hk;rw [hsk,mh] at h;split at h
   ·cases h; cases hn; exact hk
   split at h
   ·cases h; cases hn; exact hk
   cases ht:jY (fA f 0) (b::r) with
   | inl e' =>
    rw [ht] at h; cases h
    cases he:e'.2 with
    | none=>unfold MN at hn; rw [he] at hn; cases hn; exact hk
    | some m =>
     unfold MN at hn; rw [he] at hn; cases hn;exact Nat.le_trans (Dh (λ x y m hx hxy hm=>Nat.le_trans ((J8 f 0).1 x y m hxy hm) hx) ht he) hk
   | inr z =>
    obtain ⟨k,t,l'⟩:=z;have h1:=(kO (λ x y _ hxy=>(gQ f 0).1 x y hxy) ht).2;rw [ht,oa] at h
    cases hs:kh f (c+1) l' with
    | inl e' =>
     rw [hs] at h; cases h;have:=yC f (c+1) l' e n hs hn;omega
    | inr ts'=>rw [hs] at h; cases h
theorem DU (s:Bytes):0<=(eG s).2.fAt/\(eG s).2.fAt<=(s.length:Int):=by
 unfold eG;split
 ·exact ⟨Int.le_refl _,by show (0:Int)<=_; omega⟩
 ·cases hs:kh (s.length+1) 0 s with
  | inr ts=>exact ⟨Int.le_refl _,by show (0:Int)<=_; omega⟩
  | inl e =>
   show 0<=(rt s 0 e).fAt/\(rt s 0 e).fAt<=_;unfold rt
   cases he:e.2 with
   | none=>exact ⟨Int.le_refl _,by show (0:Int)<=_; omega⟩
   | some n =>
    have:=yC _ _ _ e n hs he;exact ⟨by show 0<=(s.length:Int) - (n:Int); omega,by show (s.length:Int) - (n:Int)<=_; omega⟩
theorem Sp {f:Nat}(ih:Fol f):∀ (s:Bytes) (a:Int) q,0<=a->a+(s.length:Int)<=1000000000->gv (f+1) s a=some q->Ev2 (λ n _=>iv n s a) (OV q):=by
 intro s a q h0 h1 hq;rw [gv] at hq;refine aP ?_;simp only [iv];refine aj _ (LZ s) ?_;by_cases hk:(eG s).2.Ar=0
 ·rw [if_neg (by simpa using hk)] at hq;refine ae hk ?_;have hg:=tp h0 h1 hk;have M':(eG s).1.length<=65537:=(qU h0 h1 hk).2.2;have hL:=hg.1;have hL1:(eG s).1.length<=1000000000:=by omega
  generalize hLL:(eG s).1=L at hq hL M' hL1
  have Tc:0 < L.length:=by
   have:=vQ hL;rcases Nat.eq_zero_or_pos L.length with q | q
   ·rw [List.length_eq_zero_iff.1 q] at this; exact absurd rfl this
   ·exact q
  have hpos:Pos L a 0 1 true (L.map (mvT a)):=⟨Tc,by decide,by omega,Z,Z⟩
  cases hx:gi f true (L.map (mvT a)) with
  | none=>rw [hx] at hq; cases hq
  | some y =>
   rw [hx] at hq;have hr:=ih.e true _ L a hL hL1 0 1 y hpos hx;rcases y with e | ⟨x,l⟩
   ·cases hq
    refine ah _ hr ?_;rintro ⟨z1,z2⟩ ⟨he,j,l',h2,h3⟩
    cases h2
    refine ah (λ t=>∃ j:Nat,t=(L,(j:Int),1,a,e.1,e.2,[])) (ah _ (gC hL hL1 h3) ?_) ?_
    ·rintro ⟨z1,z2⟩ ⟨h1,j,h2,h3,h4,h5⟩;replace h1:z1=_:=h1; subst h1; cases h2;exact av (λ _=>aa ⟨j,rfl⟩) (λ _=>aj _ (ax (xJ he _ _ _ _) rfl) (aa ⟨j,rfl⟩))
    ·rintro _ ⟨j,rfl⟩;exact aa ⟨he,rfl⟩
   ·refine ah _ hr ?_;rintro ⟨z1,z2⟩ ⟨hz,j,h2,h3⟩;replace hz:z1=_:=hz; subst hz; cases h2;have hq:(if (hd true l).Ar=6 then some (.inr z1) else some (.inl (2,(hd true l).fAt)))=some q:=hq;by_cases k6:(hd true l).Ar=6
    ·rw [if_pos k6] at hq; cases hq;refine ah (λ t=>∃ j:Nat,t=(L,(j:Int),1,a,0,0,[])) (ah _ (gC hL hL1 h3) ?_) ?_
     ·rintro ⟨y1,y2⟩ ⟨h1,j,h2,h3,h4,h5⟩;replace h1:y1=_:=h1; subst h1; cases h2;exact ae k6 (aa ⟨j,rfl⟩)
     ·rintro _ ⟨j,rfl⟩;exact aa rfl
    ·rw [if_neg k6] at hq; cases hq;refine ah (λ t=>∃ j:Nat,t=(L,(j:Int),1,a,2,(hd true l).fAt,[])) (ah _ (gC hL hL1 h3) ?_) ?_
     ·rintro ⟨y1,y2⟩ ⟨h1,j,h2,h3,h4,h5⟩;replace h1:y1=_:=h1; subst h1; cases h2;exact af k6 (aj _ x6 (aa ⟨j,rfl⟩))
     ·exact FH
 ·rw [if_pos hk] at hq; cases hq;have:=DU s;refine af hk (ag aB (aa ⟨hk,rfl⟩))
theorem Dd {s:Bytes}{a:Int}{i fr:Nat}(text:Bytes)(parts:List ad)(Td:Bool)(ha:0<=a)(h1:a+(s.length:Int)<=1000000000)(hi:i<=s.length)(hf:fr<=i)(hp:parts.length<=2*i) :
  eq (.mk s a (i:Int) (fr:Int) text parts Td)=some (.mk s a (i:Int) (fr:Int) [] (flS (a+(fr:Int)) (a+(i:Int)) text parts) Td):=by
 unfold eq flS;by_cases h:fr < i
 ·rw [if_pos (by show (fr:Int) < (i:Int); omega),if_pos O];show ((ck (inR (a+(fr:Int))) <| ck ((parts.length+1)*160<=140737488355328) <| some (parts++[xe text (a+(fr:Int))]):Option (List ad)).bind λ f6=>some (ar.mk s a (i:Int) (fr:Int) ([]:Bytes) f6 Td))=_;rw [bC aB,bC O]; rfl
 ·rw [if_neg (by show ¬ (fr:Int) < (i:Int); omega),if_neg O]; rfl
theorem I8 {e:ad}(hb:Sz e):Ev2 (λ n _=>iP n e dOk) (·=sC (qE (.inr e))):=by
 simp only [iP];refine ae rfl (aj _ (L3 hb) ?_);exact FD
theorem Pq {f:Nat}(ih:Fol f):∀ (s:Bytes) (a:Int) q,0<=a->a+(s.length:Int)<=1000000000->jC (f+1) s a=some q->Ev2 (λ n _=>ff n s a) (·=sC q):=by
 intro s a q h0 h1 hq;rw [jC] at hq;refine aP ?_;simp only [ff]
 cases hr:eH f a a [] [] false s with
 | none=>rw [hr] at hq; cases hq
 | some y =>
  rw [hr] at hq;have SS:=(fct f).r a a [] [] false s (2*s.length) h0 h1 (by decide) (λ y hy=>by cases hy) G y hr;have hread:=ih.r s a 0 0 [] [] false y h0 h1 (rg _) (bx _) (by decide) (by decide) (by simpa using hr);rcases y with e | ⟨frm,pos,text,parts,Td⟩
  ·cases hq
   refine ah (λ r=>e.1≠0/\r.1=eD e) (aP ?_) ?_
   ·simp only [gm];refine cm (aQ HJ ?_);rintro r ⟨he,t,rfl⟩;exact ⟨he,rfl⟩
   ·rintro ⟨r1,r2⟩ ⟨he,hz⟩
    cases hz
    exact af he (aa Z)
  ·have hq:some (qE (.inr (qT a (frm,pos,text,parts,Td))))=some q:=hq
   cases hq
   refine ah (λ r=>∃ (i fr:Nat),frm=a+(fr:Int)/\pos=a+(i:Int)/\fr<=i/\i<=s.length/\parts.length<=2*i/\r=(dOk,.mk s a (i:Int) (fr:Int) text parts Td)) (aP ?_) ?_
   ·simp only [gm];refine cm (aQ HJ ?_);rintro r ⟨i,fr,g1,g2,g3,g4,g5,rfl⟩;exact aa ⟨i,fr,g1,g2,g3,g4,g5,rfl⟩
   ·rintro _ ⟨i,fr,rfl,rfl,g3,g4,g5,rfl⟩;have hz:Sz (qT a (a+(fr:Int),a+(i:Int),text,parts,Td)):=uG O SS;refine ae rfl (aj _ oe ?_)
    cases Td with
    | true =>
     refine aj (2,0,[],[],0,0,[],[],[],flS (a+(fr:Int)) (a+(i:Int)) text parts,a) (ae Z (aj _ (ax (Dd text parts true h0 h1 g4 g3 g5) Z) (aa Z))) ?_;exact Bn
    | false =>
     refine aj (1,0,[],[],3,0,text,[],[],[],a) se ?_;exact Bn
theorem Rt {f:Nat}(ih:Fol f):∀ (s:Bytes) (a:Int) (i fr:Nat) (text:Bytes) (parts:List ad) (Td:Bool) q,0<=a->a+(s.length:Int)<=1000000000->i<=s.length->fr<=i->text.length<=4096->parts.length<=2*i->eH (f+1) (a+(fr:Int)) (a+(i:Int)) text parts Td (s.drop i)=some q ->
  Ev2 (λ n m=>bZ n (aM n) m s a (i:Int) (fr:Int) text parts Td) (RdO s a q):=by
 intro s a i fr text parts Td q h0 h1 hi hf ht hp hq;refine aw ?_;simp only [bZ]
 cases hl:s.drop i with
 | nil =>
  rw [hl,eH] at hq; cases hq;have:=D1 hl;exact af O (aa ⟨i,fr,rfl,rfl,hf,hi,hp,rfl⟩)
 | cons b r =>
  obtain ⟨g1,g2,g3⟩:=qI hl;have hsub:sub s (i:Int) (s.length:Int)=b::r:=by rw [jU,Int.toNat_natCast,hl]
  have M':(b::r).length=s.length - i:=by rw [<- hl,ld]
  rw [hl,eH] at hq;refine ae O (ag O ?_);rw [hsub];by_cases hp3:hasPrefix (b::r) [36,36,123]=true
  ·rw [if_pos hp3] at hq;have hpl:=lM hp3;simp only [aq,n8] at hpl M';have hlong:=Kx s a ((i:Int)+3) (fr:Int) (text++[36,123]) parts Td aB;have htl:(text++[36,123]).length=text.length+2:=by simp
   rw [htl] at hlong;by_cases hlg:4096 < text.length+2
   ·rw [if_pos hlg] at hq hlong; cases hq;refine aj (3,a+(fr:Int),[],s,a,(i:Int)+3,(fr:Int),text++[36,123],parts,Td) ?_ (af (show ¬ (3:Int)=0 by decide) (aa ⟨(by decide:(3:Int)≠0),_,rfl⟩));exact JP
   ·rw [if_neg hlg] at hq hlong;refine aj (0,0,[],s,a,(i:Int)+3,(fr:Int),text++[36,123],parts,Td) ?_ (ae rfl ?_)
    ·exact JP
    ·have e3:s.drop (i+3)=(b::r).drop 3:=by rw [oT s i 3,hl]
     have:=ih.r s a (i+3) fr (text++[36,123]) parts Td q h0 h1 O O O O  (by
      rw [e3,show a+((i+3:Nat):Int)=a+(i:Int)+3 by omega]; exact hq)
     rw [show ((i+3:Nat):Int)=(i:Int)+3 by omega] at this;exact this
  rw [if_neg hp3] at hq;by_cases hp2:hasPrefix (b::r) [36,123]=true
  ·rw [if_pos hp2] at hq;have hpl:=lM hp2;simp only [aq,n8] at hpl M';have e2:s.drop (i+2)=(b::r).drop 2:=by rw [oT s i 2,hl]
   have hfl:=Dd text parts Td h0 h1 hi hf hp;have hflen:(flS (a+(fr:Int)) (a+(i:Int)) text parts).length<=parts.length+1:=by unfold flS; split <;> simp
   cases hc:fV f 1 ((b::r).drop 2) with
   | none=>rw [hc] at hq; cases hq
   | some y =>
    rw [hc] at hq;have hcl:=CS ((HN (s:=s) O f).1 1 (i+2) ((i:Int)+2) 1 y O rfl (by decide) iN O (by rw [e2]; exact hc));have pre:∀ {P:ao×ar->Prop},Ev2 (λ n _=>(aM (n+1) (ar.mk s a (i:Int) (fr:Int) text parts Td))) P->Ev2 (λ n _=>(aM n (ar.mk s a (i:Int) (fr:Int) text parts Td))) P:=λ h=>aP h
    cases y with
    | none =>
     cases hq
     refine aj (40,a+(i:Int),[],s,a,(i:Int),(fr:Int),[],flS (a+(fr:Int)) (a+(i:Int)) text parts,true) ?_ (af (show ¬ (40:Int)=0 by decide) (aa ⟨(by decide:(40:Int)≠0),_,Z⟩));refine aj false sf (af mv (aj true (ax (nB _ _) hp2) (ae Z ?_)));refine aj (ao.mk 40 (a+(i:Int)) [],ar.mk s a (i:Int) (fr:Int) [] (flS (a+(fr:Int)) (a+(i:Int)) text parts) true) (pre ?_) (aa Z);simp only [aM];exact aj _ (ax hfl Z) (ag AP (aj _ hcl (ae (by show (-1:Int) < 0; decide) (ag IB (aa Z)))))
    | some r' =>
     simp only at hq;have hsf:=(iU f).1 _ _ _ hc;have Sk:=hsf.2;have hd2:((b::r).drop 2).length=s.length - (i+2):=by rw [<- e2,ld]
     have hrs:r' <:+ s:=by rw [<- e2] at hsf; exact hsf.1.trans (List.drop_suffix _ _)
     have hsd:=Ey hrs;have hcp:JH s (some r')=((s.length - r'.length - 1:Nat):Int):=by show (s.length:Int) - (r'.length:Int) - 1=_; omega
     rw [hcp] at hcl
     have hsub2:sub s ((i:Int)+2) ((s.length - r'.length - 1:Nat):Int)=((b::r).drop 2).take (((b::r).drop 2).length - r'.length - 1):=by
      exact JQ
     generalize hX:((b::r).drop 2).take (((b::r).drop 2).length - r'.length - 1)=X at hq hsub2;have hXl:X.length<=((b::r).drop 2).length:=by rw [<- hX,List.length_take]; omega
     cases hw:gv f X (a+(i:Int)+2) with
     | none=>rw [hw] at hq; cases hq
     | some z =>
      rw [hw] at hq;have hwh:=ih.w X (a+(i:Int)+2) z O O  hw
      have lead:∀ {P:ao×ar->Prop},Ev2 (λ n _=>(iv n X (a+(i:Int)+2)).bind λ Tv=>if Tv.2.Ar=0 then ck (((flS (a+(fr:Int)) (a+(i:Int)) text parts).length+1)*160<=140737488355328) <| ck (inR (((s.length - r'.length - 1:Nat):Int)+1)) <| some (ao.mk 0 0 ([]:Bytes),ar.mk s a (((s.length - r'.length - 1:Nat):Int)+1) (((s.length - r'.length - 1:Nat):Int)+1) [] (flS (a+(fr:Int)) (a+(i:Int)) text parts++[Tv.1]) true) else some (Tv.2,ar.mk s a (i:Int) (fr:Int) [] (flS (a+(fr:Int)) (a+(i:Int)) text parts) true)) P ->
        Ev2 (λ n _=>(aM n (ar.mk s a (i:Int) (fr:Int) text parts Td))) P:=by
       intro P hP;refine pre ?_;simp only [aM];refine aj _ (ax hfl rfl) (ag AP (aj _ hcl (af O (ag AP (ag ⟨by show (0:Int)<=(i:Int)+2; omega,by show (i:Int)+2<=_; omega,by show _<=(s.length:Int); omega⟩ (ag IB (ag (bv (by show _<=a+(i:Int)+2; omega) (by show a+(i:Int)+2<=_; omega)) ?_)))))));simp only [hsub2];exact hP
      rcases z with e | e
      ·cases hq
       have he:=(fct f).w X (a+(i:Int)+2) O O  _ hw;refine aj (e.1,e.2,[],s,a,(i:Int),(fr:Int),[],flS (a+(fr:Int)) (a+(i:Int)) text parts,true) ?_ (af he (aa ⟨he,_,rfl⟩));refine aj false sf (af mv (aj true (ax (nB _ _) hp2) (ae rfl ?_)));refine aj (eD e,ar.mk s a (i:Int) (fr:Int) [] (flS (a+(fr:Int)) (a+(i:Int)) text parts) true) (lead (ah _ hwh ?_)) (aa rfl);rintro ⟨w1,w2⟩ ⟨_,hz⟩
       cases hz
       exact af he (aa Z)
      ·have hq:eH f (a+(i:Int)+(((b::r).length - r'.length:Nat):Int)) (a+(i:Int)+(((b::r).length - r'.length:Nat):Int)) [] (flS (a+(fr:Int)) (a+(i:Int)) text parts++[e]) true r'=some q:=hq
       have hpos:a+(i:Int)+(((b::r).length - r'.length:Nat):Int)=a+((s.length - r'.length:Nat):Int):=by
        have:=hsf.1.length_le;simp only [aq] at hd2 ⊢; omega
       rw [hpos] at hq;have hi2:((s.length - r'.length - 1:Nat):Int)+1=((s.length - r'.length:Nat):Int):=by omega
       refine aj (0,0,[],s,a,((s.length - r'.length:Nat):Int),((s.length - r'.length:Nat):Int),[],flS (a+(fr:Int)) (a+(i:Int)) text parts++[e],true) ?_ (ae Z ?_)
       ·refine aj false sf (af mv (aj true (ax (nB _ _) hp2) (ae rfl ?_)));refine aj (dOk,ar.mk s a ((s.length - r'.length:Nat):Int) ((s.length - r'.length:Nat):Int) [] (flS (a+(fr:Int)) (a+(i:Int)) text parts++[e]) true) (lead (ah _ hwh ?_)) (aa rfl);rintro _ rfl;refine ae rfl (ag O (ag aB (aa ?_)));rw [hi2]; rfl
       ·exact ih.r s a (s.length - r'.length) (s.length - r'.length) [] _ true q h0 h1 O (bx _) (by decide) wK (by rw [hsd]; exact hq)
  rw [if_neg hp2] at hq;have hit:=Qd (s:=s) O (a:=a) (fr:=(fr:Int)) (i:=i) h0 O O O text ht parts Td hl
  cases hi':iE (b::r) with
  | inl k =>
   rw [hi'] at hq hit; cases hq;have hk:=Dg hi';refine ah (λ t=>t.1=k/\t.2.1=a+(i:Int)/\t.2.2.1=[]) ?_ ?_
   ·refine aj false sf (af mv (aj false Af (af mv ?_)));refine ah _ hit ?_;rintro ⟨z1,z2⟩ hz;have hz:z1=ao.mk k (a+(i:Int)) []:=hz;subst hz;exact aa ⟨rfl,rfl,rfl⟩
   ·rintro ⟨t1,t2,t3,t4⟩ ⟨k1,k2,k3⟩;simp only at k1 k2 k3;subst k1 k2 k3;exact af hk (aa ⟨hk,_,rfl⟩)
  | inr tn =>
   obtain ⟨t,n⟩:=tn;rw [hi'] at hq hit;have hq:(if 4096 < text.length+t.length then some (.inl (3,a+(fr:Int))) else eH f (a+(fr:Int)) (a+(i:Int)+(n:Int)) (text++t) parts Td ((b::r).drop n))=some q:=hq;have hn:=rj hi';by_cases hlg:4096 < text.length+t.length
   ·rw [if_pos hlg] at hq; cases hq;refine ah (λ t=>t.1=3/\t.2.1=a+(fr:Int)/\t.2.2.1=[]) ?_ ?_
    ·refine aj false sf (af mv (aj false Af (af mv ?_)));refine ah _ hit ?_;rintro ⟨z1,z2⟩ hz;unfold ItO at hz;simp only [if_pos hlg] at hz;subst hz;exact aa ⟨rfl,rfl,rfl⟩
    ·rintro ⟨t1,t2,t3,t4⟩ ⟨k1,k2,k3⟩;simp only at k1 k2 k3;subst k1 k2 k3;exact af (show ¬ (3:Int)=0 by decide) (aa ⟨(by decide:(3:Int)≠0),_,rfl⟩)
   ·rw [if_neg hlg] at hq;refine aj (0,0,[],s,a,(i:Int)+(n:Int),(fr:Int),text++t,parts,Td) ?_ (ae rfl ?_)
    ·refine aj false sf (af mv (aj false Af (af mv ?_)));refine ah _ hit ?_;rintro ⟨z1,z2⟩ hz;unfold ItO at hz;simp only [if_neg hlg] at hz
     cases hz
     exact aa Z
    ·have e3:s.drop (i+n)=(b::r).drop n:=by rw [oT s i n,hl]
     have:=ih.r s a (i+n) fr (text++t) parts Td q h0 h1 O O  vg O (by
      rw [e3,show a+((i+n:Nat):Int)=a+(i:Int)+(n:Int) by omega]; exact hq)
     rw [show ((i+n:Nat):Int)=(i:Int)+(n:Int) by omega] at this;exact this
theorem fol:∀ f,Fol f:=by
 intro f
 induction f with
 | zero =>
  constructor
  ·intro b l L base hL M' i Mp q h hq; rw [gi] at hq; cases hq
  ·intro SR li b l _ _ L base hL M' i Mp q h hq; rw [nU] at hq; cases hq
  ·intro SR li b l x r5 _ _ _ L base hL M' i Mp q h hq; rw [oW] at hq; cases hq
  ·intro b l L base hL M' i Mp q h hq; rw [unS] at hq; cases hq
  ·intro b l x r1 _ L base hL M' i Mp q h hq; rw [j4] at hq; cases hq
  ·intro b l L base hL M' i Mp q h hq; rw [lE] at hq; cases hq
  ·intro b l _ L base hL M' i Mp q h hq; rw [qn] at hq; cases hq
  ·intro b l _ L base hL M' i Mp q h hq; rw [mT] at hq; cases hq
  ·intro en l out _ _ L base hL M' i Mp q h hq; rw [ip] at hq; cases hq
  ·intro l out _ _ L base hL M' i Mp q h hq; rw [oX] at hq; cases hq
  ·intro l L base hL M' i Mp q h hq; rw [na] at hq; cases hq
  ·intro a k l _ _ L base hL M' i Mp b q _ _ h hq; rw [lC] at hq; cases hq
  ·intro s a q _ _ hq; rw [jC] at hq; cases hq
  ·intro s a i fr text parts Td q _ _ _ _ _ _ hq; rw [eH] at hq; cases hq
  ·intro s a q _ _ hq; rw [gv] at hq; cases hq
 | succ f ih=>exact ⟨RV ih,RU ih,P2 ih,Sm ih,PI ih,SD ih,R9 ih,R8 ih,Ss ih,Sb ih,So ih,O6 ih,Pq ih,Rt ih,Sp ih⟩
end Go.Ab.R06
end
