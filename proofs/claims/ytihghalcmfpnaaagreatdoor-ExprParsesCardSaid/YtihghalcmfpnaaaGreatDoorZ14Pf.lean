/- Texts of the proof, one behind the other. No statement is proved here. -/
import Derived.Test.YtihghalcmfpnaaaGreatDoorZ14Pa
import Derived.Test.YtihghalcmfpnaaaGreatDoorZ14Pb
import Derived.Test.YtihghalcmfpnaaaGreatDoorZ14Pc
import Derived.Test.YtihghalcmfpnaaaGreatDoorZ14Pd
import Derived.Test.YtihghalcmfpnaaaGreatDoorZ14Pe
set_option maxHeartbeats 4000000
section
namespace Go.Ab.R06
open Go.Ab Go.Ab.RB Go.Lib
section
variable {p:Prop}
theorem HU (h:p:=by
 rw [if_neg O]
 symm; rw [bt,decide_eq_false_iff_not]
 intro q; exact q2 q.2.1):p:=h
theorem Jh (h:p:=by
 rw [List.getD_eq_getElem?_getD,List.getElem?_drop,List.getD_eq_getElem?_getD]):p:=h
theorem wD (h:p:=by
 rw [if_neg O,if_neg q]):p:=h
theorem H6 (h:p:=by
 rw [if_neg O]
 symm; rw [bt,decide_eq_false_iff_not]
 intro q; exact q1 q.1):p:=h
theorem Ap (h:p:=by
 rw [hP,if_pos O,uS,two]; rfl):p:=h
theorem H8 (h:p:=by
 refine aQ tail λ r hr=>?_
 rw [hr]; simp only [q1,q0,q2,false_or]):p:=h
theorem wJ (h:p:=by
 rw [if_pos O,if_pos q]):p:=h
theorem Jr (h:p:=by
 rw [if_neg (by simp only [decide_eq_true_eq]; exact q3)]
 symm; rw [bt,decide_eq_false_iff_not]
 intro q; exact q3 q.2.2.1):p:=h
end
theorem t31:(List.range 256).all (λ n=>bH .u8 (n:Int) 31 == ((n % 32:Nat):Int))=true:=by kernel_rfl
theorem t15:(List.range 256).all (λ n=>bH .u8 (n:Int) 15 == ((n % 16:Nat):Int))=true:=by kernel_rfl
theorem t7:(List.range 256).all (λ n=>bH .u8 (n:Int) 7 == ((n % 8:Nat):Int))=true:=by kernel_rfl
theorem or64 (a b:Nat)(ha:a < 4611686018427387904)(hb:b < 4611686018427387904):iOr .i64 (a:Int) (b:Int)=((a ||| b:Nat):Int):=by
 have hlt:a ||| b < 4611686018427387904:=Nat.or_lt_two_pow (n:=62) ha hb
 have e1:(BitVec.ofInt 64 (a:Int)).toNat=a:=by
  rw [BitVec.toNat_ofInt]; omega
 have e2:(BitVec.ofInt 64 (b:Int)).toNat=b:=by
  rw [BitVec.toNat_ofInt]; omega
 show IntKind.wrap .i64 (((BitVec.ofInt 64 (a:Int)) ||| (BitVec.ofInt 64 (b:Int))).toNat:Nat)=_;rw [BitVec.toNat_or,e1,e2];exact rT
theorem ws (a b k:Nat)(ha:a*2 ^ k < 4611686018427387904)(hb:b < 2 ^ k)(hk:k<=20):iOr .i64 ((a*2 ^ k:Nat):Int) (b:Int)=((a*2 ^ k+b:Nat):Int):=by
 have hp:2 ^ k<=2 ^ 20:=Nat.pow_le_pow_right (by decide) hk;have h20:(2:Nat) ^ 20=1048576:=rfl;rw [or64 _ _ ha O];have:=Nat.shiftLeft_add_eq_or_of_lt hb a;rw [Nat.shiftLeft_eq] at this;rw [<- this]
theorem vI (a k:Nat)(hk:k<=20)(ha:a*2 ^ k < 4611686018427387904):kj .i64 (a:Int) (k:Int)=((a*2 ^ k:Nat):Int):=by
 have:min (k:Int).toNat IntKind.i64.bits=k:=by
  have:IntKind.i64.bits=64:=rfl;rw [this]; omega
 unfold kj;rw [this];have e:(a:Int)*2 ^ k=((a*2 ^ k:Nat):Int):=by push_cast; rfl
 rw [e];generalize a*2 ^ k=v at ha;exact rT
def My (l:Bytes):Int×Int:=if (decodeL l).1=65533/\(decodeL l).2=1 then (0,0) else (((decodeL l).1:Int),((decodeL l).2:Int))
theorem LU (s:Bytes)(j:Nat)(lo hi:Int):ea s (j:Int) lo hi=some (decide (j < s.length/\lo<=((s.getD j 0).toNat:Int)/\((s.getD j 0).toNat:Int)<=hi)):=by
 unfold ea;have hb:byt s (j:Int)=((s.getD j 0).toNat:Int):=cD s j;rw [hb];by_cases h:j < s.length
 ·rw [if_pos O,bC O];by_cases h2:lo<=((s.getD j 0).toNat:Int)
  ·rw [if_pos h2,bC O];refine congrArg some (eqB ?_);rw [decide_eq_true_eq,decide_eq_true_eq];exact ⟨λ q=>⟨h,h2,q⟩,λ q=>q.2.2⟩
  ·rw [if_neg h2,cl]
   symm; rw [bt,decide_eq_false_iff_not]
   exact λ q=>h2 q.2.1
 ·rw [if_neg O]; simp [h]
set_option maxHeartbeats 8000000 in
theorem vd (s:Bytes)(i:Nat)(hi:i < s.length)(hs:s.length<=1000000000):iX s (i:Int)=some (My (s.drop i)):=by
 have hg:∀ k,(s.drop i).getD k 0=s.getD (i+k) 0:=λ k=>by
  exact Jh
 unfold iX My;rw [decodeL_N,hg,hg,hg,hg,Nat.add_zero,ld]
 have b:∀ k:Nat,byt s ((i:Int)+k)=((s.getD (i+k) 0).toNat:Int):=λ k=>by
  rw [show (i:Int)+(k:Int)=((i+k:Nat):Int) by omega]; exact cD s (i+k)
 have c:∀ (k:Nat) lo hi,ea s ((i:Int)+k) lo hi=some (decide (k < s.length - i/\lo<=((s.getD (i+k) 0).toNat:Int)/\((s.getD (i+k) 0).toNat:Int)<=hi)):=λ k lo hi=>by
  rw [show (i:Int)+(k:Int)=((i+k:Nat):Int) by omega,LU];refine congrArg some (eqB ?_);rw [decide_eq_true_eq,decide_eq_true_eq];constructor
  ·rintro ⟨h1,h2⟩; exact ⟨by omega,h2⟩
  ·rintro ⟨h1,h2⟩; exact ⟨by omega,h2⟩
 have b0:byt s (i:Int)=((s.getD i 0).toNat:Int):=cD s i;have b1:byt s ((i:Int)+1)=((s.getD (i+1) 0).toNat:Int):=b 1;have b2:byt s ((i:Int)+2)=((s.getD (i+2) 0).toNat:Int):=b 2;have b3:byt s ((i:Int)+3)=((s.getD (i+3) 0).toNat:Int):=b 3;have c1:∀ lo hi,ea s ((i:Int)+1) lo hi=_:=c 1;have c2:∀ lo hi,ea s ((i:Int)+2) lo hi=_:=c 2;have c3:∀ lo hi,ea s ((i:Int)+3) lo hi=_:=c 3;simp only [b0,b1,b2,b3,c1,c2,c3];obtain ⟨n,hn⟩:∃ n,s.length=i+n:=⟨s.length - i,by omega⟩
 have hn1:s.length - i=n:=by omega
 have M':(s.length:Int)=(i:Int)+n:=by omega
 rw [hn1,M'];have l0:=(s.getD i 0).toNat_lt;have l1:=(s.getD (i+1) 0).toNat_lt;have l2:=(s.getD (i+2) 0).toNat_lt;have l3:=(s.getD (i+3) 0).toNat_lt;generalize (s.getD i 0).toNat=B0 at l0 ⊢;generalize (s.getD (i+1) 0).toNat=B1 at l1 ⊢;generalize (s.getD (i+2) 0).toNat=B2 at l2 ⊢;generalize (s.getD (i+3) 0).toNat=B3 at l3 ⊢;have hnp:0 < n:=by omega
 have Wi:n<=1000000000:=by omega
 have hib:i<=1000000000:=by omega
 clear hg b c b0 b1 b2 b3 c1 c2 c3 hn1 M' hn hi hs
 have a31:bH .u8 (B0:Int) 31=((B0 % 32:Nat):Int):=tab t31 B0 O;have a15:bH .u8 (B0:Int) 15=((B0 % 16:Nat):Int):=tab t15 B0 O;have a7:bH .u8 (B0:Int) 7=((B0 % 8:Nat):Int):=tab t7 B0 O;have a1:bH .u8 (B1:Int) 63=((B1 % 64:Nat):Int):=tab t63 B1 O;have a2:bH .u8 (B2:Int) 63=((B2 % 64:Nat):Int):=tab t63 B2 O;have a3:bH .u8 (B3:Int) 63=((B3 % 64:Nat):Int):=tab t63 B3 O
 have two:iOr .i64 (kj .i64 ((B0 % 32:Nat):Int) 6) ((B1 % 64:Nat):Int)=((B0 % 32*64+B1 % 64:Nat):Int):=by
  have h1:kj .i64 ((B0 % 32:Nat):Int) 6=((B0 % 32*2 ^ 6:Nat):Int):=vI _ 6 (by decide) O;rw [h1];exact ws _ _ 6 O O  (by decide)
 have three:iOr .i64 (iOr .i64 (kj .i64 ((B0 % 16:Nat):Int) 12) (kj .i64 ((B1 % 64:Nat):Int) 6)) ((B2 % 64:Nat):Int)=((B0 % 16*4096+B1 % 64*64+B2 % 64:Nat):Int):=by
  have h1:kj .i64 ((B0 % 16:Nat):Int) 12=((B0 % 16*2 ^ 12:Nat):Int):=vI _ 12 (by decide) O;have h2:kj .i64 ((B1 % 64:Nat):Int) 6=((B1 % 64*2 ^ 6:Nat):Int):=vI _ 6 (by decide) O;have h3:=ws (B0 % 16) (B1 % 64*2 ^ 6) 12 O O  (by decide);have h4:=ws (B0 % 16*64+B1 % 64) (B2 % 64) 6 O O  (by decide);rw [h1,h2,h3,show B0 % 16*2 ^ 12+B1 % 64*2 ^ 6=(B0 % 16*64+B1 % 64)*2 ^ 6 by omega,h4]
 have four:iOr .i64 (iOr .i64 (iOr .i64 (kj .i64 ((B0 % 8:Nat):Int) 18) (kj .i64 ((B1 % 64:Nat):Int) 12)) (kj .i64 ((B2 % 64:Nat):Int) 6)) ((B3 % 64:Nat):Int)=((B0 % 8*262144+B1 % 64*4096+B2 % 64*64+B3 % 64:Nat):Int):=by
  have h1:kj .i64 ((B0 % 8:Nat):Int) 18=((B0 % 8*2 ^ 18:Nat):Int):=vI _ 18 (by decide) O;have h2:kj .i64 ((B1 % 64:Nat):Int) 12=((B1 % 64*2 ^ 12:Nat):Int):=vI _ 12 (by decide) O;have h2':kj .i64 ((B2 % 64:Nat):Int) 6=((B2 % 64*2 ^ 6:Nat):Int):=vI _ 6 (by decide) O;have h3:=ws (B0 % 8) (B1 % 64*2 ^ 12) 18 O O  (by decide);have h4:=ws (B0 % 8*64+B1 % 64) (B2 % 64*2 ^ 6) 12 O O  (by decide);have h5:=ws (B0 % 8*4096+B1 % 64*64+B2 % 64) (B3 % 64) 6 O O  (by decide);rw [h1,h2,h2',h3,show B0 % 8*2 ^ 18+B1 % 64*2 ^ 12=(B0 % 8*64+B1 % 64)*2 ^ 12 by omega,h4,show (B0 % 8*64+B1 % 64)*2 ^ 12+B2 % 64*2 ^ 6=(B0 % 8*4096+B1 % 64*64+B2 % 64)*2 ^ 6 by omega,h5]
 rw [a31,a15,a7,a1,a2,a3,two,three,four];have i1:inR ((i:Int)+1):=bv O O;have i2:inR ((i:Int)+2):=bv O O;have i3:inR ((i:Int)+3):=bv O O
 have e0:((if (i:Int) < 0 then some true else some (decide ((i:Int)+n<=i))):Option Bool)=some false:=by
  rw [if_neg O]; simp; omega
 rw [e0,cl,if_neg G,bC O];unfold decodeN;by_cases h0:B0 < 128
 ·rw [if_pos (show (B0:Int) < 128 by omega),bC aB,if_pos h0];simp only;rw [if_neg O]; rfl
 rw [if_neg (show ¬ (B0:Int) < 128 by omega),if_neg h0]
 have Zz:((if 194<=(B0:Int) then if (B0:Int)<=223 then ck (inR ((i:Int)+1)) <| (some (decide (1 < n/\(128:Int)<=(B1:Int)/\(B1:Int)<=191))).bind λ Tn=>some Tn else some false else some false):Option Bool)=some (decide (194<=B0/\B0<=223/\1 < n/\128<=B1/\B1<=191)):=by
  by_cases q1:194<=B0
  ·rw [if_pos O];by_cases q2:B0<=223
   ·rw [if_pos O,bC i1,cl];refine congrArg some (eqB ?_);rw [decide_eq_true_eq,decide_eq_true_eq]; omega
   ·rw [if_neg O]; simp; omega
  ·rw [if_neg O]; simp; omega
 rw [Zz,cl];by_cases h12:194<=B0/\B0<=223/\1 < n/\128<=B1/\B1<=191
 ·rw [if_pos (by simp only [decide_eq_true_eq]; exact h12),bC aB,bC O,bC i1,bC O,bC aB];rw [if_pos (show B0 / 32=6/\1 < n/\B1 / 64=2 by omega),if_pos (show B0 % 32*64+B1 % 64 >= 128 by omega)];show some _=some (if B0 % 32*64+B1 % 64=65533/\_ then _ else _);rw [if_neg O]; rfl
 rw [if_neg (by simp only [decide_eq_true_eq]; exact h12)]
 have hlo:((if (B0:Int)=224 then some 160 else some 128):Option Int)=some (if B0=224 then 160 else 128):=by
  by_cases q:B0=224
  ·exact wJ
  ·exact wD
 have hhi:((if (B0:Int)=237 then some 159 else some 191):Option Int)=some (if B0=237 then 159 else 191):=by
  by_cases q:B0=237
  ·exact wJ
  ·exact wD
 have hlo4:((if (B0:Int)=240 then some 144 else some 128):Option Int)=some (if B0=240 then 144 else 128):=by
  by_cases q:B0=240
  ·exact wJ
  ·exact wD
 have hhi4:((if (B0:Int)=244 then some 143 else some 191):Option Int)=some (if B0=244 then 143 else 191):=by
  by_cases q:B0=244
  ·exact wJ
  ·exact wD
 rw [hlo,cl,hhi,cl]
 have e32:∀ lo hi:Int,((if 224<=(B0:Int) then if (B0:Int)<=239 then ck (inR ((i:Int)+1)) <| (some (decide (1 < n/\lo<=(B1:Int)/\(B1:Int)<=hi))).bind λ TR=>if TR=true then ck (inR ((i:Int)+2)) <| (some (decide (2 < n/\(128:Int)<=(B2:Int)/\(B2:Int)<=191))).bind λ Wk=>some Wk else some false else some false else some false):Option Bool)
   = some (decide (224<=B0/\B0<=239/\(1 < n/\lo<=(B1:Int)/\(B1:Int)<=hi)/\2 < n/\128<=B2/\B2<=191)):=by
  intro lo hi;by_cases q1:224<=B0
  ·rw [if_pos O];by_cases q2:B0<=239
   ·rw [if_pos O,bC i1,cl];by_cases q3:1 < n/\lo<=(B1:Int)/\(B1:Int)<=hi
    ·rw [if_pos (by simp only [decide_eq_true_eq]; exact q3),bC i2,cl];refine congrArg some (eqB ?_);rw [decide_eq_true_eq,decide_eq_true_eq];constructor
     ·intro q; exact ⟨q1,q2,q3,by omega⟩
     ·intro q; have:=q.2.2.2; omega
    ·exact Jr
   ·exact HU
  ·exact H6
 rw [e32,cl];by_cases h32:224<=B0/\B0<=239/\(1 < n/\(if B0=224 then 160 else 128)<=(B1:Int)/\(B1:Int)<=(if B0=237 then 159 else 191))/\2 < n/\128<=B2/\B2<=191
 ·rw [if_pos (by simp only [decide_eq_true_eq]; exact h32)];obtain ⟨k1,k2,⟨k3,k4,k5⟩,k6,k7,k8⟩:=h32;have k4':128<=B1/\(B0=224->160<=B1):=by split at k4 <;> omega
  have k5':B1<=191/\(B0=237->B1<=159):=by split at k5 <;> omega
  clear k4 k5
  repeat rw [bC (by first | exact i1 | exact i2 | omega | exact bv O O)]
  rw [if_neg (show ¬ (B0 / 32=6/\1 < n/\B1 / 64=2) by omega),if_pos (show B0 / 16=14/\(1 < n/\B1 / 64=2)/\2 < n/\B2 / 64=2 by omega),if_pos (show B0 % 16*4096+B1 % 64*64+B2 % 64 >= 2048/\(B0 % 16*4096+B1 % 64*64+B2 % 64 < 55296\/57344<=B0 % 16*4096+B1 % 64*64+B2 % 64/\B0 % 16*4096+B1 % 64*64+B2 % 64<=1114111) by omega)];show some _=some (if B0 % 16*4096+B1 % 64*64+B2 % 64=65533/\(3:Nat)=1 then _ else _);rw [if_neg O]; rfl
 rw [if_neg (by simp only [decide_eq_true_eq]; exact h32)];rw [hlo4,cl,hhi4,cl]
 have h32':¬ (224<=B0/\B0<=239/\1 < n/\(B0=224->160<=B1)/\128<=B1/\B1<=191/\(B0=237->B1<=159)/\2 < n/\128<=B2/\B2<=191):=by
  rintro ⟨k1,k2,k3,k4,k5,k6,k7,k8⟩;exact h32 ⟨k1,k2,⟨k3,by split <;> omega,by split <;> omega⟩,k8⟩
 clear h32 e32
 have e60:∀ lo hi:Int,((if 240<=(B0:Int) then if (B0:Int)<=244 then ck (inR ((i:Int)+1)) <| (some (decide (1 < n/\lo<=(B1:Int)/\(B1:Int)<=hi))).bind λ r50=>if r50=true then ck (inR ((i:Int)+2)) <| (some (decide (2 < n/\(128:Int)<=(B2:Int)/\(B2:Int)<=191))).bind λ UM=>if UM=true then ck (inR ((i:Int)+3)) <| (some (decide (3 < n/\(128:Int)<=(B3:Int)/\(B3:Int)<=191))).bind λ TV=>some TV else some false else some false else some false else some false):Option Bool)
   = some (decide (240<=B0/\B0<=244/\(1 < n/\lo<=(B1:Int)/\(B1:Int)<=hi)/\(2 < n/\128<=B2/\B2<=191)/\3 < n/\128<=B3/\B3<=191)):=by
  intro lo hi;by_cases q1:240<=B0
  ·rw [if_pos O];by_cases q2:B0<=244
   ·rw [if_pos O,bC i1,cl];by_cases q3:1 < n/\lo<=(B1:Int)/\(B1:Int)<=hi
    ·rw [if_pos (by simp only [decide_eq_true_eq]; exact q3),bC i2,cl];by_cases q4:2 < n/\128<=B2/\B2<=191
     ·rw [if_pos (by simp only [decide_eq_true_eq]; omega),bC i3,cl];refine congrArg some (eqB ?_);rw [decide_eq_true_eq,decide_eq_true_eq];constructor
      ·intro q; exact ⟨q1,q2,q3,q4,by omega⟩
      ·intro q; have:=q.2.2.2.2; omega
     ·rw [if_neg (by simp only [decide_eq_true_eq]; omega)]
      symm; rw [bt,decide_eq_false_iff_not]
      intro q; exact q4 q.2.2.2.1
    ·exact Jr
   ·exact HU
  ·exact H6
 rw [e60,cl];by_cases h60:240<=B0/\B0<=244/\(1 < n/\(if B0=240 then 144 else 128)<=(B1:Int)/\(B1:Int)<=(if B0=244 then 143 else 191))/\(2 < n/\128<=B2/\B2<=191)/\3 < n/\128<=B3/\B3<=191
 ·rw [if_pos (by simp only [decide_eq_true_eq]; exact h60)];obtain ⟨k1,k2,⟨k3,k4,k5⟩,⟨k6,k7,k8⟩,k9,k10,k11⟩:=h60;have k4':128<=B1/\(B0=240->144<=B1):=by split at k4 <;> omega
  have k5':B1<=191/\(B0=244->B1<=143):=by split at k5 <;> omega
  clear k4 k5
  repeat rw [bC (by first | exact i1 | exact i2 | exact i3 | omega | exact bv O O)]
  rw [if_neg (show ¬ (B0 / 32=6/\1 < n/\B1 / 64=2) by omega),if_neg (show ¬ (B0 / 16=14/\(1 < n/\B1 / 64=2)/\2 < n/\B2 / 64=2) by omega),if_pos (show B0 / 8=30/\(1 < n/\B1 / 64=2)/\(2 < n/\B2 / 64=2)/\3 < n/\B3 / 64=2 by omega)];generalize hv:B0 % 8*262144+B1 % 64*4096+B2 % 64*64+B3 % 64=v;rw [if_pos (show v >= 65536/\(v < 55296\/57344<=v/\v<=1114111) by omega)];show some _=some (if v=65533/\(4:Nat)=1 then _ else _);rw [if_neg O]; rfl
 rw [if_neg (by simp only [decide_eq_true_eq]; exact h60)]
 have h60':¬ (240<=B0/\B0<=244/\1 < n/\(B0=240->144<=B1)/\128<=B1/\B1<=191/\(B0=244->B1<=143)/\2 < n/\128<=B2/\B2<=191/\3 < n/\128<=B3/\B3<=191):=by
  rintro ⟨k1,k2,k3,k4,k5,k6,k7,k8,k9,k10,k11⟩;exact h60 ⟨k1,k2,⟨k3,by split <;> omega,by split <;> omega⟩,⟨k8,k9,k10⟩,k11⟩
 clear h60 e60
 symm
 refine congrArg some (if_pos ?_)
 repeat' split
 all_goals first | exact ⟨Z,Z⟩ | (exfalso; omega)
theorem EO (s:Bytes)(hs:s.length<=1000000000):∀ (k i:Nat),s.length - i < k->i<=s.length->Ev2 (λ _ m=>gq s m (i:Int)) (·=if validD (s.drop i)=true then .inl () else .inr false):=by
 intro k
 induction k with
 | zero=>intro i h; omega
 | succ k ih =>
  intro i hk hi;refine aw ?_;simp only [gq];by_cases h:i < s.length
  ·have Ta:s.drop i≠[]:=by intro q; have:=congrArg List.length q; rw [ld] at this; simp at this; omega
   refine ae O (aj _ (ax (vd s i h hs) Z) ?_);have hv:=AH _ Ta;have hdf:=iB _ Ta;rw [ld] at hdf;unfold My;by_cases q:(decodeL (s.drop i)).1=65533/\(decodeL (s.drop i)).2=1
   ·rw [if_pos q];refine ae rfl (aa ?_);rw [if_neg (λ z=>((hv.1 z).1 q))]
   ·rw [if_neg q];refine af pt (ag (bv pt pt) ?_);have:=ih (i+(decodeL (s.drop i)).2) O O;rw [Int.natCast_add] at this;refine aQ this λ r hr=>?_;rw [hr,<- List.drop_drop];by_cases z:validD ((s.drop i).drop (decodeL (s.drop i)).2)=true
    ·rw [if_pos z,if_pos (hv.2 ⟨q,z⟩)]
    ·rw [if_neg z,if_neg (λ y=>z (hv.1 y).2)]
  ·refine af O (aa ?_);rw [List.drop_of_length_le O,if_pos validD_nil]
theorem Eh (s:Bytes)(hs:s.length<=1000000000):Ev2 (λ n _=>ll n s) (·=(decide (s.length<=4096)&&validD s)):=by
 simp only [ll];refine av (λ h=>aa ?_) (λ h=>?_)
 ·have:¬ s.length<=4096:=by omega
  simp [this]
 ·have h':s.length<=4096:=by omega
  have l:=EO s hs (s.length+1) 0 O O;rw [List.drop_zero] at l
  cases hv:validD s with
  | true=>rw [hv] at l; exact ey () (aN l) (aa (by simp [h']))
  | false=>rw [hv] at l; exact iC false (aN l) G
theorem Cn:∀ (k u:Nat),u < 10 ^ (k+1)->u<=9007199254740992->Ev2 (λ n _=>fM n (u:Int)) (·=decDigits u):=by
 intro k
 induction k with
 | zero =>
  intro u h _;have h:u < 10:=by simpa using h
  refine aP ?_;simp only [fM];have hw:IntKind.wrap .u8 (48+(u:Int))=((48+u:Nat):Int):=by rw [rh]; omega
  rw [hw];refine aj true tT (ae rfl (ag aB (ag O (aa ?_))));rw [decDigits,dif_pos h]
  rfl
 | succ k ih =>
  intro u h hm;refine aP ?_;simp only [fM];have hw:u < 10->IntKind.wrap .u8 (48+(u:Int))=((48+u:Nat):Int):=λ _=>by rw [rh]; omega
  by_cases h10:u < 10
  ·rw [hw h10];refine aj true tT (ae rfl (ag aB (ag O (aa ?_))));rw [decDigits,dif_pos h10]
   rfl
  ·have hd:IntKind.wrap .i64 ((u:Int).tdiv 10)=((u / 10:Nat):Int):=by
    have:(u:Int).tdiv 10=((u / 10:Nat):Int):=by
     rw [Int.tdiv_eq_ediv_of_nonneg O]; omega
    rw [this];exact rT
   have hmod:(u:Int).tmod 10=((u % 10:Nat):Int):=by
    rw [Int.tmod_eq_emod_of_nonneg O]; omega
   refine aj false tT (af G ?_);refine aj false oO (af G (af O (ag (by decide) ?_)));rw [hd,hmod];have i1:=ih (u / 10) (by rw [Nat.pow_succ] at h; omega) O;have i2:=ih (u % 10) (by have:10 ^ 1<=10 ^ (k+1):=Nat.pow_le_pow_right (by decide) O; omega) O;have e2:decDigits (u % 10)=[UInt8.ofNat (48+u % 10)]:=by rw [decDigits,dif_pos O]
   have hl:(decDigits (u / 10)).length<=u / 10+1:=by
    have:∀ n v:Nat,v < n->(decDigits v).length<=v+1:=by
     intro n
     induction n with
     | zero=>intro v h; omega
     | succ n ihn =>
      intro v hv;rw [decDigits];split
      ·simp
      ·have:=ihn (v / 10) O;rw [ph]; simp; omega
    exact this (u / 10+1) _ O
   refine aj _ i1 (ag (by decide) (aj _ i2 (ag ?_ (aa ?_))))
   ·rw [e2]; simp only [aq,n8]; omega
   ·conv=>rhs; rw [decDigits,dif_neg h10]
    rw [e2]
theorem Sg {v:Int}(h0:0<=v)(h1:v<=iu):Ev2 (λ n _=>fM n v) (·=itoa v):=by
 obtain ⟨u,rfl⟩:∃ u:Nat,v=u:=⟨v.toNat,by omega⟩
 have e:itoa (u:Int)=decDigits u:=by unfold itoa; rw [if_neg O]; simp
 rw [e];have:u<=9007199254740992:=by unfold iu at h1; omega
 exact Cn 15 u O this
theorem CY:∀ n:Fin 16,sub EK ((n.1:Nat):Int) (((n.1:Nat):Int)+1)=[hexDigit n.1]:=by decide
theorem Bi (u:Nat)(h:u < 256):Ev2 (λ n _=>iZ n (u:Int)) (·=mY u):=by
 have one:∀ v:Nat,v < 16->Ev2 (λ n _=>iZ n (v:Int)) (·=[hexDigit v]):=by
  intro v hv;refine aP ?_;simp only [iZ];have hm:(v:Int).tmod 16=(v:Int):=by rw [Int.tmod_eq_emod_of_nonneg O]; omega
  rw [hm];refine ag (by decide) (ag (by decide) (ag aB (ag fm (ae O (aa ?_)))));exact CY ⟨v,hv⟩
 by_cases h1:u < 16
 ·have e:mY u=[hexDigit u]:=if_pos h1;rw [e]; exact one u h1
 ·have e:mY u=[hexDigit (u / 16),hexDigit (u % 16)]:=if_neg h1;rw [e];refine aP ?_;simp only [iZ];have hm:(u:Int).tmod 16=((u % 16:Nat):Int):=by rw [Int.tmod_eq_emod_of_nonneg O]; omega
  have hd:IntKind.wrap .i64 ((u:Int).tdiv 16)=((u / 16:Nat):Int):=by
   have:(u:Int).tdiv 16=((u / 16:Nat):Int):=by rw [Int.tdiv_eq_ediv_of_nonneg O]; omega
   rw [this];exact rT
  rw [hm,hd];have es:sub ([48,49,50,51,52,53,54,55,56,57,97,98,99,100,101,102]:Bytes) ((u % 16:Nat):Int) (((u % 16:Nat):Int)+1)=[hexDigit (u % 16)]:=CY ⟨u % 16,by omega⟩;rw [es];refine ag (by decide) (ag (by decide) (ag aB (ag fm (af O (ag (by decide) (aj _ (one _ O) (ag G (aa rfl))))))))
theorem Me (b:UInt8):Ev2 (λ n _=>ni n (b.toNat:Int)) (·=oj b):=by
 have hb:=b.toNat_lt;simp only [ni];refine av (λ h=>aa (R4 O).symm) (λ h1=>av (λ h=>aa (Sw O).symm) (λ h2=>av (λ h=>aa (Sv O).symm) (λ h3=>av (λ h=>aa ?_) (λ h4=>av (λ h=>aa ?_) (λ h5=>?_)))))
 ·have e:b=34:=(pn (n:=34) (by decide)).1 O;rw [e]; rfl
 ·have e:b=92:=(pn (n:=92) (by decide)).1 O;rw [e]; rfl
 ·refine aj (decide (b.toNat < 32\/b.toNat=127)) ?_ ?_
  ·by_cases h:b.toNat < 32
   ·exact BL
   ·exact AL
  ·by_cases h6:b.toNat < 32\/b.toNat=127
   ·rw [R6 O O O h6];have hl:=sZ b.toNat;exact ae (by simp [h6]) (ag aB (aj _ (Bi b.toNat O) (ag nc (ag kw (aa rfl)))))
   ·rw [RQ O O  h6];refine af (by simp only [decide_eq_true_eq]; exact h6) (ag O (aa ?_));rw [Pt]
theorem E5 (s:Bytes)(hs:s.length<=1000000000):∀ (k i:Nat) (f:Bytes),i+k=s.length->f.length<=6*i+1->Ev2 (λ n m=>iN n s m f (i:Int)) (·=f++(s.drop i).flatMap oj):=by
 intro k
 induction k with
 | zero =>
  intro i f hi hf;refine aw ?_;simp only [iN];refine af O (aa ?_);rw [List.drop_of_length_le O]; simp
 | succ k ih =>
  intro i f hi hf;refine aw ?_;simp only [iN];refine ae O (ag O ?_);have hb:byt s i=((s.getD i 0).toNat:Int):=cD s i;rw [hb]
  have hd:s.drop i=s.getD i 0::s.drop (i+1):=by
   rw [List.getD_eq_getElem?_getD,List.getElem?_eq_getElem O,ro];exact List.drop_eq_getElem_cons O
  rw [hd,List.flatMap_cons];have he:=zf (s.getD i 0);generalize s.getD i 0=b at he ⊢;refine aj _ (Me b) (ag O (ag aB ?_));have:=ih (i+1) (f++oj b) O vh;rw [Int.natCast_add,Int.natCast_one] at this;simpa using this
theorem QA (s:Bytes)(hs:s.length<=1000000000):Ev2 (λ n _=>sH n s) (·=HF s):=by
 simp only [sH];have hf:=KQ s;have l:=E5 s hs s.length 0 [34] O G;rw [List.drop_zero] at l;refine aj _ (aN l) (ag kw (aa ?_));simp [HF]
theorem Sy:(List.range 256).all (λ n=>lP (n:Int) == some (match pd (UInt8.ofNat n) with | some d=>(d:Int) | none=>-1))=true:=by kernel_rfl
theorem OQ (b:UInt8):lP (b.toNat:Int)=some (match pd b with | some d=>(d:Int) | none=>-1):=by
 have:=eq_of_beq (py.1 Sy b.toNat (List.mem_range.2 b.toNat_lt));simpa using this
theorem getD_drop (s:Bytes)(j i:Nat):(s.drop j).getD i 0=s.getD (j+i) 0:=by
 exact Jh
theorem xr (s:Bytes)(j i:Nat):byt s ((j:Int)+(i:Int))=((s.getD (j+i) 0).toNat:Int):=by
 rw [show (j:Int)+(i:Int)=((j+i:Nat):Int) by omega]; exact cD s (j+i)
theorem drop_at (s:Bytes){i:Nat}(h:i < s.length):s.drop i=s.getD i 0::s.drop (i+1):=by
 exact JZ
theorem E9 (s:Bytes)(hs:s.length<=1000000000)(j:Nat)(hj:j<=s.length):∀ (k i a:Nat),i+k=6->j+i<=s.length->a < 16 ^ i->Ev2 (λ _ m=>fe s (j:Int) m (a:Int) (i:Int))
  (·=(((bN k (s.drop (j+i)) a).1:Int),((i+(bN k (s.drop (j+i)) a).2:Nat):Int))):=by
 intro k
 induction k with
 | zero =>
  intro i a hi hl ha;refine aw ?_;simp only [fe];refine aj false ?_ (af G (aa (by simp [bN])));exact ag aB (av (λ h=>af O (aa rfl)) (λ h=>aa rfl))
 | succ k ih =>
  intro i a hi hl ha;refine aw ?_;simp only [fe];rw [xr];have hin:inR ((j:Int)+(i:Int)):=bv O O;by_cases h:j+i < s.length
  ·rw [drop_at s h];generalize s.getD (j+i) 0=b;unfold bN
   cases hh:pd b with
   | none =>
    refine aj false (ag hin (ae O (ae O (ag hin (ag O (aj _ (ax (OQ b) Z) (aa ?_))))))) (af G (aa G));rw [hh]; rfl
   | some d =>
    have hlt:=Dp hh;have hp:16 ^ i<=16 ^ 5:=Nat.pow_le_pow_right (by decide) O;have hp5:(16:Nat) ^ 5=1048576:=rfl;refine aj true (ag hin (ae O (ae O (ag hin (ag O (aj _ (ax (OQ b) Z) (aa ?_))))))) ?_
    ·rw [hh]; simp
    refine ae Z (ag aB (ag hin (ag O (aj _ (ax (OQ b) Z) ?_))));rw [hh];simp only;refine ag aB (ag aB ?_);have:=ih (i+1) (16*a+d) O O  (by rw [Nat.pow_succ]; omega);rw [show (((i+1:Nat)):Int)=(i:Int)+1 by omega,show ((16*a+d:Nat):Int)=16*(a:Int)+(d:Int) by omega,<- Nat.add_assoc] at this;exact Hy
  ·refine aj false (ag hin oO) (af G (aa ?_));rw [List.drop_of_length_le O];simp [bN]
def shP (j:Int)(p:Int×Int×Int):Int×Int×Int:=if p.2.2=0 then (p.1,j+p.2.1,0) else (0,0,p.2.2)
theorem Eu (s:Bytes)(hs:s.length<=1000000000)(j:Nat)(hj:j<=s.length):Ev2 (λ n _=>kO n s (j:Int)) (·=shP (j:Int) (fx (s.drop j))):=by
 simp only [kO];have l:=E9 s hs j hj 6 0 0 rfl O (by decide);rw [Nat.add_zero,Nat.zero_add] at l;have hle:=nO 6 (s.drop j) 0;refine aj _ (aN l) ?_;obtain ⟨v,c,hh⟩:∃ v c,bN 6 (s.drop j) 0=(v,c):=⟨_,_,rfl⟩
 have hP:=Dx hh;rw [hh] at hle ⊢;rw [ld] at hle hP;simp only at hle ⊢;have hin:inR ((j:Int)+(c:Int)):=bv O O;refine ag hin ?_;refine av (λ h=>aa ?_) (λ h=>?_)
 ·rw [hP,if_pos O]; rfl
 rw [if_neg (show ¬ c=s.length - j by omega),getD_drop,getD_drop,Nat.add_zero] at hP;have hb0:byt s (j:Int)=((s.getD j 0).toNat:Int):=cD s j;have h125:(s.getD (j+c) 0).toNat=125↔s.getD (j+c) 0=125:=pn (by decide);have h48:(s.getD j 0).toNat=48↔s.getD j 0=48:=pn (by decide);rw [xr,hb0]
 have hvr:validRune (v:Int)=false↔1114111 < (v:Int)\/(55296<=(v:Int)/\(v:Int)<=57343):=by
  simp only [validRune,decide_eq_false_iff_not]; omega
 have tail:Ev2 (λ _ _=>(if 1114111 < (v:Int) then some true else if 55296<=(v:Int) then some (decide ((v:Int)<=57343)) else some false:Option Bool)) (·=decide (validRune (v:Int)=false)):=by
  refine av (λ h1=>aa ?_) (λ h1=>av (λ h2=>aa (eqB ?_)) (λ h2=>aa ?_))
  ·symm; rw [decide_eq_true_eq,hvr]; exact .inl h1
  ·rw [decide_eq_true_eq,decide_eq_true_eq,hvr]; omega
  ·symm; rw [decide_eq_false_iff_not,hvr]; omega
 refine aj (decide (s.getD (j+c) 0≠125\/c=0\/(1 < c/\s.getD j 0=48)\/validRune (v:Int)=false)) ?_ ?_
 ·refine av (λ h1=>aa ?_) (λ h1=>ag hin (ag O ?_))
  ·symm; rw [decide_eq_true_eq]; right; left; omega
  refine av (λ h2=>?_) (λ h2=>aa ?_)
  ·have q1:¬ s.getD (j+c) 0≠125:=λ q=>q (h125.1 O);have q0:¬ c=0:=by omega
   refine av (λ h3=>ag O (av (λ h4=>aa ?_) (λ h4=>?_))) (λ h3=>?_)
   ·symm; rw [decide_eq_true_eq]; right; right; left; exact ⟨by omega,h48.1 O⟩
   ·have q2:¬ (1 < c/\s.getD j 0=48):=λ q=>h4 (by have:=h48.2 q.2; omega);exact H8
   ·have q2:¬ (1 < c/\s.getD j 0=48):=λ q=>h3 O;exact H8
  ·symm; rw [decide_eq_true_eq]; left; intro q; exact h2 (by have:=h125.2 q; omega)
 ·refine av (λ h1=>aa ?_) (λ h1=>ag hin (ag aB (aa ?_)))
  ·rw [hP,if_pos (of_decide_eq_true h1)]; rfl
  ·rw [hP,if_neg (λ q=>h1 (decide_eq_true q))];unfold shP;rw [if_pos rfl];refine Prod.ext rfl (Prod.ext ?_ rfl);show (j:Int)+(c:Int)+1=(j:Int)+((c+1:Nat):Int);omega
theorem u192:(List.range 32).all (λ n=>iOr .i64 192 (n:Int) == ((192+n:Nat):Int))=true:=by kernel_rfl
theorem O1:(List.range 64).all (λ n=>iOr .i64 128 (n:Int) == ((128+n:Nat):Int))=true:=by kernel_rfl
theorem u224:(List.range 16).all (λ n=>iOr .i64 224 (n:Int) == ((224+n:Nat):Int))=true:=by kernel_rfl
theorem u240:(List.range 8).all (λ n=>iOr .i64 240 (n:Int) == ((240+n:Nat):Int))=true:=by kernel_rfl
theorem Bw (u:Nat)(h:u < 4611686018427387904):bH .i64 (u:Int) 63=((u % 64:Nat):Int):=by
 have e1:(BitVec.ofInt 64 (u:Int)).toNat=u:=by rw [BitVec.toNat_ofInt]; omega
 have e2:(BitVec.ofInt 64 (63:Int)).toNat=63:=by rw [BitVec.toNat_ofInt]; omega
 show IntKind.wrap .i64 (((BitVec.ofInt 64 (u:Int)) &&& (BitVec.ofInt 64 (63:Int))).toNat:Nat)=_;rw [BitVec.toNat_and,e1,e2];have:=Nat.and_two_pow_sub_one_eq_mod u 6;rw [show (2:Nat) ^ 6 - 1=63 from rfl,show (2:Nat) ^ 6=64 from rfl] at this;rw [this];exact rT
theorem shw (u k:Nat)(hk:k < 64):cP .i64 (u:Int) (k:Int)=((u / 2 ^ k:Nat):Int):=by
 show (u:Int).fdiv (2 ^ (min (k:Int).toNat IntKind.i64.bits))=_
 have:min (k:Int).toNat IntKind.i64.bits=k:=by
  have:IntKind.i64.bits=64:=rfl;rw [this]; omega
 rw [this,Int.fdiv_eq_ediv_of_nonneg _ (by exact Int.le_of_lt (Int.pow_pos (by decide)))]
 push_cast; rfl
theorem Nk (u:Nat)(h:gr (u:Int)):jV (u:Int)=some (encodeRune (u:Int)):=by
 have h0:(u:Int)<=1114111:=by unfold gr at h; omega
 unfold jV;have s6:cP .i64 (u:Int) 6=((u / 64:Nat):Int):=shw u 6 (by decide);have s12:cP .i64 (u:Int) 12=((u / 4096:Nat):Int):=shw u 12 (by decide);have s18:cP .i64 (u:Int) 18=((u / 262144:Nat):Int):=shw u 18 (by decide);rw [s6,s12,s18,Bw u O,Bw (u / 64) O,Bw (u / 4096) O];have o1:iOr .i64 128 ((u % 64:Nat):Int)=((128+u % 64:Nat):Int):=tab O1 _ O;have o2:iOr .i64 128 ((u / 64 % 64:Nat):Int)=((128+u / 64 % 64:Nat):Int):=tab O1 _ O;have o3:iOr .i64 128 ((u / 4096 % 64:Nat):Int)=((128+u / 4096 % 64:Nat):Int):=tab O1 _ O;rw [o1,o2,o3];have w8:∀ v:Nat,v < 256->IntKind.wrap .u8 (v:Int)=(v:Int):=λ v hv=>by rw [rh]; omega
 have eu:∀ (v:Nat) (w:Int),(v:Int)=w->u8 (v:Int)=w.toNat.toUInt8:=λ v w q=>by rw [<- q]; rfl
 by_cases h1:u < 128
 ·rw [if_pos O,w8 u O,bC O];simp only [encodeRune,encodeRuneZ,if_pos (show 0<=(u:Int)/\(u:Int)<=127 by omega),la,th,u8]
 rw [if_neg O];have n1:¬ (0<=(u:Int)/\(u:Int)<=127):=by omega
 by_cases h2:u < 2048
 ·have p1:iOr .i64 192 ((u / 64:Nat):Int)=((192+u / 64:Nat):Int):=tab u192 _ O;rw [if_pos O,p1,w8 _ O,w8 _ O,bC O,bC O,bC O];simp only [encodeRune,encodeRuneZ,if_neg n1,if_pos (show 128<=(u:Int)/\(u:Int)<=2047 by omega),la,th];rw [eu _ (192+(u:Int) / 64) O,eu _ (128+(u:Int) % 64) O]
 rw [if_neg O];have n2:¬ (128<=(u:Int)/\(u:Int)<=2047):=by omega
 by_cases h3:u < 65536
 ·have p1:iOr .i64 224 ((u / 4096:Nat):Int)=((224+u / 4096:Nat):Int):=tab u224 _ O;rw [if_pos O,p1,w8 _ O,w8 _ O,w8 _ O]
  repeat rw [bC O]
  simp only [encodeRune,encodeRuneZ,if_neg n1,if_neg n2,if_pos (show (2048<=(u:Int)/\(u:Int) < 55296)\/(57343 < (u:Int)/\(u:Int)<=65535) by unfold gr at h; omega),la,th];rw [eu _ (224+(u:Int) / 4096) O,eu _ (128+(u:Int) / 64 % 64) O,eu _ (128+(u:Int) % 64) O]
 ·have p1:iOr .i64 240 ((u / 262144:Nat):Int)=((240+u / 262144:Nat):Int):=tab u240 _ O;rw [if_neg O,p1,w8 _ O,w8 _ O,w8 _ O,w8 _ O]
  repeat rw [bC O]
  simp only [encodeRune,encodeRuneZ,if_neg n1,if_neg n2,if_neg (show ¬ ((2048<=(u:Int)/\(u:Int) < 55296)\/(57343 < (u:Int)/\(u:Int)<=65535)) by omega),if_pos (show 65536<=(u:Int)/\(u:Int)<=1114111 by omega),la,th];rw [eu _ (240+(u:Int) / 262144) O,eu _ (128+(u:Int) / 4096 % 64) O,eu _ (128+(u:Int) / 64 % 64) O,eu _ (128+(u:Int) % 64) O]
theorem wh (s:Bytes)(a w:Nat):sub s (a:Int) ((a:Int)+(w:Int))=(s.drop a).take w:=by
 show (s.take ((a:Int)+(w:Int)).toNat).drop (a:Int).toNat=_;rw [show ((a:Int)+(w:Int)).toNat=a+w by omega,Int.toNat_natCast,List.drop_take,Nat.add_sub_cancel_left]
def shE (j:Int)(p:Int×Int×Int):Bytes×Int×Int:=if p.2.2=0 then (encodeRune p.1,j+p.2.1,0) else ([],0,p.2.2)
theorem uS (j v c:Int):shE j (v,c,0)=(encodeRune v,j+c,0):=if_pos Z
theorem Mm (j v c e:Int)(h:e≠0):shE j (v,c,e)=([],0,e):=if_neg h
theorem yA (s:Bytes)(hs:s.length<=1000000000)(i:Nat)(hi:i < s.length):Ev2 (λ n _=>jp n s (i:Int)) (·=shE ((i:Int)+1) (cW (s.drop (i+1)))):=by
 simp only [jp];have i1:inR ((i:Int)+1):=bv O O;have i2:inR ((i:Int)+2):=bv O O;have i3:inR ((i:Int)+3):=bv O O;refine ag i1 ?_;by_cases h1:i+1 < s.length
 ·have hb:byt s ((i:Int)+1)=((s.getD (i+1) 0).toNat:Int):=xr s i 1;have hb2:byt s ((i:Int)+2)=((s.getD (i+2) 0).toNat:Int):=xr s i 2
  have hsub:sub s ((i:Int)+1) ((i:Int)+2)=[s.getD (i+1) 0]:=by
   have:=wh s (i+1) 1;rw [show ((i+1:Nat):Int)=(i:Int)+1 by omega,show (i:Int)+1+((1:Nat):Int)=(i:Int)+2 by omega] at this;rw [this,drop_at s h1]; rfl
  have hd2:s.drop (i+1+1)=s.drop (i+2):=rfl;rw [hb,hb2,hsub,drop_at s h1,hd2];generalize s.getD (i+1) 0=b;have hbl:=b.toNat_lt;have hP:=pQ b (s.drop (i+2));refine af O (ag i1 (ag O ?_));have two:(i:Int)+2=(i:Int)+1+1:=by omega
  refine av (λ h=>ag i2 (aa ?_)) (λ h1=>?_)
  ·exact Ap
  rw [if_neg (show ¬ b.toNat=110 by omega)] at hP;refine av (λ h=>ag i2 (aa ?_)) (λ h2=>?_)
  ·exact Ap
  rw [if_neg (show ¬ b.toNat=114 by omega)] at hP;refine av (λ h=>ag i2 (aa ?_)) (λ h3=>?_)
  ·exact Ap
  rw [if_neg (show ¬ b.toNat=116 by omega)] at hP;refine aj (decide (b.toNat=34\/b.toNat=92)) ?_ ?_
  ·by_cases h:b.toNat=34
   ·exact BL
   ·exact AL
  by_cases h4:b.toNat=34\/b.toNat=92
  ·rw [if_pos h4] at hP;rw [hP,uS,wc b O];exact ae (by simp [h4]) (ag i1 (ag i2 (ag O (ag i2 (aa (by rw [two]))))))
  rw [if_neg h4] at hP;refine af (by simp only [decide_eq_true_eq]; exact h4) ?_;refine av (λ h5=>?_) (λ h5=>aa (by rw [hP,if_neg O]; rfl));rw [if_pos (show b.toNat=117 by omega)] at hP;rw [hP];refine ag i2 ?_;by_cases h6:i+2 < s.length
  ·rw [drop_at s h6];have hd3:s.drop (i+2+1)=s.drop (i+3):=rfl;rw [hd3];refine af O (ag i2 (ag O ?_));generalize s.getD (i+2) 0=c;show Ev2 _ (·=shE ((i:Int)+1) (if c.toNat=123 then ((fx (s.drop (i+3))).1,(fx (s.drop (i+3))).2.1+2,(fx (s.drop (i+3))).2.2) else ((0,0,2):Int×Int×Int)));refine av (λ h7=>ag i3 ?_) (λ h7=>aa (by rw [if_neg O]; rfl));rw [if_pos (show c.toNat=123 by omega)];have hpt:=Eu s hs (i+3) O;rw [show ((i+3:Nat):Int)=(i:Int)+3 by omega] at hpt;have hle:=w4 (s.drop (i+3));generalize fx (s.drop (i+3))=p at hpt hle ⊢;obtain ⟨v,w,e⟩:=p;simp only at hle ⊢;refine aj _ hpt ?_;by_cases he:e=0
   ·subst he;have hr:=hle.2.2.1 rfl;obtain ⟨u,rfl⟩:∃ u:Nat,v=u:=⟨v.toNat,by unfold gr at hr; omega⟩
    rw [show shP ((i:Int)+3) ((u:Int),w,0)=((u:Int),(i:Int)+3+w,0) from if_pos rfl,uS];refine ae rfl (aj _ (ax (Nk u hr) rfl) (aa ?_));refine Prod.ext rfl (Prod.ext ?_ rfl);show (i:Int)+3+w=(i:Int)+1+(w+2);omega
   ·rw [show shP ((i:Int)+3) (v,w,e)=(0,0,e) from if_neg he,Mm _ _ _ _ he];exact af he (aa rfl)
  ·rw [List.drop_of_length_le (show s.length<=i+2 by omega)];exact rN
 ·rw [List.drop_of_length_le O];exact rN
theorem Bu (b:UInt8)(r:Bytes)(h:128<=b.toNat):128<=(decodeL (b::r)).1:=by
 have hN:=decN (b::r).length ((b::r).getD 0 0).toNat ((b::r).getD 1 0).toNat ((b::r).getD 2 0).toNat ((b::r).getD 3 0).toNat G (UInt8.toNat_lt _);rw [<- decodeL_N] at hN;rcases Nat.lt_or_ge (decodeL (b::r)).1 128 with q | q
 ·have:=(hN.2.2.2.1 q).2;have hb0:((b::r).getD 0 0).toNat=b.toNat:=rfl;omega
 ·exact q
def L8 (i:Int)(b:UInt8)(r:Bytes):Bytes×Int×Int :=
 if (decodeL (b::r)).1=92 then shE (i+1) (cW r)
 else if jz (decodeL (b::r)) then ([],0,2)
 else (encodeRune ((decodeL (b::r)).1:Int),i+((decodeL (b::r)).2:Int),0)
theorem Ni (s:Bytes)(hs:s.length<=1000000000)(i:Nat)(b:UInt8)(r:Bytes)(hl:s.drop i=b::r)(hi:i+r.length+1=s.length):Ev2 (λ n _=>lV n s (i:Int)) (·=L8 (i:Int) b r):=by
 simp only [lV];have hil:i < s.length:=by omega
 have hd:=drop_at s hil;rw [hl] at hd;have hb:byt s i=(b.toNat:Int):=by rw [cD,<- (qr hd).1]
 have hr:s.drop (i+1)=r:=(qr hd).2.symm;rw [hb];have hbl:=b.toNat_lt;unfold L8;refine ag O ?_;by_cases h92:b.toNat=92
 ·have e:decodeL (b::r)=(b.toNat,1):=decodeL_ascii b r O;rw [e,if_pos h92];have:=yA s hs i hil;rw [hr] at this;exact ae O (aj _ this (aa Z))
 ·have hdec:=vd s i hil hs;rw [hl] at hdec;have hdf:=iB (b::r) G
  have hc:((decodeL (b::r)).1=b.toNat/\(decodeL (b::r)).2=1/\b.toNat < 128)\/(128<=(decodeL (b::r)).1/\128<=b.toNat):=by
   rcases Nat.lt_or_ge b.toNat 128 with q | q
   ·left; rw [decodeL_ascii b r q]; exact ⟨Z,Z,q⟩
   ·right; exact ⟨Bu b r q,q⟩
  refine af O (aj _ (ax hdec rfl) ?_);unfold My;generalize hD:decodeL (b::r)=D at hdf hc ⊢;obtain ⟨c,w⟩:=D;simp only at hdf hc ⊢;rw [if_neg (show ¬ c=92 by omega)];simp only [aq] at hdf;by_cases hbad:c=65533/\w=1
  ·rw [if_pos hbad,if_pos (show jz (c,w) from .inl hbad)];exact aj true u3 u3
  ·rw [if_neg hbad];have hgood:=hdf.2.2 hbad;refine aj (decide (jz (c,w))) ?_ ?_
   ·refine af pt (ag O (av (λ h=>aa ?_) (λ h=>ag O (aa (eqB ?_)))))
    ·symm; rw [decide_eq_true_eq]; unfold jz; simp only; omega
    ·rw [decide_eq_true_eq,decide_eq_true_eq]; unfold jz; simp only; omega
   ·refine av (λ h=>aa (by rw [if_pos (of_decide_eq_true h)])) (λ h=>?_);rw [if_neg (λ q=>h (decide_eq_true q))];have hin:inR ((i:Int)+(w:Int)):=bv O O;refine ag hin (ag pt (ag hin (aa ?_)));simp only;rw [wh,hl,hgood.2]
theorem Nc (s:Bytes)(hs:s.length<=1000000000):∀ (k i:Nat),i+k=s.length->Ev2 (λ _ m=>et s m (i:Int)) (·=if ko (λ j=>d3 (s.getD j 0)) i k then .inl () else .inr false):=by
 intro k
 induction k with
 | zero =>
  intro i hi;refine aw ?_;simp only [et];exact uN
 | succ k ih =>
  intro i hi;refine aw ?_;simp only [et];have hb:byt s i=((s.getD i 0).toNat:Int):=cD s i;rw [hb];refine ae O (aj (!d3 (s.getD i 0)) ?_ ?_)
  ·exact H3
  ·cases hk:d3 (s.getD i 0) with
   | false=>exact ae Z (aa (by simp only [ko,hk,Bool.false_and]; rfl))
   | true =>
    exact Cv
theorem MY (s:Bytes)(hs:s.length<=1000000000):Ev2 (λ n _=>jK n s) (·=po s):=by
 simp only [jK];have l:=Nc s hs s.length 0 O;rw [za] at l;have hc:=j9 s;have hb:byt s 0=((s.getD 0 0).toNat:Int):=cD s 0;have h48:(s.getD 0 0).toNat=48↔s.getD 0 0=48:=pn (by decide)
 cases ha:s.all d3 with
 | false =>
  rw [ha] at l hc;refine iC false (aN l) (eqB ?_);rw [hc]; simp
 | true =>
  rw [ha] at l hc;refine ey () (aN l) (ah (·=po s) ?_ (λ x hx=>aa hx));refine av (λ h=>aa (eqB ?_)) (λ h0=>av (λ h=>aa (eqB ?_)) (λ h=>ag ?_ (aa (eqB ?_))))
  ·rw [hc,h]; simp
  ·rw [hc]; simp [h]
  ·have:=List.length_pos_iff.2 h; omega
  ·rw [hb,hc,Bool.not_eq_true',decide_eq_false_iff_not];constructor
   ·intro q; exact ⟨h,rfl,.inl λ z=>q (by have:=h48.2 z; omega)⟩
   ·rintro ⟨_,_,q | q⟩
    ·intro z; exact q (h48.1 O)
    ·intro z;obtain ⟨b,hb1⟩:=List.length_eq_one_iff.1 q;have h3:=h48.1 O;rw [hb1] at h3;exact h0 (by rw [hb1]; exact congrArg (λ x=>[x]) h3)
def AD (l:Bytes):Int×Int:=if po l=true then (if l.length<=16/\gv 0 l<=9007199254740992 then ((gv 0 l:Int),0) else (0,5)) else (0,2)
theorem xB:∀ (l:Bytes) (a:Nat),l.all d3=true->gv a l < (a+1)*10 ^ l.length
 | [],a,_=>by simp [nC]
 | b::r,a,h=>by
  have hb:=mX h (b:=b) List.mem_cons_self
  have hr:r.all d3=true:=by
   rw [py] at h ⊢;exact λ x hx=>h x (List.mem_cons_of_mem _ hx)
  have:=xB r (a*10+(b.toNat - 48)) hr;rw [pP,aq,Nat.pow_succ];have h2:a*10+(b.toNat - 48)+1<=(a+1)*10:=by omega
  have h3:=Nat.mul_le_mul_right (10 ^ r.length) h2;have h4:(a+1)*10*10 ^ r.length=(a+1)*(10 ^ r.length*10):=by rw [Nat.mul_assoc,Nat.mul_comm 10]
  omega
theorem ME (s:Bytes)(hs:s.length<=16)(hd:s.all d3=true):∀ (k i:Nat),i+k=s.length->Ev2 (λ _ m=>fg s m (gv 0 (s.take i):Int) (i:Int)) (·=(gv 0 s:Int)):=by
 intro k
 induction k with
 | zero =>
  intro i hi;refine aw ?_;simp only [fg];refine af O (aa ?_);rw [List.take_of_length_le O]
 | succ k ih =>
  intro i hi;refine aw ?_;simp only [fg];have hil:i < s.length:=by omega
  have hb:byt s i=((s.getD i 0).toNat:Int):=cD s i
  have hm:s.getD i 0∈s:=by
   rw [List.getD_eq_getElem?_getD,List.getElem?_eq_getElem hil,ro]; exact List.getElem_mem hil
  have hdig:=mX hd hm
  have ht:s.take (i+1)=s.take i++[s.getD i 0]:=by
   rw [List.take_add_one,List.getElem?_eq_getElem hil,List.getD_eq_getElem?_getD,List.getElem?_eq_getElem hil]; rfl
  have hall:(s.take i).all d3=true:=by
   rw [py] at hd ⊢;exact λ x hx=>hd x (List.mem_of_mem_take hx)
  have hlt:=xB (s.take i) 0 hall;rw [List.length_take] at hlt;have hp:10 ^ min i s.length<=10 ^ 15:=Nat.pow_le_pow_right (by decide) O;have hp15:(10:Nat) ^ 15=1000000000000000:=rfl;have:=ih (i+1) O;rw [ht,se] at this;rw [hb];generalize s.getD i 0=b at hdig this;generalize gv 0 (s.take i)=v at hlt this;have hw:IntKind.wrap .u8 ((b.toNat:Int) - 48)=((b.toNat - 48:Nat):Int):=by rw [rh]; omega
  rw [hw];refine ae O (ag aB (ag O (ag aB (ag aB (ag aB ?_)))));rw [show ((v*10+(b.toNat - 48):Nat):Int)=10*(v:Int)+((b.toNat - 48:Nat):Int) by omega,show ((i+1:Nat):Int)=(i:Int)+1 by omega] at this;exact this
theorem MC (s:Bytes)(hs:s.length<=1000000000)(hd:s.all d3=true):Ev2 (λ n _=>kR n s) (·=AD s):=by
 simp only [kR]
 have hneg:¬ (0 < s.length/\byt s 0=45):=by
  rintro ⟨h1,h2⟩;have hb:byt s 0=((s.getD 0 0).toNat:Int):=cD s 0
  have hm:s.getD 0 0∈s:=by
   rw [List.getD_eq_getElem?_getD,List.getElem?_eq_getElem h1,ro]; exact List.getElem_mem h1
  have:=mX hd hm;omega
 refine aj false ?_ ?_
 ·refine av (λ h=>ag O (aa ?_)) (λ h=>aa Z);rw [decide_eq_false_iff_not]; intro q; exact hneg ⟨by omega,q⟩
 refine aj s oz ?_;unfold AD;refine aj (!po s) ?_ ?_
 ·refine aj _ (MY s hs) ?_
  cases po s with
  | false=>exact ae Z (aa Z)
  | true=>exact af G (af G (aa Z))
 cases hc:po s with
 | false=>exact ae Z (aa G)
 | true =>
  refine af G ?_;rw [if_pos Z];refine av (λ h=>aa (by rw [if_neg O])) (λ h=>?_);have l:=ME s O hd s.length 0 O;rw [List.take_zero,nC] at l;have hlt:=xB s 0 hd;have hp:10 ^ s.length<=10 ^ 16:=Nat.pow_le_pow_right (by decide) O;have hp16:(10:Nat) ^ 16=10000000000000000:=rfl;refine aj _ (aN l) (aj _ oz (aj (decide (gv 0 s<=9007199254740992)) ?_ ?_))
  ·simp only [jE];refine ah (·=decide (gv 0 s<=9007199254740992)) (ae O (aa (eqB ?_))) (λ t ht=>aa ht);rw [decide_eq_true_eq,decide_eq_true_eq]; omega
  ·by_cases hv:gv 0 s<=9007199254740992
   ·exact af (by simp [hv]) (aa (by rw [if_pos ⟨by omega,hv⟩]))
   ·exact ae (by simp [hv]) (aa (by rw [if_neg (λ q=>hv q.2)]))
theorem E4 {v:Int}(h0:0<=v)(h1:v<=iu):AD (itoa v)=(v,0):=by
 have hl:=Gi h0 h1;obtain ⟨u,rfl⟩:∃ u:Nat,v=u:=⟨v.toNat,by omega⟩
 have e:itoa (u:Int)=decDigits u:=by unfold itoa; rw [if_neg O]; simp
 rw [e] at hl ⊢;have hd:=DC (u+1) u O;unfold AD;rw [if_pos ((j9 _).2 ⟨hd.2.2.1,hd.2.1,hd.2.2.2.1⟩),hd.1,if_pos ⟨hl,by unfold iu at h1; omega⟩]
end Go.Ab.R06
end
section
namespace Go.Ab
set_option autoImplicit false
inductive am.Bd:am->Prop where
 | mk {x:am} (bKind:inR x.Ar) (bNum:inR x.E') (bStr:x.If.length<=iT) (bItems:x.Df.length*80<=iT) (eItems:∀ y∈x.Df,am.Bd y) (bKeys:x.C'.length*16<=iT) (eKeys:∀ y∈x.C',y.length<=iT):am.Bd x
theorem am.Bd.bKind {x:am}(h:am.Bd x):inR x.Ar:=by cases h; assumption
theorem am.Bd.bNum {x:am}(h:am.Bd x):inR x.E':=by cases h; assumption
theorem am.Bd.bStr {x:am}(h:am.Bd x):x.If.length<=iT:=by cases h; assumption
theorem am.Bd.bItems {x:am}(h:am.Bd x):x.Df.length*80<=iT:=by cases h; assumption
theorem am.Bd.eItems {x:am}(h:am.Bd x):∀ y∈x.Df,am.Bd y:=by cases h; assumption
theorem am.Bd.bKeys {x:am}(h:am.Bd x):x.C'.length*16<=iT:=by cases h; assumption
theorem am.Bd.eKeys {x:am}(h:am.Bd x):∀ y∈x.C',y.length<=iT:=by cases h; assumption
inductive ad.Bd:ad->Prop where
 | mk {x:ad} (bKind:inR x.Ar) (bOp:inR x.fOp) (bName:x.AI.length<=iT) (bKey:x.Gw.length<=iT) (bValue:am.Bd x.A') (bKids:x.By.length*160<=iT) (eKids:∀ y∈x.By,ad.Bd y) (bAt:inR x.fAt):ad.Bd x
theorem ad.Bd.bKind {x:ad}(h:ad.Bd x):inR x.Ar:=by cases h; assumption
theorem ad.Bd.bOp {x:ad}(h:ad.Bd x):inR x.fOp:=by cases h; assumption
theorem ad.Bd.bName {x:ad}(h:ad.Bd x):x.AI.length<=iT:=by cases h; assumption
theorem ad.Bd.bKey {x:ad}(h:ad.Bd x):x.Gw.length<=iT:=by cases h; assumption
theorem ad.Bd.bValue {x:ad}(h:ad.Bd x):am.Bd x.A':=by cases h; assumption
theorem ad.Bd.bKids {x:ad}(h:ad.Bd x):x.By.length*160<=iT:=by cases h; assumption
theorem ad.Bd.eKids {x:ad}(h:ad.Bd x):∀ y∈x.By,ad.Bd y:=by cases h; assumption
theorem ad.Bd.bAt {x:ad}(h:ad.Bd x):inR x.fAt:=by cases h; assumption
inductive ao.Bd:ao->Prop where
 | mk {x:ao} (bKind:inR x.Ar) (bAt:inR x.fAt) (bName:x.AI.length<=iT):ao.Bd x
theorem ao.Bd.bKind {x:ao}(h:ao.Bd x):inR x.Ar:=by cases h; assumption
theorem ao.Bd.bAt {x:ao}(h:ao.Bd x):inR x.fAt:=by cases h; assumption
theorem ao.Bd.bName {x:ao}(h:ao.Bd x):x.AI.length<=iT:=by cases h; assumption
inductive bY.Bd:bY->Prop where
 | mk {x:bY} (bcount:inR x.fcount):bY.Bd x
theorem bY.Bd.bcount {x:bY}(h:bY.Bd x):inR x.fcount:=by cases h; assumption
inductive ac.Bd:ac->Prop where
 | mk {x:ac} (bKind:inR x.Ar) (bText:x.B'.length<=iT) (bAt:inR x.fAt):ac.Bd x
theorem ac.Bd.bKind {x:ac}(h:ac.Bd x):inR x.Ar:=by cases h; assumption
theorem ac.Bd.bText {x:ac}(h:ac.Bd x):x.B'.length<=iT:=by cases h; assumption
theorem ac.Bd.bAt {x:ac}(h:ac.Bd x):inR x.fAt:=by cases h; assumption
inductive ai.Bd:ai->Prop where
 | mk {x:ai} (bL:x.fL.length*32<=iT) (eL:∀ y∈x.fL,ac.Bd y) (bI:inR x.fI) (bIn:inR x.fIn) (bD:ao.Bd x.fD):ai.Bd x
theorem ai.Bd.bL {x:ai}(h:ai.Bd x):x.fL.length*32<=iT:=by cases h; assumption
theorem ai.Bd.eL {x:ai}(h:ai.Bd x):∀ y∈x.fL,ac.Bd y:=by cases h; assumption
theorem ai.Bd.bI {x:ai}(h:ai.Bd x):inR x.fI:=by cases h; assumption
theorem ai.Bd.bIn {x:ai}(h:ai.Bd x):inR x.fIn:=by cases h; assumption
theorem ai.Bd.bD {x:ai}(h:ai.Bd x):ao.Bd x.fD:=by cases h; assumption
inductive ar.Bd:ar->Prop where
 | mk {x:ar} (bs:x.fs.length<=iT) (bat:inR x.fat) (bi:inR x.fi) (bfrom:inR x.D') (btext:x.F'.length<=iT) (bparts:x.BY.length*160<=iT) (eparts:∀ y∈x.BY,ad.Bd y):ar.Bd x
theorem ar.Bd.bs {x:ar}(h:ar.Bd x):x.fs.length<=iT:=by cases h; assumption
theorem ar.Bd.bat {x:ar}(h:ar.Bd x):inR x.fat:=by cases h; assumption
theorem ar.Bd.bi {x:ar}(h:ar.Bd x):inR x.fi:=by cases h; assumption
theorem ar.Bd.bfrom {x:ar}(h:ar.Bd x):inR x.D':=by cases h; assumption
theorem ar.Bd.btext {x:ar}(h:ar.Bd x):x.F'.length<=iT:=by cases h; assumption
theorem ar.Bd.bparts {x:ar}(h:ar.Bd x):x.BY.length*160<=iT:=by cases h; assumption
theorem ar.Bd.eparts {x:ar}(h:ar.Bd x):∀ y∈x.BY,ad.Bd y:=by cases h; assumption
inductive al.Bd:al->Prop where
 | mk {x:al} (bl:x.fl.length*32<=iT) (el:∀ y∈x.fl,ac.Bd y) (bat:inR x.fat) (bnest:inR x.H') (bbase:inR x.G') (bbad:ao.Bd x.AT):al.Bd x
theorem al.Bd.bl {x:al}(h:al.Bd x):x.fl.length*32<=iT:=by cases h; assumption
theorem al.Bd.el {x:al}(h:al.Bd x):∀ y∈x.fl,ac.Bd y:=by cases h; assumption
theorem al.Bd.bat {x:al}(h:al.Bd x):inR x.fat:=by cases h; assumption
theorem al.Bd.bnest {x:al}(h:al.Bd x):inR x.H':=by cases h; assumption
theorem al.Bd.bbase {x:al}(h:al.Bd x):inR x.G':=by cases h; assumption
theorem al.Bd.bbad {x:al}(h:al.Bd x):ao.Bd x.AT:=by cases h; assumption
end Go.Ab
end
section
namespace Go.Ab.R06
open Go.Ab Go.Ab.RB Go.Lib
section
variable {p:Prop}
theorem J4 (h:p:=by
 by_cases a:k=3
 ·simp [a]
 by_cases b:k=4
 ·simp [b]
 by_cases c:k=9
 ·simp [c]
 by_cases d:k=12
 ·simp [d]
 simp [a,b,c,d]):p:=h
theorem GF (h:p:=by
 have hn:¬ (e.Ar=3\/e.Ar=4\/e.Ar=9\/e.Ar=12\/e.Ar=13):=λ k=>hn (decide_eq_true k)
 simp only [hn,false_and,decide_false]):p:=h
theorem xT (h:p:=by
 have hi:fh e.AI=true:=by simpa using hi
 simp [hi,h4]):p:=h
theorem FX (h:p:=by
 refine av (λ hq=>aa (by rw [if_pos (of_decide_eq_true hq)])) (λ hq=>aa ?_)
 rw [if_neg (λ k=>hq (decide_eq_true k))]):p:=h
theorem Kg (h:p:=by
 have:rH v:=Classical.byContradiction λ k=>by rw [hi.2 k] at h; simp at h
 rw [zK this]):p:=h
theorem JC (h:p:=by
 have hk:v.Ar=0\/v.Ar=1\/v.Ar=2\/v.Ar=3:=by omega
 clear h0 h3
 rcases hk with h | h | h | h <;> by_cases a:v.E'=0 <;> by_cases b:v.E'=1 <;> by_cases c:v.If=[] <;> by_cases d:v.Df=[] <;> by_cases e:v.C'=[] <;> simp [h,a,b,c,d,e,Mb,I9,Ou,PX]):p:=h
theorem Af (h:p:=by exact af (by decide) (aa Z)):p:=h
theorem u5 (h:p:=by exact CV O):p:=h
end
theorem rj {P:Int->Prop}{i:Nat}(h:P ((i+1:Nat):Int)):P ((i:Int)+1):=by rwa [Int.natCast_add,Int.natCast_one] at h
theorem tP {α:Type} [Inhabited α] (l:List α){i:Nat}(h:i < l.length):l.drop i=lat l (i:Int)::l.drop (i+1):=by
 rw [m9 l i h]; exact List.drop_eq_getElem_cons h
theorem xu (s:Bytes):ed s=some (lc s):=by
 unfold ed lc PD;exact Km
def rH (v:am):Prop:=v.Ar=1/\v.E'≠0/\v.E'≠1\/v.Ar≠1/\v.Ar≠2/\v.E'≠0\/v.Ar≠3/\v.If≠[]\/v.Df≠[]\/v.C'≠[]
theorem Mb {α:Type}(l:List α):(0 < (l.length:Int))↔l≠[]:=by rw [<- List.length_pos_iff]; omega
theorem I9 {α:Type}(l:List α):((l.length:Int)=0)↔l=[]:=by rw [<- List.length_eq_zero_iff]; omega
theorem D5 (v:am)(h0:0<=v.Ar)(h3:v.Ar<=3):∃ b,j6 v=some b/\(b=true↔¬ rH v):=by
 unfold j6 rH;exact JC
theorem E7 (v:am)(h0:0<=v.Ar)(h3:v.Ar<=3):∃ b,j3 v=some b/\(b=true↔¬ rH v):=by
 unfold j3 rH;exact JC
theorem zK {v:am}(h:rH v):vC v=1:=if_pos h
theorem wk {v:am}(h:¬ rH v):vC v=if v.Ar=2/\¬ (-iu<=v.E'/\v.E'<=iu) then 5 else if v.Ar=3/\4096 < v.If.length then 3 else if v.Ar=3/\validD v.If=false then 1 else 0:=if_neg h
def xR (s:Bytes):Int:=if 4096 < s.length then 3 else if validD s=false then 1 else 0
theorem Od (s:Bytes):km s=some (xR s):=by
 unfold km xR;by_cases h:4096 < s.length
 ·rw [if_pos O,if_pos h]
 ·rw [if_neg O,if_neg h,N4,cl];have:decide (s.length<=4096)=true:=by rw [decide_eq_true_eq]; omega
  rw [this,Bool.true_and]
  cases validD s <;> rfl
theorem Qa (s:Bytes):Ev2 (λ n _=>jw n s) (·=xR s):=by
 simp only [jw];unfold xR;refine av (λ h=>aa (by rw [if_pos O])) (λ h=>?_);rw [if_neg (show ¬ 4096 < s.length by omega)];refine aj _ (Eh s O) ?_;have:decide (s.length<=4096)=true:=by rw [decide_eq_true_eq]; omega
 rw [this,Bool.true_and]
 cases validD s with
 | true=>exact af (by decide) (aa Z)
 | false=>exact ae (by decide) (aa Z)
theorem Dt:xR []=0:=by unfold xR; rw [if_neg (by decide)]; rfl
theorem ML (v:am)(h0:0<=v.Ar)(h3:v.Ar<=3):Ev2 (λ n _=>mz n v) (·=vC v):=by
 obtain ⟨b,hb,hi⟩:=D5 v h0 h3;simp only [mz];refine aj _ (ax hb rfl) (av (λ h=>aa ?_) (λ h=>?_))
 ·exact Kg
 ·have hg:¬ rH v:=hi.1 ol;rw [wk hg];by_cases h2:v.Ar=2
  ·simp only [h2,if_true,true_and];by_cases hv:-iu<=v.E'/\v.E'<=iu
   ·refine ey () (aj _ (ax (xK _) Z) (af (by simp [hv]) (aa Z))) (aa ?_);rw [if_neg (by simpa using hv),if_neg O,if_neg O]
   ·refine iC 5 (aj _ (ax (xK _) Z) (ae (by simp [hv]) (aa Z))) ?_;rw [if_pos hv]
  ·by_cases h5:v.Ar=3
   ·refine iC (xR v.If) (af h2 (ae h5 (aj _ (ax (Od _) Z) (aa Z)))) ?_;rw [if_neg O]; unfold xR; simp only [h5,true_and]
   ·refine ey () (af h2 (af h5 oO)) (aa ?_);rw [if_neg O,if_neg O,if_neg O]
theorem LI (v:am)(h0:0<=v.Ar)(h3:v.Ar<=3):Ev2 (λ n _=>mh n v) (·=vC v):=by
 obtain ⟨b,hb,hi⟩:=E7 v h0 h3;simp only [mh];refine aj _ (ax hb rfl) (av (λ h=>aa ?_) (λ h=>?_))
 ·exact Kg
 ·have hg:¬ rH v:=hi.1 ol;rw [wk hg];have nv:jE v.E'=some (decide (-iu<=v.E'/\v.E'<=iu)):=xK v.E';have tail:v.C'=[]:=by unfold rH at hg; simp only [not_or] at hg; exact Classical.not_not.1 hg.2.2.2.2
  have str:v.Ar≠3->v.If=[]:=λ k=>by unfold rH at hg; simp only [not_or] at hg; exact Classical.byContradiction λ q=>hg.2.2.1 ⟨k,q⟩
  have last:Ev2 (λ n _=>(jw n v.If).bind λ r9=>if r9=0 then jn (fX n v n 0) λ _=>some 0 else some r9) (·=xR v.If):=by
   refine aj _ (Qa _) (av (λ h=>?_) (λ h=>aa Z));refine ey () (aN (f:=λ n m=>fX n v m 0) (aw ?_)) (aa h.symm);simp only [fX];exact af (by rw [tail]; decide) (aa Z)
  by_cases h2:v.Ar=2
  ·simp only [h2,if_true,true_and];refine aj (!decide (-iu<=v.E'/\v.E'<=iu)) (aj _ (ax nv rfl) (aa rfl)) (av (λ h=>aa ?_) (λ h=>?_))
   ·rw [if_pos (λ k=>by rw [decide_eq_true k] at h; exact absurd h (by decide))]
   ·rw [if_neg (show ¬ ¬ (-iu<=v.E'/\v.E'<=iu) from λ k=>h (by rw [decide_eq_false k]; rfl)),if_neg O,if_neg O];rw [str O,Dt] at last;rw [str O];exact last
  ·refine aj false (af h2 (aa Z)) (af (by decide) ?_);rw [if_neg O];by_cases h5:v.Ar=3
   ·simp only [h5,true_and]; exact last
   ·rw [if_neg O,if_neg O];rw [str h5,Dt] at last;rw [str h5];exact last
theorem tV {v:am}(h:vC v=0):v.Df=[]:=by
 have hg:¬ rH v:=λ k=>by rw [zK k] at h; cases h
 unfold rH at hg; simp only [not_or] at hg; exact Classical.not_not.1 hg.2.2.2.1
theorem I0 (v:am)(h0:0<=v.Ar)(h3:v.Ar<=3):Ev2 (λ n _=>lj n v) (·=vC v):=by
 simp only [lj];refine ah (λ r=>r.1=vC v) (aP ?_) (λ r hr=>aa hr);simp only [f0];refine af (by decide) (af (by decide) (ag (by decide) (aj _ (ML v h0 h3) (av (λ h=>?_) (λ h=>aa rfl)))));refine ey 1 (aN (f:=λ n m=>eP (f0 n) v 1 m 0 (0+1)) (aw ?_)) (aa h.symm);simp only [eP];exact af (by rw [tV h]; decide) (aa rfl)
theorem KF (v:am)(h0:0<=v.Ar)(h3:v.Ar<=3):Ev2 (λ n _=>lg n v) (·=vC v):=by
 simp only [lg];refine ah (λ r=>r.1=vC v) (aP ?_) (λ r hr=>aa hr);simp only [ic];refine af (by decide) (af (by decide) (aj _ (LI v h0 h3) (av (λ h=>ag (by decide) ?_) (λ h=>aa rfl))));refine ey 1 (aN (f:=λ n m=>gp (ic n) v 1 m (0+1) 0) (aw ?_)) (aa h.symm);simp only [gp];exact af (by rw [tV h]; decide) (aa rfl)
theorem LW (k:Int):jy k=some (decide (k=3\/k=4\/k=9\/k=12\/k=13)):=by
 unfold jy ki;exact J4
theorem wV (k:Int):ig k=some (decide (k=3\/k=4\/k=9\/k=12\/k=13)):=by
 unfold ig io;exact J4
section
variable {α β:Type}
theorem B5 {p:Prop} [Decidable p] {a b:Option α}(h1:p->∃ r,a=some r)(h2:¬p->∃ r,b=some r):∃ r,(if p then a else b)=some r:=by
 exact I8
theorem xl {g:Option β}{k:β->Option α}(h:∃ r,g=some r)(hk:∀ x,∃ r,k x=some r):∃ r,g.bind k=some r:=by
 obtain ⟨x,rfl⟩:=h;exact hk x
theorem I5 {p:Prop} [Decidable p] {a:Option α}(hp:p)(h:∃ r,a=some r):∃ r,ck p a=some r:=by rw [bC hp]; exact h
end
theorem KC (k:Int):∃ r,io k=some r:=by unfold io; repeat' (first | exact ⟨_,rfl⟩ | refine xl ?_ (λ _=>?_) | refine B5 (λ _=>?_) (λ _=>?_) | refine I5 (by decide) ?_)
theorem Pb (k n:Int):∃ r,iq k n=some r:=by unfold iq; repeat' (first | exact ⟨_,rfl⟩ | exact KC _ | exact ⟨_,wV _⟩ | refine xl ?_ (λ _=>?_) | refine B5 (λ _=>?_) (λ _=>?_) | refine I5 (by decide) ?_)
theorem B4 (e:ad):∃ r,fH e=some r:=by unfold fH; repeat' (first | exact ⟨_,rfl⟩ | exact KC _ | exact ⟨_,wV _⟩ | exact Pb _ _ | exact NQ _ | refine xl ?_ (λ _=>?_) | refine B5 (λ _=>?_) (λ _=>?_) | refine I5 (by decide) ?_)
inductive VSz:am->Prop where
 | mk {x:am} (v:x.Df.length+x.C'.length<=1000000000000000) (sub:∀ y∈x.Df,VSz y):VSz x
theorem VSz.v {x:am}(h:VSz x):x.Df.length+x.C'.length<=1000000000000000:=by cases h; assumption
theorem A0 {k n:Int}{s:Bytes}:VSz (.mk k n s [] []):=.mk (rg _) (λ _ h=>by cases h)
inductive Sz:ad->Prop where
 | mk {x:ad} (n:x.AI.length<=1000000000000000) (k:x.Gw.length<=1000000000000000) (w:VSz x.A') (c:x.By.length<=1000000000000000) (kids:∀ y∈x.By,Sz y):Sz x
theorem Sz.n {x:ad}(h:Sz x):x.AI.length<=1000000000000000:=by cases h; assumption
theorem Sz.k {x:ad}(h:Sz x):x.Gw.length<=1000000000000000:=by cases h; assumption
theorem Sz.w {x:ad}(h:Sz x):VSz x.A':=by cases h; assumption
theorem Sz.v {x:ad}(h:Sz x):x.A'.Df.length+x.A'.C'.length<=1000000000000000:=h.w.v
theorem Sz.kids {x:ad}(h:Sz x):∀ y∈x.By,Sz y:=by cases h; assumption
theorem uz {e:ad}(hb:Sz e):fH e=some (wY e):=by
 have h:=wb e hb.v;obtain ⟨r,hr⟩:=B4 e;unfold wY;rw [h,hr]; rfl
theorem FP {e:ad}(hb:Sz e):iH e=some (wY e):=by
 rw [wb e hb.v,uz hb]
theorem qS {e:ad}(hb:Sz e)(h:wY e=true)(hk:e.Ar=1):0<=e.A'.Ar/\e.A'.Ar<=3:=by
 have h1:=uz hb;rw [h] at h1;unfold fH at h1;generalize (Option.bind (iq e.Ar (e.By.length:Int)) _:Option Bool)=o at h1
 cases o with
 | none=>cases h1
 | some t =>
  cases t with
  | true=>cases h1
  | false =>
   simp only [cl,Bool.false_eq_true,if_false,hk,if_true] at h1;by_cases a:e.fOp=0
   ·by_cases b:e.A'.Ar=0
    ·omega
    ·by_cases c:e.A'.Ar=1
     ·omega
     ·by_cases d:e.A'.Ar=3
      ·omega
      ·by_cases f:e.A'.Ar=2
       ·omega
       ·simp [a,b,c,d,f] at h1
   ·simp [a] at h1
theorem PP {e:ad}(hb:Sz e):Ev2 (λ n _=>nR n e) (·=qd e):=by
 have b1:=hb.n;have b2:=hb.k;simp only [nR];unfold qd;refine aj _ (ax (FP hb) Z) (av (λ h=>aa (by rw [if_pos ol])) (λ h=>?_));have h:wY e=true:=by simpa using h
 rw [if_neg (show ¬ wY e=false by rw [h]; decide)];refine av (λ hk=>?_) (λ hk=>?_)
 ·rw [if_pos hk];exact aj _ (I0 _ (qS hb h hk).1 (qS hb h hk).2) (aa rfl)
 rw [if_neg hk];refine aj (decide ((e.Ar=3\/e.Ar=4\/e.Ar=9\/e.Ar=12\/e.Ar=13)/\(fh e.AI=false\/e.Ar≠4/\lc e.AI=true))) ?_ ?_
 ·refine aj _ (ax (LW _) Z) (av (λ hn=>?_) (λ hn=>aa ?_))
  ·have hn:=of_decide_eq_true hn;rw [show decide ((e.Ar=3\/e.Ar=4\/e.Ar=9\/e.Ar=12\/e.Ar=13)/\(fh e.AI=false\/e.Ar≠4/\lc e.AI=true))=decide (fh e.AI=false\/e.Ar≠4/\lc e.AI=true) by simp only [hn,true_and]];refine aj _ (zo _ O) (av (λ hi=>aa ?_) (λ hi=>av (λ h4=>aa ?_) (λ h4=>aj _ vl (aa ?_))))
   ·have hi:fh e.AI=false:=by simpa using hi
    simp [hi]
   ·exact xT
   ·exact xT
  ·exact GF
 ·refine av (λ hq=>aa (by rw [if_pos (of_decide_eq_true hq)])) (λ hq=>?_);rw [if_neg (λ k=>hq (decide_eq_true k))];refine aj (decide (e.Gw≠[]/\(fh e.Gw=false\/lc e.Gw=true))) ?_ ?_
  ·refine av (λ hk=>aa (by simp [hk])) (λ hk=>?_);refine aj _ (zo _ O) (av (λ hi=>aa ?_) (λ hi=>aj _ vl (aa ?_)))
   ·have hi:fh e.Gw=false:=by simpa using hi
    simp [hi,hk]
   ·have hi:fh e.Gw=true:=by simpa using hi
    simp [hi,hk]
  ·exact FX
theorem Oc {e:ad}(hb:Sz e):Ev2 (λ n _=>mr n e) (·=qd e):=by
 have b1:=hb.n;have b2:=hb.k;simp only [mr];unfold qd;refine aj _ (ax (uz hb) Z) (av (λ h=>aa (by rw [if_pos ol])) (λ h=>?_));have h:wY e=true:=by simpa using h
 rw [if_neg (show ¬ wY e=false by rw [h]; decide)];refine av (λ hk=>?_) (λ hk=>?_)
 ·rw [if_pos hk];exact aj _ (KF _ (qS hb h hk).1 (qS hb h hk).2) (aa rfl)
 rw [if_neg hk];refine aj (decide ((e.Ar=3\/e.Ar=4\/e.Ar=9\/e.Ar=12\/e.Ar=13)/\(fh e.AI=false\/e.Ar≠4/\lc e.AI=true))) ?_ ?_
 ·refine aj _ (ax (wV _) Z) (av (λ hn=>?_) (λ hn=>aa ?_))
  ·have hn:=of_decide_eq_true hn;rw [show decide ((e.Ar=3\/e.Ar=4\/e.Ar=9\/e.Ar=12\/e.Ar=13)/\(fh e.AI=false\/e.Ar≠4/\lc e.AI=true))=decide (fh e.AI=false\/e.Ar≠4/\lc e.AI=true) by simp only [hn,true_and]];refine aj _ (wu _ O) (av (λ hi=>aa ?_) (λ hi=>av (λ h4=>aa ?_) (λ h4=>aj _ (ax (xu _) Z) (aa ?_))))
   ·have hi:fh e.AI=false:=by simpa using hi
    simp [hi]
   ·exact xT
   ·exact xT
  ·exact GF
 ·refine av (λ hq=>aa (by rw [if_pos (of_decide_eq_true hq)])) (λ hq=>?_);rw [if_neg (λ k=>hq (decide_eq_true k))];refine aj (decide (e.Gw≠[]/\(fh e.Gw=false\/lc e.Gw=true))) ?_ ?_
  ·refine av (λ hk=>aa (by simp [hk])) (λ hk=>?_);simp only [oL];refine aj (fh e.Gw&&!lc e.Gw) ?_ (aa ?_)
   ·refine aj (fh e.Gw&&!lc e.Gw) (aj _ (wu _ O) (av (λ hi=>aj _ (ax (xu _) Z) (aa ?_)) (λ hi=>aa ?_))) (aa Z)
    ·rw [hi]; rfl
    ·have hi:fh e.Gw=false:=by simpa using hi
     rw [hi]; rfl
   ·cases fh e.Gw <;> cases lc e.Gw <;> simp [hk]
  ·exact FX
theorem SA {e:ad}(hb:Sz e):∀ (c lv:Nat) (ci li:Int),ci=c->li=lv->c<=4096->lv<=33 ->
  Ev2 (λ n _=>bX n (bY.mk ci) e li) (λ r=>r.1=(p6 c lv e).1/\r.2=bY.mk (((p6 c lv e).2:Nat):Int)/\(p6 c lv e).2<=4096):=by
 induction hb with
 | @mk x sn sk sv hs skids ih =>
  intro c lv ci li hc hl h1 h2;have hb:Sz x:=.mk sn sk sv hs skids;refine aP ?_;simp only [bX];rw [CZ];refine av (λ h=>?_) (λ h=>?_)
  ·rw [if_pos O]; exact aa ⟨rfl,by rw [hc],h1⟩
  rw [if_neg (show ¬ 32 < lv by omega)];refine av (λ h5=>?_) (λ h5=>?_)
  ·rw [if_pos O]; exact aa ⟨rfl,by rw [hc],h1⟩
  rw [if_neg (show ¬ 4096<=c by omega)];refine ag aB ?_;refine aj _ (PP hb) ?_;refine av (λ h0=>?_) (λ h0=>?_)
  ·rw [if_pos h0]
   have loop:∀ (k i c:Nat) (ci:Int),i+k=x.By.length->ci=c->c<=4096->Ev2 (λ n m=>bS (bX n) x li m (i:Int) ci) (λ s=>(nB c (lv+1) (x.By.drop i)).2<=4096/\s=if (nB c (lv+1) (x.By.drop i)).1=0 then .inl (((nB c (lv+1) (x.By.drop i)).2:Nat):Int) else .inr ((nB c (lv+1) (x.By.drop i)).1,bY.mk (((nB c (lv+1) (x.By.drop i)).2:Nat):Int))):=by
    intro k
    induction k with
    | zero =>
     intro i c ci hi hc h6;refine aw ?_;simp only [bS];rw [List.drop_eq_nil_of_le O];exact af O (aa ⟨by rw [nB]; exact h6,by rw [nB,hc]; rfl⟩)
    | succ k ihk =>
     intro i c ci hi hc h6;refine aw ?_;simp only [bS];rw [tP _ (show i < x.By.length by omega),we];refine ae O (ag O (ag aB ?_));refine ah _ (ih _ u5 c (lv+1) ci (li+1) hc O h6 O) ?_;rintro ⟨r1,r2⟩ ⟨q1,q2,q3⟩;simp only at q1 q2;subst q1 q2;refine av (λ h8=>?_) (λ h8=>?_)
     ·simp only [if_pos h8];refine ag aB ?_;exact rj (P:=λ j=>Ev2 (λ n m=>bS (bX n) x li m j _) _) (ihk (i+1) _ _ O rfl q3)
     ·simp only [if_neg h8]; exact aa ⟨q3,rfl⟩
   refine cj (aQ (aN (f:=λ n m=>bS (bX n) x li m 0 (ci+1)) (loop x.By.length 0 (c+1) (ci+1) O O O)) ?_);rintro s ⟨s1,s2⟩;simp only [List.drop_zero] at s1 s2;subst s2;by_cases h9:(nB (c+1) (lv+1) x.By).1=0
   ·simp only [if_pos h9]; exact aa ⟨h9.symm,rfl,s1⟩
   ·rw [if_neg h9]; exact ⟨rfl,rfl,s1⟩
  ·rw [if_neg h0]; exact aa ⟨rfl,by rw [hc,Int.natCast_add,Int.natCast_one],by omega⟩
theorem Lt {e:ad}(hb:Sz e):Ev2 (λ n _=>lX n e) (·=chk e):=by
 simp only [lX];exact ah _ (SA hb 0 1 0 1 Z Z (by decide) (by decide)) (λ r hr=>aa hr.1)
theorem RS {e:ad}(hb:Sz e):∀ (c lv:Nat) (ci li:Int),ci=c->li=lv->c<=4096->lv<=33 ->
  Ev2 (λ n _=>dQ n e li ci) (λ r=>r.1=(p6 c lv e).1/\(r.1=0->r.2=(((p6 c lv e).2:Nat):Int))/\(p6 c lv e).2<=4096):=by
 induction hb with
 | @mk x sn sk sv hs skids ih =>
  intro c lv ci li hc hl h1 h2;have hb:Sz x:=.mk sn sk sv hs skids;refine aP ?_;simp only [dQ];rw [CZ];refine av (λ h=>?_) (λ h=>?_)
  ·rw [if_pos O]; exact aa ⟨rfl,by simp,h1⟩
  rw [if_neg (show ¬ 32 < lv by omega)];refine av (λ h5=>?_) (λ h5=>?_)
  ·rw [if_pos O]; exact aa ⟨rfl,by simp,h1⟩
  rw [if_neg (show ¬ 4096<=c by omega)];refine aj _ (Oc hb) ?_;refine ag aB ?_
  have stop:∀ (i ci kk:Int),kk≠0->Ev2 (λ n m=>cr (dQ n) x li m kk ci i) (·=(kk,ci)):=by
   intro i ci kk hk;refine aw ?_;simp only [cr];refine aj false (av (λ _=>aa (by simpa using hk)) (λ _=>aa rfl)) Af
  by_cases h0:qd x=0
  ·rw [if_pos h0,h0]
   have loop:∀ (k i c:Nat) (ci:Int),i+k=x.By.length->ci=c->c<=4096->Ev2 (λ n m=>cr (dQ n) x li m 0 ci (i:Int)) (λ s=>(nB c (lv+1) (x.By.drop i)).2<=4096/\s.1=(nB c (lv+1) (x.By.drop i)).1/\(s.1=0->s.2=(((nB c (lv+1) (x.By.drop i)).2:Nat):Int))):=by
    intro k
    induction k with
    | zero =>
     intro i c ci hi hc h6;refine aw ?_;simp only [cr];rw [List.drop_eq_nil_of_le O];refine aj false oO (af (by decide) (aa ⟨by rw [nB]; exact h6,by rw [nB],λ _=>by rw [nB]; exact hc⟩))
    | succ k ihk =>
     intro i c ci hi hc h6;refine aw ?_;simp only [cr];rw [tP _ (show i < x.By.length by omega),we];refine aj true uc (ae rfl (ag O (ag aB ?_)));refine ah _ (ih _ u5 c (lv+1) ci (li+1) hc O h6 O) ?_;rintro ⟨r1,r2⟩ ⟨q1,q2,q3⟩;simp only at q1 q2;refine ag aB ?_;by_cases h8:r1=0
     ·subst h8;have q2:=q2 rfl;simp only [if_pos q1.symm];subst q2;exact rj (P:=λ j=>Ev2 (λ n m=>cr (dQ n) x li m 0 _ j) _) (ihk (i+1) _ _ O rfl q3)
     ·simp only [if_neg (show ¬ (p6 c (lv+1) (lat x.By (i:Int))).1=0 by rw [<- q1]; exact h8)];exact aQ (stop _ _ _ h8) (λ s hs=>by subst hs; exact ⟨q3,q1,λ k=>absurd k h8⟩)
   refine ah _ (aN (f:=λ n m=>cr (dQ n) x li m 0 (ci+1) 0) (loop x.By.length 0 (c+1) (ci+1) O O O)) ?_;rintro s ⟨s1,s2,s3⟩;simp only [List.drop_zero] at s1 s2 s3;exact aa ⟨s2,s3,s1⟩
  ·rw [if_neg h0];exact ah _ (aN (f:=λ n m=>cr (dQ n) x li m (qd x) (ci+1) 0) (stop _ _ _ h0)) (λ s hs=>by subst hs; exact aa ⟨rfl,λ k=>absurd k h0,by omega⟩)
theorem L2 {e:ad}(hb:Sz e):Ev2 (λ n _=>lm n e) (·=chk e):=by
 simp only [lm];exact ah _ (RS hb 0 1 0 1 Z Z (by decide) (by decide)) (λ r hr=>aa hr.1)
mutual
def sA:ad->Nat
 | .mk _ _ _ _ _ kids _=>1+o4 kids
def o4:List ad->Nat
 | []=>0
 | x::r=>sA x+o4 r
end
theorem vM (e:ad):sA e=1+o4 e.By:=by cases e; simp only [sA,ad.By]
end Go.Ab.R06
end
section
namespace Go.Ab.R06
open Go.Ab Go.Ab.RB Go.Lib
section
variable {p:Prop}
theorem CF (h:p:=by
 exact up (i1 _ _ _ h) (List.suffix_refl _)):p:=h
theorem Qc (h:p:=by (try simp only []); omega):p:=h
theorem Ae (h:p:=by exact bv (by (try simp only []); omega) (by (try simp only []); omega)):p:=h
theorem II (h:p:=by exact rf (by decide) (by decide) (by have:=z1.2; have:=(glt g hs).2; omega) z1.1):p:=h
theorem sc (h:p:=by exact af mv (aa Z)):p:=h
theorem w6 (h:p:=by rw [ph,List.length_singleton]; omega):p:=h
end
theorem tlS (b:Bool)(l:List ac):tl b l <:+ l:=by
 unfold tl nf
 cases b
 ·exact List.tail_suffix _
 ·exact (List.tail_suffix _).trans (List.dropWhile_suffix _)
theorem t1 {b:Bool}{l m:List ac}(h:l <:+ m):tl b l <:+ m:=(tlS b l).trans h
def Gl (l:List ac):Prop:=Gd l/\l.length<=1000000000
def gQ {α:Type}(P:α->Prop)(l0:List ac)(x:PR α):Prop:=∀ q,x=some q->match q with
 | .inl e=>e.1≠0
 | .inr (a,l')=>P a/\l' <:+ l0/\Gl l'
theorem jt {α:Type}{P:α->Prop}{l0:List ac}:gQ P l0 none:=by intro q h; cases h
theorem d8 {α:Type}{P:α->Prop}{l0 l':List ac}{a:α}(p:P a)(h:l' <:+ l0)(g:Gl l'):gQ P l0 (pok a l'):=by intro q h'; cases h'; exact ⟨p,h,g⟩
theorem sJ {α:Type}{P:α->Prop}{l0:List ac}{k a:Int}(h:k≠0):gQ P l0 (per k a):=by intro q h'; cases h'; exact h
theorem cR {α:Type}{P:α->Prop}{p:Prop} [Decidable p] {l0:List ac}{x y:PR α}(h1:p->gQ P l0 x)(h2:¬p->gQ P l0 y):gQ P l0 (if p then x else y):=by
 by_cases h:p
 ·rw [if_pos h]; exact h1 h
 ·rw [if_neg h]; exact h2 h
theorem bf {α β:Type}{x:PR α}{k:α->List ac->PR β}{q:PE⊕(β×List ac)}(h:pb x k=some q):(∃ e,x=some (.inl e)/\q=.inl e)\/(∃ a l,x=some (.inr (a,l))/\k a l=some q):=by
 cases x with
 | none=>cases h
 | some y =>
  rcases y with e | ⟨a,l⟩
  ·cases h; exact .inl ⟨e,rfl,rfl⟩
  ·exact .inr ⟨a,l,Z,h⟩
theorem dA {α β:Type}{P:α->Prop}{P':β->Prop}{l0 l1:List ac}{x:PR α}{k:α->List ac->PR β}(h:gQ P l1 x)(hs:l1 <:+ l0)(hk:∀ a l',P a->l' <:+ l0->Gl l'->gQ P' l0 (k a l')):gQ P' l0 (pb x k):=by
 intro q hq;rcases bf hq with ⟨e,hx,rfl⟩ | ⟨a,l,hx,hq⟩
 ·exact h _ hx
 ·exact hk a l (h _ hx).1 ((h _ hx).2.1.trans hs) (h _ hx).2.2 q hq
theorem u7 {α:Type}{P:α->Prop}{l0 l1:List ac}{x:PR α}(h:gQ P l1 x)(hs:l1 <:+ l0):gQ P l0 x:=by
 intro q hq;have:=h q hq;rcases q with e | ⟨a,l'⟩
 ·exact this
 ·exact ⟨this.1,this.2.1.trans hs,this.2.2⟩
theorem glk {b:Bool}{l:List ac}{k:Int}(g:Gl l)(h:(hd b l).Ar=k)(hk:k≠6):Gl (tl b l):=⟨Dz (rn g.1) O,Nat.le_trans (tlS b l).length_le g.2⟩
theorem glt {b:Bool}{l:List ac}{s:Bytes}(g:Gl l)(h:sgB b l s=true):Gl (tl b l):=glk g (lN.1 h).1 (by decide)
theorem glw {b:Bool}{l:List ac}{s:Bytes}(g:Gl l)(h:wdB b l s=true):Gl (tl b l):=glk g (xY.1 h).1 (by decide)
theorem gln {b:Bool}{l:List ac}(g:Gl l):(hd b l).B'.length<=1000000000:=by
 have:=sO (rn (b:=b) g.1);have h1:=this.1;have h2:=this.2.1;omega
theorem gll {b:Bool}{l:List ac}(g:Gl l):(tl b l).length < l.length:=OS (rn g.1)
abbrev Tr {α:Type}:α->Prop:=λ _=>True
abbrev Nm:Bytes->Prop:=λ s=>s.length<=1000000000
theorem cZ {b:Bool}{s:Bytes}{l:List ac}(g:Gl l):gQ Tr (tl b l) (ei b s l):=cR (λ h=>d8 trivial (List.suffix_refl _) (glt g h)) (λ _=>sJ (by decide))
theorem AJ {b:Bool}{s:Bytes}{l:List ac}(g:Gl l):gQ Tr (tl b l) (zt b s l):=cR (λ h=>d8 trivial (List.suffix_refl _) (glw g h)) (λ _=>sJ (by decide))
theorem oX {b:Bool}{l:List ac}(g:Gl l):gQ Nm (tl b l) (wC b l):=cR (λ h=>d8 (gln g) (List.suffix_refl _) (glk g h.1 (by decide))) (λ _=>sJ (by decide))
theorem Da:∀ (f c:Nat) (l:Bytes) (e:SE),kf f c l=.inl e->e.1≠0
 | 0,c,l,e,h=>by rw [kf] at h; cases h; decide
 | f+1,c,l,e,h=>by
  rw [mg] at h
  cases hsk:fC true l with
  | nil =>
   rw [hsk,nP] at h;split at h
   ·cases h; decide
   ·cases h
  | cons b r =>
   rw [hsk,mw] at h;split at h
   ·cases h; exact (show (2:Int)≠0 by decide)
   split at h
   ·cases h; exact (show (14:Int)≠0 by decide)
   cases ht:j2 (fy f 0) (b::r) with
   | inl e' =>
    rw [ht] at h; cases h;show e'.1≠0;exact DL (λ x y hxy=>(x4 f 0).1 x y hxy) ht
   | inr z =>
    obtain ⟨k,t,l'⟩:=z;rw [ht,nU] at h
    cases hs:kf f (c+1) l' with
    | inl e'=>rw [hs] at h; cases h; exact Da f (c+1) l' _ hs
    | inr ts'=>rw [hs] at h; cases h
theorem LO {src:Bytes->SE⊕Bytes}{l:Bytes}(hsrc:∀ r r',src r=.inr r'->r'.length < r.length){c:Int}{t l':Bytes}(h:j2 src l=.inr (c,t,l')):c≠6/\t.length<=l.length/\(c=3->t.length+2<=l.length)/\(c=2->t.all d3=true):=by
 cases l with
 | nil=>cases h
 | cons b r =>
  rw [kC] at h;split at h
  ·split at h
   ·cases h
   ·cases h
    exact ⟨by decide,(List.takeWhile_prefix _).length_le,(λ h=>absurd h (by decide)),(λ h=>absurd h (by decide))⟩
  split at h
  ·cases h
   exact ⟨by decide,(List.takeWhile_prefix _).length_le,(λ h=>absurd h (by decide)),λ _=>List.all_takeWhile⟩
  split at h
  ·cases h; exact ⟨by decide,by simp,(λ h=>absurd h (by decide)),(λ h=>absurd h (by decide))⟩
  split at h
  ·split at h
   ·cases h
   ·rename_i r' hr
    cases h
    have:=hsrc r _ hr;simp only [List.length_take,aq];exact ⟨by decide,by omega,λ _=>by omega,(λ h=>absurd h (by decide))⟩
  split at h
  ·cases h
  ·rename_i hs
   cases h
   exact ⟨by decide,(qY hs).2,(λ h=>absurd h (by decide)),(λ h=>absurd h (by decide))⟩
theorem u0 (c:Bool)(l:Bytes):(fC c l).length<=l.length:=by
 have h1:=(List.dropWhile_suffix (p:=gV) (l:=l)).length_le;unfold fC;split
 ·rename_i b r hb;rw [hb] at h1;split
  ·exact Nat.le_trans (List.dropWhile_suffix _).length_le h1
  ·exact h1
 ·exact rg _
theorem yW (s:Bytes)(a:Int)(h0:0<=a)(h1:a+(s.length:Int)<=1000000000):∀ (f c:Nat) (l:Bytes) (ts:List Tk),l.length<=s.length->kf f c l=.inr ts->Gd ((ts.map (tkS s)).map (mvT a))/\(∀ t∈ts.map (tkS s),t.Ar=3->t.B'.length+2<=l.length)/\ts.length<=l.length+1
 | 0,c,l,ts,_,h=>by rw [kf] at h; cases h
 | f+1,c,l,ts,hl,h=>by
  rw [mg] at h;have hk:=u0 true l
  cases hsk:fC true l with
  | nil =>
   rw [hsk,nP] at h;split at h
   ·cases h
   ·cases h
    refine ⟨⟨⟨?_,?_,λ h=>absurd (show (6:Int)=3 from h) (by decide),λ h=>absurd (show (6:Int)=2 from h) (by decide)⟩,.inl ⟨Z,Z⟩⟩,?_,by simp⟩
    ·show 0<=(s.length:Int) - ((0:Nat):Int)+a; omega
    ·show (s.length:Int) - ((0:Nat):Int)+a+((0:Nat):Int)<=_; omega
    ·intro t ht hk; simp only [la,th,List.mem_singleton] at ht; subst ht; cases hk
  | cons b r =>
   rw [hsk] at hk;rw [hsk,mw] at h;split at h
   ·cases h
   split at h
   ·cases h
   cases ht:j2 (fy f 0) (b::r) with
   | inl e=>rw [ht] at h; cases h
   | inr z =>
    obtain ⟨k,t,l'⟩:=z;rw [ht,nU] at h;obtain ⟨b1,b2,b3,b4⟩:=LO (λ x y hxy=>((gO f 0).1 x y hxy).2) ht;have b5:=(kZ (λ x y _ hxy=>(gO f 0).1 x y hxy) ht).2
    cases hs:kf f (c+1) l' with
    | inl e=>rw [hs] at h; cases h
    | inr ts' =>
     rw [hs] at h; cases h;obtain ⟨i1,i2,i3⟩:=yW s a h0 h1 f (c+1) l' ts' O hs;have hn:(b::r).length<=s.length:=by omega
     refine ⟨⟨⟨?_,?_,?_,b4⟩,.inr ⟨b1,i1⟩⟩,?_,by simp only [aq] at i3 b5 hk ⊢; omega⟩
     ·show 0<=(s.length:Int) - ((b::r).length:Int)+a; omega
     ·show (s.length:Int) - ((b::r).length:Int)+a+(t.length:Int)<=_; omega
     ·intro XF;have:=b3 XF;show (s.length:Int) - ((b::r).length:Int)+a+1+(t.length:Int)<=_; omega
     ·intro y hy hy3;rw [la] at hy;rcases wr.1 hy with rfl | hy
      ·have:=b3 hy3;show t.length+2<=_; omega
      ·have:=i2 y hy hy3;omega
theorem q9 {s:Bytes}{a:Int}(h0:0<=a)(h1:a+(s.length:Int)<=1000000000)(h:(eG s).2.Ar=0):Gd ((eG s).1.map (mvT a))/\(∀ t∈(eG s).1,t.Ar=3->t.B'.length+2<=s.length)/\(eG s).1.length<=65537:=by
 unfold eG at h ⊢;split
 ·rename_i hl; rw [if_pos hl] at h; cases h
 ·rename_i hl;rw [if_neg hl] at h
  cases hs:kf (s.length+1) 0 s with
  | inl e =>
   rw [hs] at h;exact absurd h (Da _ _ _ e hs)
  | inr ts =>
   obtain ⟨i1,i2,i3⟩:=yW s a h0 h1 _ _ s ts (bx _) hs;refine ⟨i1,i2,?_⟩;show ([]++ts.map (tkS s)).length<=_;rw [List.nil_append,List.length_map]; omega
theorem tz {s:Bytes}{a:Int}(h0:0<=a)(h1:a+(s.length:Int)<=1000000000)(h:(eG s).2.Ar=0):Gl ((eG s).1.map (mvT a)) :=
 ⟨(q9 h0 h1 h).1,by have:=(q9 h0 h1 h).2.2; rw [List.length_map]; omega⟩
theorem iK:∀ (f:Nat),(∀ d l r,fZ f d l=some (some r)->r <:+ l/\r.length < l.length)/\(∀ l r,ix f l=some (some r)->r <:+ l/\r.length < l.length)
 | 0=>⟨λ d l r h=>(by rw [fZ] at h; cases h),λ l r h=>(by rw [ix] at h; cases h)⟩
 | f+1=>by
  obtain ⟨i1,i2⟩:=iK f;constructor
  ·intro d l r h
   cases l with
   | nil=>rw [fZ] at h; cases h
   | cons b l =>
    have up:∀ {x:Bytes},r <:+ x/\r.length < x.length->x <:+ l->r <:+ (b::l)/\r.length < (b::l).length:=λ hx hy=>⟨(hx.1.trans hy).trans (List.suffix_cons _ _),by have:=hy.length_le; rw [aq]; omega⟩
    rw [fZ] at h;split at h
    ·exact CF
    split at h
    ·split at h
     ·exact xz
     ·exact CF
    split at h
    ·cases hq:ix f l with
     | none=>rw [hq] at h; cases h
     | some y =>
      rw [hq] at h
      cases y with
      | none=>cases h
      | some r'=>exact up (i1 _ _ _ h) (i2 _ _ hq).1
    ·exact CF
  ·intro l r h
   cases l with
   | nil=>rw [ix] at h; cases h
   | cons b l =>
    have up:∀ {x:Bytes},r <:+ x/\r.length < x.length->x <:+ l->r <:+ (b::l)/\r.length < (b::l).length:=λ hx hy=>⟨(hx.1.trans hy).trans (List.suffix_cons _ _),by have:=hy.length_le; rw [aq]; omega⟩
    rw [ix] at h;split at h
    ·exact xz
    split at h
    ·exact up (i2 _ _ h) (List.drop_suffix _ _)
    split at h
    ·exact up (i2 _ _ h) (List.drop_suffix 2 l)
    split at h
    ·cases hq:fZ f 1 ((b::l).drop 2) with
     | none=>rw [hq] at h; cases h
     | some y =>
      rw [hq] at h
      cases y with
      | none=>cases h
      | some r'=>exact up (i2 _ _ h) ((i1 _ _ _ hq).1.trans (List.drop_suffix 1 l))
    ·exact up (i2 _ _ h) (List.suffix_refl _)
theorem q8 {l t:Bytes}{n:Nat}(h:iG l=.inr (t,n)):1<=n/\n<=l.length:=by
 cases l with
 | nil=>cases h
 | cons b r =>
  rw [iG] at h;split at h
  ·split at h
   ·rename_i hz
    cases h
    have:=(og r).2.2.1 hz;rw [aq]; omega
   ·cases h
  ·split at h
   ·cases h
   ·cases h
    have:=iB (b::r) G;exact ⟨this.1,this.2.1⟩
def qO {α:Type}(P:α->Prop)(x:Option (PE⊕α)):Prop:=∀ q,x=some q->match q with
 | .inl e=>e.1≠0
 | .inr a=>P a
theorem qI {α:Type}{P:α->Prop}:qO P none:=by intro e h; cases h
theorem Rz {α:Type}{P:α->Prop}{a:α}(h:P a):qO P (some (.inr a)):=by intro e h'; cases h'; exact h
theorem yO {α:Type}{P:α->Prop}{k a:Int}(h:k≠0):qO P (some (.inl (k,a))):=by intro e h'; cases h'; exact h
theorem tU {α:Type}{P:α->Prop}{p:Prop} [Decidable p] {x y:Option (PE⊕α)}(h1:p->qO P x)(h2:¬p->qO P y):qO P (if p then x else y):=by
 by_cases h:p
 ·rw [if_pos h]; exact h1 h
 ·rw [if_neg h]; exact h2 h
theorem rf {k op:Int}{nm key:Bytes}{kids:List ad}{at':Int}(n:nm.length<=1000000000)(m:key.length<=1000000000)(c:kids.length<=4000000000)(h:∀ y∈kids,Sz y):Sz (ad.mk k op nm key v0 kids at') :=
 .mk (Nat.le_trans n (by decide)) (Nat.le_trans m (by decide)) A0 (Nat.le_trans c (by decide)) h
theorem FZ (v:am)(at':Int)(h:VSz v):Sz (Ep v at'):=.mk (rg _) (rg _) h (rg _) (λ y hy=>by cases hy)
theorem Qn (s:Bytes)(at':Int):Sz (x7 s at'):=FZ _ _ A0
theorem m1 {a:ad}(h:Sz a):∀ y∈[a],Sz y:=λ y hy=>by rw [List.mem_singleton.1 hy]; exact h
theorem m2 {a b:ad}(h:Sz a)(g:Sz b):∀ y∈[a,b],Sz y:=λ y hy=>by
 rcases wr.1 hy with rfl | hy
 ·exact h
 ·exact m1 g y hy
theorem m3 {a b c:ad}(h:Sz a)(g:Sz b)(k:Sz c):∀ y∈[a,b,c],Sz y:=λ y hy=>by
 rcases wr.1 hy with rfl | hy
 ·exact h
 ·exact m2 g k y hy
def Kd (N:Nat)(ks:List ad):Prop:=(∀ y∈ks,Sz y)/\ks.length<=N
def Rd (n:Nat)(z:Int×Int×Bytes×List ad×Bool):Prop:=z.2.2.1.length<=4096/\(∀ y∈z.2.2.2.1,Sz y)/\z.2.2.2.1.length<=n
structure Fct (f:Nat):Prop where
 e:∀ b l,Gl l->gQ Sz (tl b l) (gg f b l)
 b:∀ SP b l,Gl l->gQ Sz (tl b l) (nX f SP b l)
 bl:∀ SP b x l,Sz x->Gl l->gQ Sz l (oW f SP b x l)
 u:∀ b l,Gl l->gQ Sz (tl b l) (unS f b l)
 pl:∀ b x l,Sz x->Gl l->gQ Sz l (jM f b x l)
 p:∀ b l,Gl l->gQ Sz (tl b l) (lF f b l)
 s:∀ b l,Gl l->(hd b l).Ar=3->gQ Sz (tl b l) (qz f b l)
 n:∀ b l,Gl l->(hd b l).Ar=1->gQ Sz (tl b l) (mN f b l)
 i:∀ e l,Gl l->gQ (Kd l.length) (tl true l) (ir f e l)
 t:∀ l,Gl l->gQ (Kd (2*l.length)) (tl true l) (pA f l)
 k:∀ l,Gl l->gQ Sz (tl true l) (nb f l)
 lo:∀ a k l,Gl l->gQ Sz l (lD f a k l)
 tm:∀ (s:Bytes) (a:Int),0<=a->a+(s.length:Int)<=1000000000->qO Sz (jT f s a)
 r:∀ (frm pos:Int) (text:Bytes) (parts:List ad) (Tb:Bool) (s:Bytes) (n:Nat),0<=pos->pos+(s.length:Int)<=1000000000->text.length<=4096->(∀ y∈parts,Sz y)->parts.length+2*s.length<=n->qO (Rd n) (eF f frm pos text parts Tb s)
 w:∀ (s:Bytes) (a:Int),0<=a->a+(s.length:Int)<=1000000000->qO Sz (gi f s a)
theorem lI {l p:Bytes}(h:hasPrefix l p=true):p.length<=l.length:=by
 unfold hasPrefix at h;exact (List.isPrefixOf_iff_prefix.1 h).length_le
theorem DV {s:Bytes}{k:Int}(h:iG s=.inl k):k≠0:=by
 cases s with
 | nil=>cases h; decide
 | cons b r =>
  rw [iG] at h;split at h
  ·split at h
   ·cases h
   ·cases h; assumption
  ·split at h
   ·cases h; decide
   ·cases h
theorem HB {frm pos:Int}{text:Bytes}{parts:List ad}(h:∀ y∈parts,Sz y):(∀ y∈flS frm pos text parts,Sz y)/\(flS frm pos text parts).length<=parts.length+1:=by
 unfold flS;split
 ·refine ⟨λ y hy=>?_,by simp⟩;rcases List.mem_append.1 hy with hy | hy
  ·exact h y hy
  ·rw [List.mem_singleton.1 hy]; exact Qn _ _
 ·exact ⟨h,by omega⟩
theorem uY {at':Int}{n:Nat}{z:Int×Int×Bytes×List ad×Bool}(hn:n<=3000000000)(h:Rd n z):Sz (qG at' z):=by
 obtain ⟨frm,pos,text,parts,Tb⟩:=z;obtain ⟨h1,h2,h3⟩:=h;simp only at h1 h2 h3;unfold qG;have:=HB (frm:=frm) (pos:=pos) (text:=text) h2
 cases Tb with
 | true=>exact rf (by decide) (by decide) O this.1
 | false=>exact Qn _ _
theorem Sf {e:ad}(h:Sz e)(at':Int):Sz (ad.mk e.Ar e.fOp e.AI e.Gw e.A' e.By at'):=by
 cases h with
 | mk n k v c kids=>exact .mk n k v c kids
abbrev sfx (l:List ac):l <:+ l:=List.suffix_refl l
theorem fct:∀ f,Fct f:=by
 intro f
 induction f with
 | zero =>
  constructor
  ·intro b l _; rw [gg]; exact jt
  ·intro v b l _; rw [nX]; exact jt
  ·intro v b x l _ _; rw [oW]; exact jt
  ·intro b l _; rw [unS]; exact jt
  ·intro b x l _ _; rw [jM]; exact jt
  ·intro b l _; rw [lF]; exact jt
  ·intro b l _ _; rw [qz]; exact jt
  ·intro b l _ _; rw [mN]; exact jt
  ·intro b l _; rw [ir]; exact jt
  ·intro l _; rw [pA]; exact jt
  ·intro l _; rw [nb]; exact jt
  ·intro a k l _; rw [lD]; exact jt
  ·intro s a _ _; rw [jT]; exact qI
  ·intro a b c d e g n _ _ _ _ _; rw [eF]; exact qI
  ·intro s a _ _; rw [gi]; exact qI
 | succ f ih =>
  constructor
  ·intro b l g;rw [gg];refine dA (ih.b 0 b l g) (sfx _) λ c l1 z1 s1 g1=>cR (λ hs=>?_) (λ _=>d8 z1 s1 g1);exact dA (ih.e b _ (glt g1 hs)) (t1 (t1 s1)) λ a l2 z2 s2 g2=>dA (cZ g2) (t1 s2) λ _ l3 _ s3 g3=>dA (ih.e b _ g3) (t1 s3) λ d l4 z4 s4 g4=>d8 (rf (by decide) (by decide) G (m3 z1 z2 z4)) s4 g4
  ·intro v b l g;rw [nX];exact cR (λ _=>ih.u b l g) (λ _=>dA (ih.b _ b l g) (sfx _) λ e l1 z1 s1 g1=>u7 (ih.bl v b e l1 z1 g1) s1)
  ·intro v b x l zx g;rw [oW]
   cases ha:vo b l v with
   | none=>exact d8 zx (sfx _) g
   | some p =>
    have hs:sgB b l p.1=true:=List.find?_some (p:=λ p:Bytes×Int=>sgB b l p.1) ha;exact dA (ih.b _ b _ (glt g hs)) (t1 (tlS b l)) λ y l1 z1 s1 g1=>u7 (ih.bl v b _ l1 (rf (by decide) (by decide) G (m2 zx z1)) g1) s1
  ·intro b l g;rw [unS];refine cR (λ hs=>dA (ih.u b _ (glt g hs)) (t1 (sfx _)) λ e l1 z1 s1 g1=>d8 (rf (by decide) (by decide) G (m1 z1)) s1 g1) (λ _=>cR (λ hs=>dA (ih.u b _ (glt g hs)) (t1 (sfx _)) λ e l1 z1 s1 g1=>d8 (rf (by decide) (by decide) G (m1 z1)) s1 g1) (λ _=>?_));exact dA (ih.p b l g) (sfx _) λ e l1 z1 s1 g1=>u7 (ih.pl b e l1 z1 g1) s1
  ·intro b x l zx g;rw [jM];refine cR (λ hs=>cR (λ hk=>?_) (λ _=>sJ (by decide))) (λ _=>cR (λ hs=>?_) (λ _=>d8 zx (sfx _) g))
   ·exact u7 (ih.pl b _ _ (rf (gln (glt g hs)) (by decide) G (m1 zx)) (glk (glt g hs) hk (by decide))) (t1 (tlS b l))
   ·exact dA (ih.e true _ (glt g hs)) (t1 (tlS b l)) λ y l1 z1 s1 g1=>dA (cZ g1) (t1 s1) λ _ l2 _ s2 g2=>u7 (ih.pl b _ _ (rf (by decide) (by decide) G (m2 zx z1)) g2) s2
  ·intro b l g;rw [lF];refine cR (λ hk=>cR (λ _=>d8 (FZ _ _ A0) (sfx _) (glk g hk (by decide))) (λ h=>sJ h)) (λ _=>cR (λ hk=>ih.s b l g hk) (λ _=>cR (λ hk=>ih.n b l g hk) (λ _=>?_)));refine cR (λ hs=>dA (ih.e true _ (glt g hs)) (tlS true _) λ e l1 z1 s1 g1=>dA (cZ g1) (t1 s1) λ _ l2 _ s2 g2=>d8 z1 s2 g2) (λ _=>?_);refine cR (λ hs=>cR (λ hw=>u7 (ih.lo _ _ _ (glw (glt g hs) hw)) (tlS true _)) (λ _=>dA (ih.i _ _ (glt g hs)) (tlS true _) λ ks l1 z1 s1 g1=>d8 II s1 g1)) (λ _=>?_);exact cR (λ hs=>cR (λ hw=>u7 (ih.lo _ _ _ (glw (glt g hs) hw)) (tlS true _)) (λ _=>dA (ih.t _ (glt g hs)) (tlS true _) λ ks l1 z1 s1 g1=>d8 II s1 g1)) (λ _=>sJ (by decide))
  ·intro b l g hk;rw [qz];intro q hq;have hb:=sO (rn (b:=b) g.1);have ht':=ih.tm (hd b l).B' ((hd b l).fAt+1) (by have:=hb.1; omega) (by have:=hb.2.2.1 hk; omega)
   cases ht:jT f (hd b l).B' ((hd b l).fAt+1) with
   | none=>rw [ht] at hq; cases hq
   | some y =>
    rw [ht] at hq;have ht':=ht' y ht;rcases y with e | e
    ·cases hq; exact ht'
    ·cases hq; exact ⟨Sf ht' _,sfx _,glk g hk (by decide)⟩
  ·intro b l g hk;have g1:=glk g hk (by decide);have gn:=gln (b:=b) g;rw [mN];refine cR (λ _=>d8 (FZ _ _ A0) (sfx _) g1) (λ _=>cR (λ _=>d8 (FZ _ _ A0) (sfx _) g1) (λ _=>cR (λ _=>d8 (FZ _ _ A0) (sfx _) g1) (λ _=>cR (λ _=>sJ (by decide)) (λ _=>?_))));exact cR (λ hs=>dA (ih.i _ _ (glt g1 hs)) (t1 (tlS b _)) λ ks l1 z1 s1 g2=>d8 (rf gn (by decide) (by have:=z1.2; have:=(glt g1 hs).2; omega) z1.1) s1 g2) (λ _=>d8 (rf gn (by decide) (by decide) (λ y hy=>by cases hy)) (sfx _) g1)
  ·intro e l g;have gt:=gll (b:=true) g;rw [ir];refine cR (λ hs=>d8 ⟨(λ y hy=>by cases hy),rg _⟩ (sfx _) (glt g hs)) (λ _=>dA (ih.e true l g) (sfx _) λ x l1 zx s1 g1=>cR (λ hs=>?_) (λ _=>dA (cZ g1) (t1 s1) λ _ l2 _ s2 g2=>d8 ⟨m1 zx,by simp only [List.length_singleton]; omega⟩ s2 g2));have h1:=s1.length_le;have h2:=gll (b:=true) g1
   exact dA (ih.i e _ (glt g1 hs)) (t1 (t1 s1)) λ r l2 z2 s2 g2=>d8 ⟨λ y hy=>by
    rcases wr.1 hy with rfl | hy
    ·exact zx
    ·exact z2.1 y hy,by have:=z2.2; simp only [aq]; omega⟩ s2 g2
  ·intro l g;have gt:=gll (b:=true) g;rw [pA];refine cR (λ hs=>d8 ⟨(λ y hy=>by cases hy),rg _⟩ (sfx _) (glt g hs)) (λ _=>dA (ih.k l g) (sfx _) λ k l1 z1 s1 g1=>dA (cZ g1) (t1 s1) λ _ l2 _ s2 g2=>dA (ih.e true l2 g2) (t1 s2) λ x l3 z3 s3 g3=>cR (λ hs=>?_) (λ _=>dA (cZ g3) (t1 s3) λ _ l4 _ s4 g4=>d8 ⟨m2 z1 z3,by simp only [aq,n8]; omega⟩ s4 g4));have h1:=s3.length_le;have h2:=gll (b:=true) g3
   exact dA (ih.t _ (glt g3 hs)) (t1 (t1 s3)) λ r l4 z4 s4 g4=>d8 ⟨λ y hy=>by
    rcases wr.1 hy with rfl | hy
    ·exact z1
    rcases wr.1 hy with rfl | hy
    ·exact z3
    ·exact z4.1 y hy,by have:=z4.2; simp only [aq]; omega⟩ s4 g4
  ·intro l g;rw [nb];refine cR (λ hk=>d8 (Qn _ _) (sfx _) (glk g hk (by decide))) (λ _=>cR (λ hk=>ih.s true l g hk) (λ _=>cR (λ hs=>?_) (λ _=>sJ (by decide))));exact dA (ih.e true _ (glt g hs)) (tlS true _) λ e l1 z1 s1 g1=>dA (cZ g1) (t1 s1) λ _ l2 _ s2 g2=>d8 z1 s2 g2
  ·intro a k l g;rw [lD];refine dA (oX g) (tlS true l) λ v l1 z1 s1 g1=>dA (P:=λ p:Bytes×Bytes=>p.1.length<=1000000000/\p.2.length<=1000000000) (l1:=l1) (cR (λ hs=>dA (oX (glt g1 hs)) (t1 (tlS true l1)) λ w l2 z2 s2 g2=>d8 ⟨z2,z1⟩ s2 g2) (λ _=>d8 ⟨z1,rg _⟩ (sfx _) g1)) s1 λ nk l2 zn s2 g2=>?_;refine dA (AJ g2) (t1 s2) λ _ l3 _ s3 g3=>dA (ih.e true l3 g3) (t1 s3) λ x l4 z4 s4 g4=>dA (cZ g4) (t1 s4) λ _ l5 _ s5 g5=>dA (ih.e true l5 g5) (t1 s5) λ c l6 z6 s6 g6=>?_;refine dA (P:=Kd 3) (l1:=l6) (cR (λ _=>dA (cZ g6) (tlS true l6) λ _ l7 _ s7 g7=>dA (ih.e true l7 g7) (t1 s7) λ d l8 z8 s8 g8=>d8 ⟨m3 z4 z6 z8,by simp⟩ s8 g8) (λ _=>d8 ⟨m2 z4 z6,by simp⟩ (sfx _) g6)) s6 λ ks l7 z7 s7 g7=>?_
   refine dA (P:=Kd 4) (l1:=l7) (cR (λ hw=>dA (ih.e true _ (glw g7 hw)) (t1 (tlS true l7)) λ e l8 z8 s8 g8=>d8 ⟨λ y hy=>by
    rcases List.mem_append.1 hy with hy | hy
    ·exact z7.1 y hy
    ·exact m1 z8 y hy,by have:=z7.2; rw [ph,List.length_singleton]; omega⟩ s8 g8) (λ _=>d8 ⟨z7.1,by have:=z7.2; omega⟩ (sfx _) g7)) s7 λ ks l8 z8 s8 g8=>?_
   exact dA (cZ g8) (t1 s8) λ _ l9 _ s9 g9=>d8 (rf zn.1 zn.2 (by have:=z8.2; omega) z8.1) s9 g9
  ·intro s a h0 h1;rw [jT];have hr':=ih.r a a [] [] false s (2*s.length) h0 h1 (by decide) (λ y hy=>by cases hy) G;intro q hq
   cases hr:eF f a a [] [] false s with
   | none=>rw [hr] at hq; cases hq
   | some y =>
    rw [hr] at hq;have hr':=hr' y hr;rcases y with e' | z
    ·cases hq; exact hr'
    ·have hz:Sz (qG a z):=uY O hr';simp only [pY,bt] at hq;split at hq
     ·cases hq; exact hz
     ·cases hq; assumption
  ·intro frm pos text parts Tb s n h0 h1 ht hp hn
   cases s with
   | nil=>rw [eF]; exact Rz ⟨ht,hp,by simp only [n8] at hn; omega⟩
   | cons c r =>
    have hcl:(c::r).length=r.length+1:=rfl;rw [eF];refine tU (λ hx=>tU (λ _=>yO (by decide)) (λ hl=>ih.r _ _ _ _ _ _ n O ?_ ?_ hp ?_)) (λ _=>tU (λ hx=>?_) (λ _=>?_))
    ·have:=lI hx;rw [ld]; simp only [aq,n8] at this h1 ⊢; omega
    ·rw [ph]; simp only [aq,n8]; omega
    ·rw [ld]; omega
    ·cases hc:fZ f 1 ((c::r).drop 2) with
     | none=>exact qI
     | some y =>
      cases y with
      | none=>exact yO (by decide)
      | some r' =>
       simp only [];have hr:=(iK f).1 _ _ _ hc;have hr2:=hr.2;have hr1:=hr.1.length_le;have hx:=lI hx;have hfl:=HB (frm:=frm) (pos:=pos) (text:=text) hp;rw [ld] at hr1 hr2;simp only [aq,n8] at hr1 hr2 h1 hx hn;have hw':=ih.w (((c::r).drop 2).take (((c::r).drop 2).length - r'.length - 1)) (pos+2) O (by simp only [List.length_take,ld,aq]; omega)
       cases hw:gi f (((c::r).drop 2).take (((c::r).drop 2).length - r'.length - 1)) (pos+2) with
       | none=>exact qI
       | some z =>
        have hw':=hw' z hw;rcases z with e | e
        ·intro e' h; cases h; exact hw'
        ·refine ih.r _ _ _ _ _ _ n O oB (by decide) (λ y hy=>?_) w6;rcases List.mem_append.1 hy with hy | hy
         ·exact hfl.1 y hy
         ·rw [List.mem_singleton.1 hy]; exact hw'
    ·cases hi:iG (c::r) with
     | inl k=>exact yO (DV hi)
     | inr tn =>
      have:=q8 hi;exact tU (λ _=>yO (by decide)) (λ hl=>ih.r _ _ _ _ _ _ n O iR vh hp iR)
  ·intro s a h0 h1;rw [gi];refine tU (λ h=>yO h) (λ hk=>?_);have hk:(eG s).2.Ar=0:=Classical.not_not.1 hk;have hx':=ih.e true _ (tz h0 h1 hk);intro q hq
   cases hx:gg f true ((eG s).1.map (mvT a)) with
   | none=>rw [hx] at hq; cases hq
   | some y =>
    rw [hx] at hq;have hx':=hx' y hx;rcases y with e' | ⟨x,l⟩
    ·cases hq; exact hx'
    ·simp only [] at hq;split at hq
     ·cases hq; exact hx'.1
     ·cases hq; exact (show (2:Int)≠0 by decide)
end Go.Ab.R06
end
section
namespace Go.Ab.R06
open Go.Ab Go.Ab.RB Go.Lib
section
variable {p:Prop}
theorem Gz (h:p:=by
 refine aa (aQ (vc hL M' he h3 r1 _ _ _ _ _ _ _ _ _ _) ?_);rintro _ ⟨z,rfl,j,l',hz1,hz2⟩
 exact ⟨z,Z,he,j,l',hz1,hz2⟩):p:=h
theorem xp (h:p:=by
 refine ag (by simp only [aq,n8,ph]; omega) ?_;refine ah _ (rv hL M' _ he h3) ?_;rintro _ ⟨j,rfl,h3⟩
 exact ae Z (aa ⟨he,j,l',.inl ⟨Z,h3⟩⟩)):p:=h
theorem rM (h:p:=by
 refine av (λ hk=>?_) (λ hk=>aa ⟨_,_,j,l',rfl,by simp,h3⟩);refine ah _ (AP hL M' _ he h3) ?_;rintro _ ⟨j,l',rfl,h3⟩;refine ah _ (J3 hL M' he h3) ?_;rintro ⟨z1,z2⟩ ⟨j,l',h2,h3⟩
 cases h2
 refine ag (by simp only [aq,n8,ph]; omega) ?_
 exact aa ⟨_,_,j,l',Z,by simp,h3⟩):p:=h
theorem ku (h:p:=by
 exact aa ⟨j,Z,h3⟩):p:=h
theorem GD (h:p:=by
 cases h2
 refine ag (by simp only [aq,n8,ph]; omega) ?_
 exact aa ⟨he,_,_,j,l',Z,by simp,h3⟩):p:=h
theorem BB (h:p:=by
 refine bF (ez hL M' h3 O) λ j ⟨h3,h4,h5⟩=>?_
 exact aj _ (ax Z Z) (aa ⟨Z,j,Z,h3⟩)):p:=h
theorem qv (h:p:=by
 refine ah (λ t=>∃ (ks:List ad) (j:Nat) (l':List ac),t=(ks,L,(j:Int),Mp+1,base,e.1,e.2,[])/\Pos L base j (Mp+1) true l') ?_ ?_
 ·refine ah _ (xe hL M' _ he h3) ?_;rintro _ ⟨j,rfl,h3⟩;exact af mv (aa ⟨_,j,_,rfl,h3⟩)
 rintro _ ⟨ks,j,l',rfl,h3⟩;refine ah _ (uk hL M' _ he hn hb h3) ?_;rintro _ ⟨j,l',rfl,h3⟩
 exact aa ⟨he,j,l',Z,h3⟩):p:=h
theorem Bl (h:p:=by
 cases hz
 refine ah _ (lS hL M' _ hn hb h3 hxx) ?_;rintro _ ⟨he,j,l',rfl,h3⟩
 exact aa ⟨he,j,l',Z,h3⟩):p:=h
theorem j8 (h:p:=by
 cases hq
 exact aa ⟨Z,j,Z,h3⟩):p:=h
theorem JU (h:p:=by
 rw [if_pos hs] at hq; cases hq;refine af (by simp [hs]) (aa ⟨j,l,by rw [List.append_nil],h3,?_⟩)
 unfold ei; rw [if_pos hs]; rfl):p:=h
theorem xj (h:p:=by
 refine ah _ (uk hL M' _ he hn hb h3) ?_;rintro _ ⟨j,l',rfl,h3⟩
 exact aa ⟨he,j,l',Z,h3⟩):p:=h
theorem G8 (h:p:=by
 refine ah _ (hc _ hx) ?_;rintro ⟨z1,z2⟩ ⟨h,j,h3,h4⟩;replace h:z1=_:=h; subst h; cases h3
 exact h2 _ l j hx h4 hq):p:=h
theorem KB (h:p:=by
 rintro ⟨ks,z⟩ hz;rcases q with e | ⟨ks',l'⟩
 ·obtain ⟨he,j,l',⟨hz,h3⟩ | ⟨hz,h3,h4⟩⟩:=hz
  ·cases hz; exact aa ⟨he,j,l',.inl ⟨rfl,h3⟩⟩
  ·cases hz; exact aa ⟨he,j,l',.inr ⟨rfl,h3,h4⟩⟩
 ·obtain ⟨j,l'',hz,h3,h4⟩:=hz
  cases hz; exact aa ⟨j,l'',rfl,rfl,h3,h4⟩):p:=h
theorem kx (h:p:=by exact J3 hL M' he h3):p:=h
theorem Bj (h:p:=by exact uk hL M' _ he hn hb h3):p:=h
theorem Gy (h:p:=by exact bv (by show _<=(hd b l).fAt+1; omega) (by show (hd b l).fAt+1<=_; omega)):p:=h
theorem cu (h:p:=by simp only [aq,n8,ph]; omega):p:=h
theorem nA (h:p:=by exact xH hL M' _ h3):p:=h
theorem ql (h:p:=by exact AP hL M' _ he h3):p:=h
theorem xN (h:p:=by exact Er hL M' _ he h3):p:=h
theorem wz (h:p:=by exact ae s2 (aa Z)):p:=h
theorem Aw (h:p:=by exact lS hL M' _ hn hb h3 hxx):p:=h
theorem Ce (h:p:=by have:=gl.2; simp only [n8]; omega):p:=h
theorem xF (h:p:=by exact He ih _ _ gl L base hL M' j (Mp+1) _ h3 hx):p:=h
theorem rF (h:p:=by simpa using hs):p:=h
end
theorem lS {L:List ac}{base:Int}(hL:Gd (L.map (mvT base)))(M':L.length<=1000000000){i:Nat}{Mp:Int}{b:Bool}{l:List ac}(s:Bytes){q:PE⊕(Unit×List ac)}(h0:0<=Mp)(hb:b=decide (0 < Mp))(h:Pos L base i (Mp+1) true l)(hq:ei true s l=some q) :
  Ev2 (λ n _=>bw n (.mk L (i:Int) (Mp+1) base dOk) s) (FB L base Mp b q):=by subst hb; exact KW hL M' s h0 h hq
theorem uk {L:List ac}{base:Int}(hL:Gd (L.map (mvT base)))(M':L.length<=1000000000){i:Nat}{Mp:Int}{b:Bool}{l:List ac}{e:PE}(s:Bytes)(he:e.1≠0)(h0:0<=Mp)(hb:b=decide (0 < Mp))(h:Pos L base i (Mp+1) true l) :
  Ev2 (λ n _=>bw n (.mk L (i:Int) (Mp+1) base (eD e)) s) (λ z=>∃ (j:Nat) (l':List ac),z=.mk L (j:Int) Mp base (eD e)/\Pos L base j Mp b l'):=by subst hb; exact LN hL M' s he h0 h
theorem sg6 {b:Bool}{l:List ac}{s:Bytes}(h:sgB b l s=true):(hd b l).Ar≠6:=by have:=(lN.1 h).1; omega
theorem wd6 {b:Bool}{l:List ac}{s:Bytes}(h:wdB b l s=true):(hd b l).Ar≠6:=by have:=(xY.1 h).1; omega
theorem yQ (e:ad):ad.mk e.Ar e.fOp e.AI e.Gw (am.mk e.A'.Ar e.A'.E' e.A'.If e.A'.Df e.A'.C') e.By e.fAt=e:=by
 obtain ⟨k,op,nm,key,⟨vk,vn,vs,vi,vks⟩,kids,at'⟩:=e; rfl
def Fl {α:Type}(F:Nat->al->Option (α×al))(b:Bool)(l:List ac)(x:PR α):Prop :=
 ∀ (L:List ac) (base:Int),Gd (L.map (mvT base))->L.length<=1000000000->∀ (i:Nat) (Mp:Int) (q:PE⊕(α×List ac)),Pos L base i Mp b l->x=some q->Ev2 (λ n _=>F n (.mk L (i:Int) Mp base dOk)) (Out L base Mp b q)
def FlC {α:Type}(F:Nat->al->Option (α×al))(l:List ac)(x:PR α):Prop :=
 ∀ (L:List ac) (base:Int),Gd (L.map (mvT base))->L.length<=1000000000->∀ (i:Nat) (Mp:Int) (b:Bool) (q:PE⊕(α×List ac)),0<=Mp->b=decide (0 < Mp)->Pos L base i (Mp+1) true l->x=some q->Ev2 (λ n _=>F n (.mk L (i:Int) (Mp+1) base dOk)) (Out L base Mp b q)
def MW (L:List ac)(base Mp:Int)(en:Bytes)(out:List ad)(q:PE⊕(List ad×List ac))(r:List ad×List ac×Int×Int×Int×Int×Int×Bytes):Prop:=match q with
 | .inl e=>e.1≠0/\∃ (j:Nat) (l':List ac),((r.2=(L,(j:Int),Mp,base,e.1,e.2,[])/\Pos L base j Mp true l')\/(r.2=(L,(j:Int),Mp,base,0,0,[])/\Pos L base j Mp true l'/\ei true en l'=some (.inl e)))
 | .inr (ks,l')=>∃ (j:Nat) (l'':List ac),r=(out++ks,L,(j:Int),Mp,base,0,0,[])/\Pos L base j Mp true l''/\ei true en l''=some (.inr ((),l'))
def RdO (s:Bytes)(a:Int)(q:PE⊕(Int×Int×Bytes×List ad×Bool))(r:(Bytes×Int×Int×Int×Bytes×(List ad)×Bool)⊕(ao×ar)):Prop:=match q with
 | .inl e=>e.1≠0/\∃ t,r=.inr (eD e,t)
 | .inr (frm,pos,text,parts,Tb)=>∃ (i fr:Nat),frm=a+(fr:Int)/\pos=a+(i:Int)/\fr<=i/\i<=s.length/\parts.length<=2*i/\r=.inl (s,a,(i:Int),(fr:Int),text,parts,Tb)
def OC (q:PE⊕ad)(r:ad×ao):Prop:=match q with
 | .inl e=>e.1≠0/\r.2=eD e
 | .inr x=>r=(x,dOk)
structure Fol (f:Nat):Prop where
 e:∀ b l,Fl aC b l (gg f b l)
 b:∀ (SP:Nat) (li:Int) b l,li=SP->SP<=6->Fl (λ n p=>a8 n p li) b l (nX f SP b l)
 bl:∀ (SP:Nat) (li:Int) b l (x:ad) (r5:ad×al),li=SP->SP<=5->x.fAt=r5.1.fAt->∀ (L:List ac) (base:Int),Gd (L.map (mvT base))->L.length<=1000000000->∀ (i:Nat) (Mp:Int) (q:PE⊕(ad×List ac)),Pos L base i Mp b l->oW f SP b x l=some q ->
  Ev2 (λ n m=>bR n (a8 n) li r5 m x.Ar x.fOp x.AI x.Gw x.A'.Ar x.A'.E' x.A'.If x.A'.Df x.A'.C' x.By L (i:Int) Mp base 0 0 []) (λ s=>∃ z,s=.inr z/\Out L base Mp b q z)
 u:∀ b l,Fl cT b l (unS f b l)
 pl:∀ b l (x:ad) (r1:ad×al),x.fAt=r1.1.fAt->∀ (L:List ac) (base:Int),Gd (L.map (mvT base))->L.length<=1000000000->∀ (i:Nat) (Mp:Int) (q:PE⊕(ad×List ac)),Pos L base i Mp b l->jM f b x l=some q ->
  Ev2 (λ n m=>bK n (aC n) r1 m x.Ar x.fOp x.AI x.Gw x.A'.Ar x.A'.E' x.A'.If x.A'.Df x.A'.C' x.By L (i:Int) Mp base 0 0 []) (λ s=>∃ z,s=.inr z/\Out L base Mp b q z)
 p:∀ b l,Fl cJ b l (lF f b l)
 s:∀ b l,(hd b l).Ar=3->Fl eJ b l (qz f b l)
 n:∀ b l,(hd b l).Ar=1->Fl ga b l (mN f b l)
 i:∀ (en:Bytes) (l:List ac) (out:List ad),Gd l->out.length+l.length<=1000000000->∀ (L:List ac) (base:Int),Gd (L.map (mvT base))->L.length<=1000000000->∀ (i:Nat) (Mp:Int) (q:PE⊕(List ad×List ac)),Pos L base i Mp true l->ir f en l=some q ->
  Ev2 (λ n m=>cH n (aC n) en m out L (i:Int) Mp base 0 0 []) (MW L base Mp en out q)
 t:∀ (l:List ac) (out:List ad),Gl l->out.length+2*l.length<=3000000000->∀ (L:List ac) (base:Int),Gd (L.map (mvT base))->L.length<=1000000000->∀ (i:Nat) (Mp:Int) (q:PE⊕(List ad×List ac)),Pos L base i Mp true l->pA f l=some q ->
  Ev2 (λ n m=>cg n (aC n) (de n) m out L (i:Int) Mp base 0 0 []) (MW L base Mp [125] out q)
 k:∀ l,Fl de true l (nb f l)
 lo:∀ (a k:Int) l,wdB true l [102,111,114]=true->k=12\/k=13->FlC (λ n p=>eO n p a k) l (lD f a k (tl true l))
 tm:∀ (s:Bytes) (a:Int) q,0<=a->a+(s.length:Int)<=1000000000->jT f s a=some q->Ev2 (λ n _=>iA n s a) (·=sf q)
 r:∀ (s:Bytes) (a:Int) (i fr:Nat) (text:Bytes) (parts:List ad) (Tb:Bool) q,0<=a->a+(s.length:Int)<=1000000000->i<=s.length->fr<=i->text.length<=4096->parts.length<=2*i->eF f (a+(fr:Int)) (a+(i:Int)) text parts Tb (s.drop i)=some q ->
  Ev2 (λ n m=>b7 n (aM n) m s a (i:Int) (fr:Int) text parts Tb) (RdO s a q)
 w:∀ (s:Bytes) (a:Int) q,0<=a->a+(s.length:Int)<=1000000000->gi f s a=some q->Ev2 (λ n _=>ip n s a) (OC q)
theorem pF {α β γ:Type}{L:List ac}{base Mp:Int}{b:Bool}{x:PR α}{k:α->List ac->PR β}{q:PE⊕(β×List ac)}{f:Nat->Nat->Option (α×al)}{g:Nat->Nat->α×al->Option γ}{P:γ->Prop}(hq:pb x k=some q)
  (hc:∀ q',x=some q'->Ev2 f (Out L base Mp b q')) (h1:∀ e z (j:Nat) l',e.1≠0->Pos L base j Mp b l'->.inl e=q->Ev2 (λ n m=>g n m (z,.mk L (j:Int) Mp base (eD e))) P)
  (h2:∀ a l (j:Nat),x=some (.inr (a,l))->Pos L base j Mp b l->k a l=some q->Ev2 (λ n m=>g n m (a,.mk L (j:Int) Mp base dOk)) P):Ev2 (λ n m=>(f n m).bind (g n m)) P:=by
 rcases bf hq with ⟨e,hx,rfl⟩ | ⟨a,l,hx,hq⟩
 ·refine ah _ (hc _ hx) ?_;rintro ⟨z1,z2⟩ ⟨he,j,l',h3,h4⟩
  cases h3
  exact h1 e z1 j l' he h4 Z
 ·exact G8
theorem sG {β γ:Type}{L:List ac}{base Mp:Int}{b:Bool}{x:PR Unit}{k:Unit->List ac->PR β}{q:PE⊕(β×List ac)}{f:Nat->Nat->Option al}{g:Nat->Nat->al->Option γ}{P:γ->Prop}(hq:pb x k=some q)
  (hc:∀ q',x=some q'->Ev2 f (FB L base Mp b q')) (h1:∀ e (j:Nat) l',e.1≠0->Pos L base j Mp b l'->.inl e=q->Ev2 (λ n m=>g n m (.mk L (j:Int) Mp base (eD e))) P)
  (h2:∀ l (j:Nat),x=some (.inr ((),l))->Pos L base j Mp b l->(L.drop j).map (mvT base)=l->k () l=some q->Ev2 (λ n m=>g n m (.mk L (j:Int) Mp base dOk)) P):Ev2 (λ n m=>(f n m).bind (g n m)) P:=by
 rcases bf hq with ⟨e,hx,rfl⟩ | ⟨a,l,hx,hq⟩
 ·refine ah _ (hc _ hx) ?_;rintro _ ⟨he,j,l',rfl,h4⟩;exact h1 e j l' he h4 rfl
 ·refine ah _ (hc _ hx) ?_;rintro _ ⟨j,rfl,h3,h4⟩;exact h2 l j hx h3 h4 hq
theorem EE {p:Prop}(h:p:=by
 rintro e z1 j l' he h3 rfl
 repeat' first
  | exact aa ⟨he,j,l',Z,h3⟩
  | exact ae Z (aa ⟨he,j,l',Z,h3⟩)
  | (refine ah _ ql ?_; rintro _ ⟨j,l',rfl,h3⟩)
  | (refine ah _ xN ?_; rintro _ ⟨j,l',rfl,h3⟩)
  | (refine ah _ Bj ?_; rintro _ ⟨j,l',rfl,h3⟩)
  | (refine ah _ kx ?_; rintro ⟨z1,z2⟩ ⟨j,l',h2,h3⟩; cases h2)
  | (refine ah _ (uq hL M' he h3) ?_; rintro ⟨z1,z2⟩ ⟨j,l',h2,h3⟩; cases h2)
  | (refine ah _ rZ ?_; rintro _ ⟨j,rfl,h3⟩)
  | (refine ah _ (xe hL M' _ he h3) ?_; rintro _ ⟨j,rfl,h3⟩)):p:=h
theorem EX {p:Prop}(h:p:=by
 rintro e j l' he h3 rfl
 repeat' first
  | exact aa ⟨he,j,l',Z,h3⟩
  | exact ae Z (aa ⟨he,j,l',Z,h3⟩)
  | (refine ah _ ql ?_; rintro _ ⟨j,l',rfl,h3⟩)
  | (refine ah _ xN ?_; rintro _ ⟨j,l',rfl,h3⟩)
  | (refine ah _ Bj ?_; rintro _ ⟨j,l',rfl,h3⟩)
  | (refine ah _ kx ?_; rintro ⟨z1,z2⟩ ⟨j,l',h2,h3⟩; cases h2)
  | (refine ah _ (uq hL M' he h3) ?_; rintro ⟨z1,z2⟩ ⟨j,l',h2,h3⟩; cases h2)
  | (refine ah _ rZ ?_; rintro _ ⟨j,rfl,h3⟩)
  | (refine ah _ (xe hL M' _ he h3) ?_; rintro _ ⟨j,rfl,h3⟩)):p:=h
theorem Ru {f:Nat}(ih:Fol f):∀ b l,Fl aC b l (gg (f+1) b l):=by
 intro b l L base hL M' i Mp q h hq;rw [gg] at hq;refine aP ?_;simp only [aC];refine pF hq (λ _ hx=>ih.b 0 0 b l rfl (by decide) L base hL M' i Mp _ h hx) ?_ ?_
 ·exact EE
 intro c l1 j hx h3 hq;refine bF nA λ j h3=>?_;by_cases hs:sgB b l1 [63]=true
 ·
  rw [if_pos hs] at hq;refine af (by simp [hs]) ?_;refine bF (ez hL M' h3 (sg6 hs)) λ j ⟨h3,h4,h5⟩=>?_;refine pF hq (λ _ hx=>ih.e b _ L base hL M' j Mp _ h3 hx) ?_ ?_
  ·exact EE
  intro a l2 j hx h3 hq;refine sG hq (λ _ hx=>oG hL M' _ h3 hx) ?_ ?_
  ·exact EX
  intro l3 j hx h3 h4 hq;refine pF hq (λ _ hx=>ih.e b _ L base hL M' j Mp _ h3 hx) ?_ ?_
  ·exact EE
  intro d l4 j hx h3 hq;exact j8
 ·
  rw [if_neg hs] at hq; cases hq;exact ae rF ov
theorem Sd {f:Nat}(ih:Fol f):∀ (SP:Nat) (li:Int) b l,li=SP->SP<=6->Fl (λ n p=>a8 n p li) b l (nX (f+1) SP b l):=by
 intro SP li b l X5 h6 L base hL M' i Mp q h hq;rw [nX] at hq;refine aP ?_;simp only [a8];by_cases hv:5 < SP
 ·
  rw [if_pos hv] at hq;refine ae O ?_;refine ah _ (ih.u b l L base hL M' i Mp _ h hq) ?_;exact jA
 ·
  rw [if_neg hv] at hq;refine af O (ag aB ?_);refine pF hq (λ _ hx=>ih.b (SP+1) (li+1) b l O O  L base hL M' i Mp _ h hx) ?_ ?_
  ·
   rintro e z1 j l' he h3 rfl;subst X5;refine cj (aQ Ks ?_);rintro _ ⟨z,rfl,j,l',hz1,hz2⟩;exact ⟨he,j,l',hz1,hz2⟩
  intro c l1 j hx h3 hq;refine cj (aQ (aN (ih.bl SP li b _ _ (_,.mk L (j:Int) Mp base dOk) X5 O rfl L base hL M' j Mp q h3 hq)) ?_);exact xd
theorem OP {f:Nat}(ih:Fol f):∀ (SP:Nat) (li:Int) b l (x:ad) (r5:ad×al),li=SP->SP<=5->x.fAt=r5.1.fAt->∀ (L:List ac) (base:Int),Gd (L.map (mvT base))->L.length<=1000000000->∀ (i:Nat) (Mp:Int) (q:PE⊕(ad×List ac)),Pos L base i Mp b l->oW (f+1) SP b x l=some q ->
  Ev2 (λ n m=>bR n (a8 n) li r5 m x.Ar x.fOp x.AI x.Gw x.A'.Ar x.A'.E' x.A'.If x.A'.Df x.A'.C' x.By L (i:Int) Mp base 0 0 []) (λ s=>∃ z,s=.inr z/\Out L base Mp b q z):=by
 intro SP li b l x r5 X5 hl5 S8 L base hL M' i Mp q h hq;rw [oW] at hq;refine aw ?_;simp only [bR];subst X5;refine aj _ (ax (yl hl5) rfl) ?_;have ha:=GK hL M' ((iv SP).map (·.1)) DY h;rw [Gb] at ha;have eta:ad.mk x.Ar x.fOp x.AI x.Gw (am.mk x.A'.Ar x.A'.E' x.A'.If x.A'.Df x.A'.C') x.By r5.1.fAt=x:=by rw [<- S8]; exact yQ x
 rw [eta]
 cases hp:vo b l SP with
 | none =>
  rw [hp] at ha hq
  cases hq
  refine ah _ ha ?_;rintro _ ⟨j,rfl,h3⟩;exact ae rfl (aa ⟨_,rfl,rfl,j,rfl,h3⟩)
 | some p =>
  rw [hp] at ha hq;obtain ⟨hm,hs⟩:=Dg hp;refine ah _ ha ?_;rintro _ ⟨j,rfl,h3⟩;refine af mv ?_;refine bF (ez hL M' h3 (sg6 hs)) λ j ⟨h3,h4,h5⟩=>?_;refine ag aB ?_;have hq:pb (nX f (SP+1) b (tl b l)) (λ y l=>oW f SP b (ad.mk 7 p.2 [] [] v0 [x,y] x.fAt) l)=some q:=hq;refine pF hq (λ _ hx=>ih.b (SP+1) ((SP:Int)+1) b _ O O  L base hL M' j Mp _ h3 hx) ?_ ?_
  ·
   rintro e z1 j l' he h3 rfl;refine aj _ (NL hl5 hm) ?_;refine aQ (v6 hL M' he h3 hl5 r5 _ _ _ _ _ _ _ _ _ _) ?_;rintro _ ⟨z,rfl,j,l',hz1,hz2⟩;exact ⟨z,rfl,he,j,l',hz1,hz2⟩
  intro y l1 j hx h3 hq;refine aj _ (NL hl5 hm) ?_;exact ih.bl SP SP b _ (ad.mk 7 p.2 [] [] v0 [x,_] x.fAt) r5 rfl hl5 S8 L base hL M' j Mp q h3 hq
theorem HA {f:Nat}(ih:Fol f):∀ b l,Fl dp b l (pb (lF f b l) λ e l=>jM f b e l):=by
 intro b l L base hL M' i Mp q h hq;refine aP ?_;simp only [dp];refine pF hq (λ _ hx=>ih.p b l L base hL M' i Mp _ h hx) ?_ ?_
 ·
  rintro e z1 j l' he h3 rfl;refine cj (aQ IR ?_);rintro _ ⟨z,rfl,j,l',hz1,hz2⟩;exact ⟨he,j,l',hz1,hz2⟩
 intro c l1 j hx h3 hq;refine cj (aQ (aN (ih.pl b _ _ (_,.mk L (j:Int) Mp base dOk) rfl L base hL M' j Mp q h3 hq)) ?_);exact xd
theorem SB {f:Nat}(ih:Fol f):∀ b l,Fl cT b l (unS (f+1) b l):=by
 intro b l L base hL M' i Mp q h hq;rw [unS] at hq;refine aP ?_;simp only [cT];by_cases hs:sgB b l [33]=true
 ·
  rw [if_pos hs] at hq;refine ah (λ t=>∃ j:Nat,t=(1,L,(j:Int),Mp,base,0,0,[])/\Pos L base j Mp b l) ?_ ?_
  ·
   refine bF qq λ j h3=>?_;exact ae hs qA
  ·
   rintro _ ⟨j,rfl,h3⟩;refine af (show ¬ (1:Int)=0 by decide) ?_;refine bF (ez hL M' h3 (sg6 hs)) λ j ⟨h3,h4,h5⟩=>?_;refine pF hq (λ _ hx=>ih.u b _ L base hL M' j Mp _ h3 hx) ?_ ?_
   ·exact EE
   intro c l1 j hx h3 hq;exact j8
 rw [if_neg hs] at hq;by_cases hs2:sgB b l [45]=true
 ·
  rw [if_pos hs2] at hq;refine ah (λ t=>∃ j:Nat,t=(2,L,(j:Int),Mp,base,0,0,[])/\Pos L base j Mp b l) ?_ ?_
  ·
   refine bF qq λ j h3=>?_;refine af hs ?_;refine bF nA λ j h3=>?_;exact ae hs2 qA
  ·
   rintro _ ⟨j,rfl,h3⟩;refine af (show ¬ (2:Int)=0 by decide) ?_;refine bF (ez hL M' h3 (sg6 hs2)) λ j ⟨h3,h4,h5⟩=>?_;refine pF hq (λ _ hx=>ih.u b _ L base hL M' j Mp _ h3 hx) ?_ ?_
   ·exact EE
   intro c l1 j hx h3 hq;exact j8
 rw [if_neg hs2] at hq;refine ah (λ t=>∃ j:Nat,t=(0,L,(j:Int),Mp,base,0,0,[])/\Pos L base j Mp b l) ?_ ?_
 ·
  refine bF qq λ j h3=>?_;refine af hs ?_;refine bF nA λ j h3=>?_;exact af hs2 qA
 ·
  rintro _ ⟨j,rfl,h3⟩;refine ae rfl ?_;refine ah _ (HA ih b l L base hL M' j Mp _ h3 hq) ?_;exact jA
theorem N0 {f:Nat}(ih:Fol f):∀ b l (x:ad) (r1:ad×al),x.fAt=r1.1.fAt->∀ (L:List ac) (base:Int),Gd (L.map (mvT base))->L.length<=1000000000->∀ (i:Nat) (Mp:Int) (q:PE⊕(ad×List ac)),Pos L base i Mp b l->jM (f+1) b x l=some q ->
  Ev2 (λ n m=>bK n (aC n) r1 m x.Ar x.fOp x.AI x.Gw x.A'.Ar x.A'.E' x.A'.If x.A'.Df x.A'.C' x.By L (i:Int) Mp base 0 0 []) (λ s=>∃ z,s=.inr z/\Out L base Mp b q z):=by
 intro b l x r1 S8 L base hL M' i Mp q h hq;have hn:=h.2.1;have hb:=h.2.2.2.1;rw [jM] at hq;refine aw ?_;simp only [bK];have eta:ad.mk x.Ar x.fOp x.AI x.Gw (am.mk x.A'.Ar x.A'.E' x.A'.If x.A'.Df x.A'.C') x.By r1.1.fAt=x:=by rw [<- S8]; exact yQ x
 rw [eta];refine cj ?_;refine bF qq λ j h3=>?_;by_cases hs:sgB b l [46]=true
 ·
  rw [if_pos hs] at hq;refine ae hs ?_;refine bF (ez hL M' h3 (sg6 hs)) λ j ⟨h3,h4,h5⟩=>?_;refine bF (gB hL M' h3) λ j ⟨h3,h4,h5⟩=>?_;by_cases hk:(hd b (tl b l)).Ar=1
  ·
   rw [if_pos hk] at hq;refine ae hk ?_;refine bF (ez hL M' h3 O) λ j ⟨h3,h4,h5⟩=>?_;exact aa (ih.pl b _ (ad.mk 4 0 (hd b (tl b l)).B' [] v0 [x] x.fAt) r1 S8 L base hL M' j Mp q h3 hq)
  ·
   rw [if_neg hk] at hq; cases hq;refine af hk (aj _ wN (aa ⟨_,rfl,(by decide:(2:Int)≠0),j,_,rfl,h3⟩))
 rw [if_neg hs] at hq;refine af hs ?_;refine bF nA λ j h3=>?_;by_cases hs2:sgB b l [91]=true
 ·
  rw [if_pos hs2] at hq;refine ae hs2 ?_;refine ah _ (pJ hL M' h3 (sg6 hs2)) ?_;rintro _ ⟨j,rfl,h3⟩;refine pF hq (λ _ hx=>ih.e true _ L base hL M' j (Mp+1) _ h3 hx) ?_ ?_
  ·
   rintro e z1 j l' he h3 rfl;refine ah _ Bj ?_;rintro _ ⟨j,l',rfl,h3⟩;exact Gz
  intro y l1 j hx h3 hq;refine sG hq (λ _ hx=>lS hL M' _ hn hb h3 hx) ?_ ?_
  ·
   rintro e j l' he h3 rfl;exact Gz
  intro l2 j hx h3 h4 hq;exact aa (ih.pl b _ (ad.mk 5 0 [] [] v0 [x,_] x.fAt) r1 S8 L base hL M' j Mp q h3 hq)
 ·
  rw [if_neg hs2] at hq; cases hq;exact af hs2 (aa ⟨_,rfl,rfl,j,rfl,h3⟩)
theorem Pos.gl {L:List ac}{base:Int}(hL:Gd (L.map (mvT base)))(M':L.length<=1000000000){i:Nat}{Mp:Int}{b:Bool}{l:List ac}(h:Pos L base i Mp b l)(hk:(hd b l).Ar≠6):Gl (tl b l):=by
 refine ⟨Dz (h.gd hL) hk,?_⟩;have h1:=congrArg List.length (qg (h.gd hL));have h2:=congrArg List.length h.2.2.2.2;have h3:=Ch b ((L.drop i).map (mvT base));rw [List.length_map,ld] at h3;rw [aq] at h1;omega
theorem Dn {b:Bool}{s:Bytes}{l:List ac}{e:PE}(h:ei b s l=some (.inl e)):e.1≠0:=by
 unfold ei at h;split at h
 ·cases h
 ·cases h; exact (show (2:Int)≠0 by decide)
def LP (L:List ac)(base Mp:Int)(en:Bytes)(q:PE⊕(List ad×List ac))(r:List ad×al):Prop:=match q with
 | .inl e=>e.1≠0/\∃ (j:Nat) (l':List ac),(r.2=.mk L (j:Int) Mp base (eD e)/\Pos L base j Mp true l')\/(r.2=.mk L (j:Int) Mp base dOk/\Pos L base j Mp true l'/\ei true en l'=some (.inl e))
 | .inr (ks,l')=>∃ (j:Nat) (l'':List ac),r.1=ks/\r.2=.mk L (j:Int) Mp base dOk/\Pos L base j Mp true l''/\ei true en l''=some (.inr ((),l'))
theorem He {f:Nat}(ih:Fol f):∀ (en:Bytes) (l:List ac),Gl l->∀ (L:List ac) (base:Int),Gd (L.map (mvT base))->L.length<=1000000000->∀ (i:Nat) (Mp:Int) (q:PE⊕(List ad×List ac)),Pos L base i Mp true l->ir f en l=some q ->
  Ev2 (λ n _=>ge n (.mk L (i:Int) Mp base dOk) en) (LP L base Mp en q):=by
 intro en l gl L base hL M' i Mp q h hq;refine aP ?_;simp only [ge];refine ah _ (aN (ih.i en l [] gl.1 Ce L base hL M' i Mp q h hq)) ?_;exact KB
theorem CU {f:Nat}(ih:Fol f):∀ (l:List ac),Gl l->∀ (L:List ac) (base:Int),Gd (L.map (mvT base))->L.length<=1000000000->∀ (i:Nat) (Mp:Int) (q:PE⊕(List ad×List ac)),Pos L base i Mp true l->pA f l=some q ->
  Ev2 (λ n _=>fE n (.mk L (i:Int) Mp base dOk)) (LP L base Mp [125] q):=by
 intro l gl L base hL M' i Mp q h hq;refine aP ?_;simp only [fE];refine ah _ (aN (ih.t l [] gl Ce L base hL M' i Mp q h hq)) ?_;exact KB
theorem Sq {f:Nat}(ih:Fol f):∀ b l,Fl cJ b l (lF (f+1) b l):=by
 intro b l L base hL M' i Mp q h hq;have hn:=h.2.1;have hb:=h.2.2.2.1;rw [lF] at hq;refine aP ?_;simp only [cJ,aR,cl];refine af mv ?_;refine bF (gB hL M' h) λ j ⟨h3,h4,h5⟩=>?_;have tk:=sO (h3.gd hL);have t1':=tk.1;have t2':=tk.2.1;by_cases k2:(hd b l).Ar=2
 ·
  rw [if_pos k2] at hq;refine ae k2 (aj _ (yt _ (show (hd b l).B'.length<=1000000000 by omega)) ?_);by_cases hz:(oy (hd b l).B').2=0
  ·
   rw [if_pos hz] at hq; cases hq;refine ae hz ?_;exact BB
  ·
   rw [if_neg hz] at hq; cases hq;exact af hz (aj _ wN (aa ⟨hz,j,l,rfl,h3⟩))
 rw [if_neg k2] at hq;refine af k2 ?_;by_cases k3:(hd b l).Ar=3
 ·
  rw [if_pos k3] at hq;refine ae k3 (ah _ (ih.s b l k3 L base hL M' j Mp q h3 hq) ?_);exact jA
 rw [if_neg k3] at hq;refine af k3 ?_;by_cases k1:(hd b l).Ar=1
 ·
  rw [if_pos k1] at hq;refine ae k1 (ah _ (ih.n b l k1 L base hL M' j Mp q h3 hq) ?_);exact jA
 rw [if_neg k1] at hq;refine af k1 ?_;by_cases k4:(hd b l).Ar=4
 ·
  have sg:∀ s,sgB b l s=true↔(hd b l).B'=s:=λ s=>by rw [lN]; exact ⟨λ h=>h.2,λ h=>⟨k4,h⟩⟩
  refine ae k4 (ah (Out L base Mp b q) (aP ?_) (λ z hz=>aa hz));simp only [gG];refine bF (gB hL M' h3) λ j ⟨h3,h4,h5⟩=>?_;by_cases s1:(hd b l).B'=[40]
  ·
   rw [if_pos ((sg _).2 s1)] at hq;refine ae s1 ?_;refine ah _ (pJ hL M' h3 O) ?_;rintro _ ⟨j,rfl,h3⟩;refine pF hq (λ _ hx=>ih.e true _ L base hL M' j (Mp+1) _ h3 hx) ?_ ?_
   ·exact EE
   intro c l1 j hx h3 hq;refine sG hq (λ _ hx=>lS hL M' _ hn hb h3 hx) ?_ ?_
   ·exact EX
   intro l2 j hx h3 h4 hq;exact j8
  rw [if_neg (λ h=>s1 ((sg _).1 h))] at hq;refine af s1 ?_;by_cases s2:(hd b l).B'=[91]
  ·
   rw [if_pos ((sg _).2 s2)] at hq;refine ae s2 ?_;have gl:=h3.gl hL M' (by omega:(hd b l).Ar≠6);refine ah _ (pJ hL M' h3 O) ?_;rintro _ ⟨j,rfl,h3⟩;refine bF (rp hL M' _ h3) λ j h3=>?_;by_cases hw:wdB true (tl b l) [102,111,114]=true
   ·
    rw [if_pos hw] at hq;refine ae hw (ah _ (ih.lo (hd b l).fAt 12 (tl b l) hw (by decide) L base hL M' j Mp b q hn hb h3 hq) ?_);exact jA
   ·
    rw [if_neg hw] at hq;refine af hw ?_;rcases bf hq with ⟨e,hx,rfl⟩ | ⟨ks,l1,hx,hq⟩
    ·
     refine ah _ xF ?_;rintro ⟨ys,z⟩ ⟨he,j,l',⟨hz,h3⟩ | ⟨hz,h3,hxx⟩⟩
     ·cases hz
      exact xj
     ·exact Bl
    ·
     refine ah _ xF ?_;rintro ⟨ys,z⟩ ⟨j,l'',hy,hz,h3,hxx⟩
     cases hy; cases hz
     refine ah _ Aw ?_;rintro _ ⟨j,rfl,h3,h4⟩;exact j8
  rw [if_neg (λ h=>s2 ((sg _).1 h))] at hq;refine af s2 ?_;by_cases s3:(hd b l).B'=[123]
  ·
   rw [if_pos ((sg _).2 s3)] at hq;refine ae s3 ?_;have gl:=h3.gl hL M' (by omega:(hd b l).Ar≠6);refine ah _ (pJ hL M' h3 O) ?_;rintro _ ⟨j,rfl,h3⟩;refine bF (rp hL M' _ h3) λ j h3=>?_;by_cases hw:wdB true (tl b l) [102,111,114]=true
   ·
    rw [if_pos hw] at hq;refine ae hw (ah _ (ih.lo (hd b l).fAt 13 (tl b l) hw (by decide) L base hL M' j Mp b q hn hb h3 hq) ?_);exact jA
   ·
    rw [if_neg hw] at hq;refine af hw ?_;rcases bf hq with ⟨e,hx,rfl⟩ | ⟨ks,l1,hx,hq⟩
    ·
     refine ah _ (CU ih _ gl L base hL M' j (Mp+1) _ h3 hx) ?_;rintro ⟨ys,z⟩ ⟨he,j,l',⟨hz,h3⟩ | ⟨hz,h3,hxx⟩⟩
     ·cases hz
      exact xj
     ·exact Bl
    ·
     refine ah _ (CU ih _ gl L base hL M' j (Mp+1) _ h3 hx) ?_;rintro ⟨ys,z⟩ ⟨j,l'',hy,hz,h3,hxx⟩
     cases hy; cases hz
     refine ah _ Aw ?_;rintro _ ⟨j,rfl,h3,h4⟩;exact j8
  rw [if_neg (λ h=>s3 ((sg _).1 h))] at hq; cases hq;exact af s3 tX
 ·
  have sn:∀ s,¬ sgB b l s=true:=λ s h=>k4 (lN.1 h).1;rw [if_neg (sn _),if_neg (sn _),if_neg (sn _)] at hq; cases hq;exact af k4 tX
theorem Sb {f:Nat}(ih:Fol f):∀ b l,(hd b l).Ar=1->Fl ga b l (mN (f+1) b l):=by
 intro b l k1 L base hL M' i Mp q h hq;have hn:=h.2.1;have hb:=h.2.2.2.1;rw [mN] at hq;refine aP ?_;simp only [ga];refine bF (gB hL M' h) λ j ⟨h3,h4,h5⟩=>?_;by_cases s1:(hd b l).B'=[110,117,108,108]
 ·
  rw [if_pos s1] at hq; cases hq;refine ae s1 ?_;exact BB
 rw [if_neg s1] at hq;refine af s1 ?_;by_cases s2:(hd b l).B'=[116,114,117,101]
 ·
  rw [if_pos s2] at hq; cases hq;refine aj true wz (ae rfl ?_);refine bF (ez hL M' h3 O) λ j ⟨h3,h4,h5⟩=>?_;exact aj 1 wz (aj _ oN ov)
 rw [if_neg s2] at hq;by_cases s3:(hd b l).B'=[102,97,108,115,101]
 ·
  rw [if_pos s3] at hq; cases hq;refine aj true (af s2 (aa (decide_eq_true s3))) (ae rfl ?_);refine bF (ez hL M' h3 O) λ j ⟨h3,h4,h5⟩=>?_;exact aj 0 (af s2 (aa rfl)) (aj _ oN ov)
 rw [if_neg s3] at hq;refine aj false (af s2 (aa (decide_eq_false s3))) (af mv (aj _ vl ?_));by_cases s4:lc (hd b l).B'=true
 ·
  rw [if_pos s4] at hq; cases hq;exact ae s4 tX
 rw [if_neg s4] at hq;refine af s4 ?_;refine bF (ez hL M' h3 O) λ j ⟨h3,h4,h5⟩=>?_;refine bF nA λ j h3=>?_;by_cases s5:sgB b (tl b l) [40]=true
 ·
  rw [if_pos s5] at hq;refine af (by simp [s5]) ?_;have gl:=h3.gl hL M' (sg6 s5);refine ah _ (pJ hL M' h3 (sg6 s5)) ?_;rintro _ ⟨j,rfl,h3⟩;rcases bf hq with ⟨e,hx,rfl⟩ | ⟨ks,l1,hx,hq⟩
  ·
   refine ah _ xF ?_;rintro ⟨ys,z⟩ ⟨he,j,l',⟨hz,h3⟩ | ⟨hz,h3,hxx⟩⟩
   ·cases hz
    exact xj
   ·exact Bl
  ·
   refine ah _ xF ?_;rintro ⟨ys,z⟩ ⟨j,l'',hy,hz,h3,hxx⟩
   cases hy; cases hz
   refine ah _ Aw ?_;rintro _ ⟨j,rfl,h3,h4⟩;exact j8
 ·
  rw [if_neg s5] at hq; cases hq;exact ae (by simpa using s5) ov
theorem RL {f:Nat}(ih:Fol f):∀ (en:Bytes) (l:List ac) (out:List ad),Gd l->out.length+l.length<=1000000000->∀ (L:List ac) (base:Int),Gd (L.map (mvT base))->L.length<=1000000000->∀ (i:Nat) (Mp:Int) (q:PE⊕(List ad×List ac)),Pos L base i Mp true l->ir (f+1) en l=some q ->
  Ev2 (λ n m=>cH n (aC n) en m out L (i:Int) Mp base 0 0 []) (MW L base Mp en out q):=by
 intro en l out hg SQ L base hL M' i Mp q h hq;have gl:Gl l:=⟨hg,by omega⟩
 have gt:=gll (b:=true) gl;rw [ir] at hq;refine aw ?_;simp only [cH,aR,cl];refine ah (λ t=>∃ j:Nat,t=(!sgB true l en,L,(j:Int),Mp,base,0,0,[])/\Pos L base j Mp true l) ?_ ?_
 ·
  refine ae Z ?_;refine bF qq λ j h3=>?_;exact ku
 rintro _ ⟨j,rfl,h3⟩;by_cases hs:sgB true l en=true
 ·
  exact JU
 rw [if_neg hs] at hq;refine ae rF ?_;refine pF hq (λ _ hx=>ih.e true l L base hL M' j Mp _ h3 hx) ?_ ?_
 ·
  rintro e z1 j l' he h3 rfl;exact xp
 intro x l1 j hx h3 hq;have f1:=(fct f).e true l gl _ hx;refine ag cu ?_;refine bF nA λ j h3=>?_;by_cases hc:sgB true l1 [44]=true
 ·
  rw [if_pos hc] at hq;refine af (by simp [hc]) ?_;have b1:=f1.2.1.length_le;have b2:=gll (b:=true) f1.2.2;have g2:=glt f1.2.2 hc;refine bF (ez hL M' h3 (sg6 hc)) λ j ⟨h3,h4,h5⟩=>?_;rcases bf hq with ⟨e,hy,rfl⟩ | ⟨ks,l2,hy,hq⟩
  ·
   exact aQ (ih.i en _ (out++[_]) g2.1 kw L base hL M' j Mp _ h3 hy) (λ r hr=>hr)
  ·
   cases hq
   refine aQ (ih.i en _ (out++[_]) g2.1 kw L base hL M' j Mp _ h3 hy) ?_;rintro r ⟨j,l'',rfl,h3,hn⟩;exact ⟨j,l'',by rw [List.append_assoc]; rfl,h3,hn⟩
 ·
  rw [if_neg hc] at hq;refine ae (by simpa using hc) ?_;rcases bf hq with ⟨e,hy,rfl⟩ | ⟨u,l2,hy,hq⟩
  ·exact aa ⟨Dn hy,j,l1,.inr ⟨Z,h3,hy⟩⟩
  ·cases hq
   exact aa ⟨j,l1,Z,h3,hy⟩
theorem RD {f:Nat}(ih:Fol f):∀ (l:List ac) (out:List ad),Gl l->out.length+2*l.length<=3000000000->∀ (L:List ac) (base:Int),Gd (L.map (mvT base))->L.length<=1000000000->∀ (i:Nat) (Mp:Int) (q:PE⊕(List ad×List ac)),Pos L base i Mp true l->pA (f+1) l=some q ->
  Ev2 (λ n m=>cg n (aC n) (de n) m out L (i:Int) Mp base 0 0 []) (MW L base Mp [125] out q):=by
 intro l out gl SQ L base hL M' i Mp q h hq;have hgn:=qg (h.gd hL);rw [pA] at hq;refine aw ?_;simp only [cg,aR,cl];refine ah (λ t=>∃ j:Nat,t=(!sgB true l [125],L,(j:Int),Mp,base,0,0,[])/\Pos L base j Mp true l) ?_ ?_
 ·
  refine ae Z ?_;refine bF qq λ j h3=>?_;exact ku
 rintro _ ⟨j,rfl,h3⟩;by_cases hs:sgB true l [125]=true
 ·
  exact JU
 rw [if_neg hs] at hq;refine ae rF ?_;refine pF hq (λ _ hx=>ih.k l L base hL M' j Mp _ h3 hx) ?_ ?_
 ·
  rintro e z1 j l' he h3 rfl;refine ag cu ?_;refine ah _ ql ?_;rintro _ ⟨j,l',rfl,h3⟩;refine ah _ kx ?_;rintro ⟨z1,z2⟩ ⟨j,l',h2,h3⟩
  cases h2
  exact xp
 intro x l1 j hx h3 hq;refine ag cu ?_;refine sG hq (λ _ hy=>oG hL M' _ h3 hy) ?_ ?_
 ·
  rintro e j l' he h3 rfl;refine ah _ kx ?_;rintro ⟨z1,z2⟩ ⟨j,l',h2,h3⟩
  cases h2
  exact xp
 intro l2 j hy h3 h4 hq;refine pF hq (λ _ hv=>ih.e true l2 L base hL M' j Mp _ h3 hv) ?_ ?_
 ·
  rintro e z1 j l' he h3 rfl;exact xp
 intro y l3 j hv h3 hq;refine ag cu ?_;refine bF nA λ j h3=>?_;by_cases hc:sgB true l3 [44]=true
 ·
  rw [if_pos hc] at hq;refine af (by simp [hc]) ?_;have gt:=gll (b:=true) gl;have f1:=(fct f).k l gl _ hx;have f2:=cZ (b:=true) (s:=[61]) f1.2.2 _ hy;have f3:=(fct f).e true l2 f2.2.2 _ hv;have b1:=f1.2.1.length_le;have b2:=(f2.2.1.trans (tlS true l1)).length_le;have b3:=(f3.2.1.trans (tlS true l2)).length_le;have b4:=gll (b:=true) f3.2.2;have g2:=glt f3.2.2 hc;refine bF (ez hL M' h3 (sg6 hc)) λ j ⟨h3,h4,h5⟩=>?_;rcases bf hq with ⟨e,hr,rfl⟩ | ⟨ks,l4,hr,hq⟩
  ·
   exact aQ (ih.t _ ((out++[_])++[_]) g2 kw L base hL M' j Mp _ h3 hr) (λ r hr=>hr)
  ·
   cases hq
   refine aQ (ih.t _ ((out++[_])++[_]) g2 kw L base hL M' j Mp _ h3 hr) ?_;rintro r ⟨j,l'',rfl,h3,hn⟩;exact ⟨j,l'',by rw [List.append_assoc,List.append_assoc]; rfl,h3,hn⟩
 ·
  rw [if_neg hc] at hq;refine ae (by simpa using hc) ?_;rcases bf hq with ⟨e,hr,rfl⟩ | ⟨u,l4,hr,hq⟩
  ·exact aa ⟨Dn hr,j,l3,.inr ⟨Z,h3,hr⟩⟩
  ·cases hq
   exact aa ⟨j,l3,by rw [List.append_assoc]; rfl,h3,hr⟩
theorem R9 {f:Nat}(ih:Fol f):∀ l,Fl de true l (nb (f+1) l):=by
 intro l L base hL M' i Mp q h hq;have hn:=h.2.1;have hb:=h.2.2.2.1;rw [nb] at hq;refine aP ?_;simp only [de];refine bF (gB hL M' h) λ j ⟨h3,h4,h5⟩=>?_;by_cases k1:(hd true l).Ar=1
 ·
  rw [if_pos k1] at hq; cases hq;refine ae k1 ?_;exact BB
 rw [if_neg k1] at hq;refine af k1 ?_;by_cases k3:(hd true l).Ar=3
 ·
  rw [if_pos k3] at hq;refine ae k3 (ah _ (ih.s true l k3 L base hL M' j Mp q h3 hq) ?_);exact jA
 rw [if_neg k3] at hq;refine af k3 ?_;refine bF nA λ j h3=>?_;by_cases s1:sgB true l [40]=true
 ·
  rw [if_pos s1] at hq;refine ae s1 ?_;refine ah _ (pJ hL M' h3 (sg6 s1)) ?_;rintro _ ⟨j,rfl,h3⟩;refine pF hq (λ _ hx=>ih.e true _ L base hL M' j (Mp+1) _ h3 hx) ?_ ?_
  ·exact EE
  intro c l1 j hx h3 hq;refine sG hq (λ _ hx=>lS hL M' _ hn hb h3 hx) ?_ ?_
  ·exact EX
  intro l2 j hx h3 h4 hq;exact j8
 ·
  rw [if_neg s1] at hq; cases hq;exact af s1 tX
theorem Og {f:Nat}(ih:Fol f):∀ (a k:Int) l,wdB true l [102,111,114]=true->k=12\/k=13->FlC (λ n p=>eO n p a k) l (lD (f+1) a k (tl true l)):=by
 intro a k l hw hk L base hL M' i Mp b q hn hb h hq;rw [lD] at hq;refine aP ?_;simp only [eO];refine bF (ez hL M' h (wd6 hw)) λ j ⟨h3,h4,h5⟩=>?_;refine pF hq (λ _ hx=>o5 hL M' h3 hx) ?_ ?_
 ·
  rintro e z1 j l' he h3 rfl;refine ah (λ t=>∃ (w1 w2:Bytes) (j:Nat) (l':List ac),t=(w1,w2,L,(j:Int),Mp+1,base,e.1,e.2,[])/\Pos L base j (Mp+1) true l') ?_ ?_
  ·refine ah _ rZ ?_;rintro _ ⟨j,rfl,h3⟩;exact af mv (aa ⟨_,_,j,_,rfl,h3⟩)
  rintro _ ⟨w1,w2,j,l',rfl,h3⟩;refine ah _ xN ?_;rintro _ ⟨j,l',rfl,h3⟩;refine ah _ kx ?_;rintro ⟨z1,z2⟩ ⟨j,l',h2,h3⟩
  cases h2
  refine ag cu ?_;refine ah _ ql ?_;rintro _ ⟨j,l',rfl,h3⟩;refine ah _ kx ?_;rintro ⟨z1,z2⟩ ⟨j,l',h2,h3⟩
  cases h2
  refine ag cu ?_;refine ah (λ t=>∃ (en:Bytes) (ks:List ad) (j:Nat) (l':List ac),t=(en,ks,L,(j:Int),Mp+1,base,e.1,e.2,[])/\ks.length<=3/\Pos L base j (Mp+1) true l') ?_ ?_
  ·exact rM
  rintro _ ⟨en,ks,j,l',rfl,hks,h3⟩;exact qv
 intro v l1 j hx h3 hq;rcases bf hq with ⟨e,hy,rfl⟩ | ⟨nk,l2,hy,hq⟩
 ·
  refine ah (λ t=>e.1≠0/\∃ (w1 w2:Bytes) (j:Nat) (l':List ac),t=(w1,w2,L,(j:Int),Mp+1,base,e.1,e.2,[])/\Pos L base j (Mp+1) true l') ?_ ?_
  ·
   refine bF nA λ j h3=>?_;by_cases hc:sgB true l1 [44]=true
   ·
    rw [if_pos hc] at hy;refine ae hc ?_;refine bF (ez hL M' h3 (sg6 hc)) λ j ⟨h3,h4,h5⟩=>?_;rcases bf hy with ⟨e,hz,hee⟩ | ⟨v2,l3,hz,hee⟩
    ·cases hee
     refine ah _ (o5 hL M' h3 hz) ?_;rintro ⟨z1,z2⟩ ⟨he,j,l',h2,h3⟩
     cases h2
     exact aa ⟨he,_,_,j,l',Z,h3⟩
    ·cases hee
   ·
    rw [if_neg hc] at hy; cases hy
  rintro _ ⟨he,w1,w2,j,l',rfl,h3⟩;refine ah _ xN ?_;rintro _ ⟨j,l',rfl,h3⟩;refine ah _ kx ?_;rintro ⟨z1,z2⟩ ⟨j,l',h2,h3⟩
  cases h2
  refine ag cu ?_;refine ah _ ql ?_;rintro _ ⟨j,l',rfl,h3⟩;refine ah _ kx ?_;rintro ⟨z1,z2⟩ ⟨j,l',h2,h3⟩
  cases h2
  refine ag cu ?_;refine ah (λ t=>∃ (en:Bytes) (ks:List ad) (j:Nat) (l':List ac),t=(en,ks,L,(j:Int),Mp+1,base,e.1,e.2,[])/\ks.length<=3/\Pos L base j (Mp+1) true l') ?_ ?_
  ·exact rM
  rintro _ ⟨en,ks,j,l',rfl,hks,h3⟩;exact qv
 ·
  refine ah (λ t=>∃ (j:Nat),t=(nk.1,nk.2,L,(j:Int),Mp+1,base,0,0,[])/\Pos L base j (Mp+1) true l2) ?_ ?_
  ·
   refine bF nA λ j h3=>?_;by_cases hc:sgB true l1 [44]=true
   ·
    rw [if_pos hc] at hy;refine ae hc ?_;refine bF (ez hL M' h3 (sg6 hc)) λ j ⟨h3,h4,h5⟩=>?_;rcases bf hy with ⟨e,hz,hee⟩ | ⟨v2,l3,hz,hee⟩
    ·cases hee
    ·
     refine bF (o5 hL M' h3 hz) λ j h3=>?_
     cases hee
     exact ku
   ·
    rw [if_neg hc] at hy; cases hy;exact af hc qA
  rintro _ ⟨j,rfl,h3⟩;refine sG hq (λ _ hx=>AE hL M' _ h3 hx) ?_ ?_
  ·
   rintro e j l' he h3 rfl;refine ah _ kx ?_;rintro ⟨z1,z2⟩ ⟨j,l',h2,h3⟩
   cases h2
   refine ag cu ?_;refine ah _ ql ?_;rintro _ ⟨j,l',rfl,h3⟩;refine ah _ kx ?_;rintro ⟨z1,z2⟩ ⟨j,l',h2,h3⟩
   cases h2
   refine ag cu ?_;refine ah (λ t=>∃ (en:Bytes) (ks:List ad) (j:Nat) (l':List ac),t=(en,ks,L,(j:Int),Mp+1,base,e.1,e.2,[])/\ks.length<=3/\Pos L base j (Mp+1) true l') ?_ ?_
   ·exact rM
   rintro _ ⟨en,ks,j,l',rfl,hks,h3⟩;exact qv
  intro l3 j hx h3 h4 hq;refine pF hq (λ _ hx=>ih.e true l3 L base hL M' j (Mp+1) _ h3 hx) ?_ ?_
  ·
   rintro e z1 j l' he h3 rfl;refine ag cu ?_;refine ah _ ql ?_;rintro _ ⟨j,l',rfl,h3⟩;refine ah _ kx ?_;rintro ⟨z1,z2⟩ ⟨j,l',h2,h3⟩
   cases h2
   refine ag cu ?_;refine ah (λ t=>∃ (en:Bytes) (ks:List ad) (j:Nat) (l':List ac),t=(en,ks,L,(j:Int),Mp+1,base,e.1,e.2,[])/\ks.length<=3/\Pos L base j (Mp+1) true l') ?_ ?_
   ·exact rM
   rintro _ ⟨en,ks,j,l',rfl,hks,h3⟩;exact qv
  intro x l4 j hx h3 hq;refine ag cu ?_;refine sG hq (λ _ hx=>oG hL M' _ h3 hx) ?_ ?_
  ·
   rintro e j l' he h3 rfl;refine ah _ kx ?_;rintro ⟨z1,z2⟩ ⟨j,l',h2,h3⟩
   cases h2
   refine ag cu ?_;refine ah (λ t=>∃ (en:Bytes) (ks:List ad) (j:Nat) (l':List ac),t=(en,ks,L,(j:Int),Mp+1,base,e.1,e.2,[])/\ks.length<=3/\Pos L base j (Mp+1) true l') ?_ ?_
   ·exact rM
   rintro _ ⟨en,ks,j,l',rfl,hks,h3⟩;exact qv
  intro l5 j hx h3 h4 hq;refine pF hq (λ _ hx=>ih.e true l5 L base hL M' j (Mp+1) _ h3 hx) ?_ ?_
  ·
   rintro e z1 j l' he h3 rfl;refine ag cu ?_;refine ah (λ t=>∃ (en:Bytes) (ks:List ad) (j:Nat) (l':List ac),t=(en,ks,L,(j:Int),Mp+1,base,e.1,e.2,[])/\ks.length<=3/\Pos L base j (Mp+1) true l') ?_ ?_
   ·exact rM
   rintro _ ⟨en,ks,j,l',rfl,hks,h3⟩;exact qv
  intro c l6 j hx h3 hq;refine ag cu ?_;rcases bf hq with ⟨e,hy,rfl⟩ | ⟨ks,l7,hy,hq⟩
  ·
   refine ah (λ t=>e.1≠0/\∃ (en:Bytes) (ks:List ad) (j:Nat) (l':List ac),t=(en,ks,L,(j:Int),Mp+1,base,e.1,e.2,[])/\ks.length<=3/\Pos L base j (Mp+1) true l') ?_ ?_
   ·refine av (λ hk=>?_) (λ hk=>?_)
    ·
     rw [if_pos hk] at hy;rcases bf hy with ⟨e,hz,hee⟩ | ⟨u,l8,hz,hy⟩
     ·cases hee
      refine ah _ (oG hL M' _ h3 hz) ?_;rintro _ ⟨he,j,l',rfl,h3⟩;refine ah _ kx ?_;rintro ⟨z1,z2⟩ ⟨j,l',h2,h3⟩;exact GD
     ·
      refine ah _ (oG hL M' _ h3 hz) ?_;rintro _ ⟨j,rfl,h3,h4⟩;rcases bf hy with ⟨e,hz,hee⟩ | ⟨d,l9,hz,hee⟩
      ·cases hee
       refine ah _ (ih.e true l8 L base hL M' j (Mp+1) _ h3 hz) ?_;rintro ⟨z1,z2⟩ ⟨he,j,l',h2,h3⟩;exact GD
      ·cases hee
    ·rw [if_neg hk] at hy; cases hy
   rintro _ ⟨he,en,ks,j,l',rfl,hks,h3⟩;exact qv
  ·
   refine ah (λ t=>∃ (j:Nat),t=((if k=13 then [125] else [93]:Bytes),ks,L,(j:Int),Mp+1,base,0,0,[])/\ks.length<=3/\Pos L base j (Mp+1) true l7) ?_ ?_
   ·refine av (λ hk=>?_) (λ hk=>?_)
    ·
     rw [if_pos hk] at hy;rcases bf hy with ⟨e,hz,hee⟩ | ⟨u,l8,hz,hy⟩
     ·cases hee
     ·
      refine ah _ (oG hL M' _ h3 hz) ?_;rintro _ ⟨j,rfl,h3,h4⟩;rcases bf hy with ⟨e,hz,hee⟩ | ⟨d,l9,hz,hee⟩
      ·cases hee
      ·
       refine bF (ih.e true l8 L base hL M' j (Mp+1) _ h3 hz) λ j h3=>?_;refine ag cu ?_
       cases hee
       exact aa ⟨j,by rw [if_pos hk]; rfl,by simp,h3⟩
    ·rw [if_neg hk] at hy; cases hy;exact aa ⟨j,by rw [if_neg hk]; rfl,by simp,h3⟩
   rintro _ ⟨j,rfl,hks,h3⟩;rcases bf hq with ⟨e,hy,rfl⟩ | ⟨ks2,l8,hy,hq⟩
   ·
    refine ah (λ t=>e.1≠0/\∃ (ks:List ad) (j:Nat) (l':List ac),t=(ks,L,(j:Int),Mp+1,base,e.1,e.2,[])/\Pos L base j (Mp+1) true l') ?_ ?_
    ·
     refine bF (rp hL M' _ h3) λ j h3=>?_;by_cases hc:wdB true l7 [105,102]=true
     ·
      rw [if_pos hc] at hy;refine ae hc ?_;refine bF (ez hL M' h3 (wd6 hc)) λ j ⟨h3,h4,h5⟩=>?_;rcases bf hy with ⟨e,hz,hee⟩ | ⟨d,l9,hz,hee⟩
      ·cases hee
       refine ah _ (ih.e true _ L base hL M' j (Mp+1) _ h3 hz) ?_;rintro ⟨z1,z2⟩ ⟨he,j,l',h2,h3⟩
       cases h2
       refine ag cu ?_;exact aa ⟨he,_,j,l',Z,h3⟩
      ·cases hee
     ·
      rw [if_neg hc] at hy; cases hy
    rintro _ ⟨he,ks,j,l',rfl,h3⟩;exact xj
   ·
    refine ah (λ t=>∃ (j:Nat),t=(ks2,L,(j:Int),Mp+1,base,0,0,[])/\Pos L base j (Mp+1) true l8) ?_ ?_
    ·
     refine bF (rp hL M' _ h3) λ j h3=>?_;by_cases hc:wdB true l7 [105,102]=true
     ·
      rw [if_pos hc] at hy;refine ae hc ?_;refine bF (ez hL M' h3 (wd6 hc)) λ j ⟨h3,h4,h5⟩=>?_;rcases bf hy with ⟨e,hz,hee⟩ | ⟨d,l9,hz,hee⟩
      ·cases hee
      ·
       refine bF (ih.e true _ L base hL M' j (Mp+1) _ h3 hz) λ j h3=>?_;refine ag cu ?_
       cases hee
       exact ku
     ·
      rw [if_neg hc] at hy; cases hy;exact af hc qA
    rintro _ ⟨j,rfl,h3⟩;refine sG hq (λ _ hx=>lS hL M' _ hn hb h3 hx) ?_ ?_
    ·exact EX
    intro l9 j hx h3 h4 hq;exact j8
theorem Ro {f:Nat}(ih:Fol f):∀ b l,(hd b l).Ar=3->Fl eJ b l (qz (f+1) b l):=by
 intro b l k3 L base hL M' i Mp q h hq;rw [qz] at hq;refine aP ?_;simp only [eJ];refine bF (gB hL M' h) λ j ⟨h3,h4,h5⟩=>?_;have tk:=sO (h3.gd hL);have t1':=tk.1;have t2':=tk.2.2.1 k3;refine ag Gy ?_
 cases ht:jT f (hd b l).B' ((hd b l).fAt+1) with
 | none=>rw [ht] at hq; cases hq
 | some y =>
  rw [ht] at hq;have hf:=(fct f).tm _ _ O O  y ht;refine aj _ (ih.tm (hd b l).B' ((hd b l).fAt+1) y O O  ht) ?_;rcases y with e | e
  ·cases hq
   exact af hf (aj _ wN (aa ⟨hf,j,l,Z,h3⟩))
  ·cases hq
   refine ae Z ?_;refine bF (ez hL M' h3 O) λ j ⟨h3,h4,h5⟩=>?_;exact aa ⟨Z,j,Z,h3⟩
end Go.Ab.R06
end
section
namespace Go.Ab.R06
open Go.Ab Go.Ab.RB Go.Lib
section
variable {p:Prop}
theorem JD (h:p:=by
 exact ag (bv (by (try simp only []); omega) (by (try simp only []); omega)) (aa ⟨(by decide:(2:Int)≠0),(j:Int)+1,Z,by omega,by omega⟩)):p:=h
theorem A4 (h:p:=by exact ax (HN _ _ _ _) Z):p:=h
theorem nu (h:p:=by exact tA hL M' h):p:=h
end
section
variable {L:List ac}
def eq (L:List ac)(i:Nat)(Mp:Int)(b:Bool)(l:List ac):Prop :=
 i < L.length/\0<=Mp/\Mp+((L.length - i:Nat):Int)<=1000000000/\b=decide (0 < Mp)/\nf b (L.drop i)=nf b l
def RAt (L:List ac)(i:Nat)(Mp:Int)(b:Bool)(l:List ac):Prop:=eq L i Mp b l/\L.drop i=nf b l
theorem uO:∀ {L:List ac} {i:Nat},Gd L->i < L.length->Gd (L.drop i)
 | [],_,h,_=>h.elim
 | t::r,0,h,_=>h
 | t::r,i+1,h,hi=>by
  rcases h.2 with h2 | h2
  ·have:=h2.2;subst this; simp at hi
  ·exact uO (L:=r) (i:=i) h2.2 (by simpa using hi)
theorem eq.gd {i:Nat}{Mp:Int}{b:Bool}{l:List ac}(hL:Gd L)(h:eq L i Mp b l):Gd (nf b l):=by
 rw [<- h.2.2.2.2]; exact rn (uO hL h.1)
theorem eq.ext {i j:Nat}{Mp:Int}{b:Bool}{l:List ac}(h:eq L i Mp b l)(h1:i<=j)(h2:j < L.length)(h3:L.drop j=nf b (L.drop i)):RAt L j Mp b l:=by
 obtain ⟨q1,q2,q3,q4,q5⟩:=h;refine ⟨⟨h2,q2,by omega,q4,?_⟩,?_⟩
 ·rw [h3,Jb,q5]
 ·rw [h3,q5]
theorem RAt.next {j:Nat}{Mp:Int}{b:Bool}{l:List ac}(hL:Gd L)(h:RAt L j Mp b l)(h6:(hd b l).Ar≠6) :
  eq L (j+1) Mp b (tl b l)/\L.drop (j+1)=tl b l:=by
 have hg:Gd (nf b l):=h.1.gd hL
 have e:L.drop (j+1)=tl b l:=by
  have:=h.2;rw [mc h.1.1,qg hg] at this;exact (qr this).2
 have Ta:=wt (Dz hg h6)
 have:j+1 < L.length:=by
  exact Ji
 obtain ⟨⟨q1,q2,q3,q4,q5⟩,_⟩:=h;exact ⟨⟨this,q2,by omega,q4,by rw [e]⟩,e⟩
theorem RAt.inn {j:Nat}{Mp:Int}{b:Bool}{l:List ac}(hL:Gd L)(h:RAt L j Mp b l)(h6:(hd b l).Ar≠6):eq L (j+1) (Mp+1) true (tl b l):=by
 obtain ⟨⟨q1,q2,q3,q4,q5⟩,e⟩:=h.next hL h6;have:=h.1.2.2.1;have:=h.1.1;refine ⟨q1,by omega,by omega,?_,by rw [e]⟩
 symm; rw [decide_eq_true_eq]; omega
theorem eq.out {j:Nat}{Mp:Int}{b:Bool}{l l':List ac}(h:eq L j (Mp+1) true l)(h0:0<=Mp)(hb:b=decide (0 < Mp))(he:L.drop j=l'):eq L j Mp b l':=by
 obtain ⟨q1,q2,q3,q4,q5⟩:=h;exact ⟨q1,h0,by omega,hb,by rw [he]⟩
theorem Mw (hL:Gd L)(M':L.length<=1000000000){Mp:Int}{d:ao}{a:Int}:∀ (k i:Nat),i+k=L.length->0 < k ->
  Ev2 (λ _ m=>cI (.mk L a Mp d) m (i:Int)) (λ j=>∃ j':Nat,j=(j':Int)/\i<=j'/\j' < L.length/\L.drop j'=nf (decide (0 < Mp)) (L.drop i)):=by
 intro k
 induction k with
 | zero=>intro i _ h; omega
 | succ k ih =>
  intro i hi _;have hd':=mc (L:=L) (i:=i) O;refine aw ?_;simp only [cI];refine aj (decide (0 < Mp/\(lat L (i:Int)).Ar=5)) ?_ ?_
  ·refine av (λ h=>ae O (ag rI (aa ?_))) (λ h=>aa ?_)
   ·simp only [h,true_and]
   ·simp [h]
  ·by_cases h:0 < Mp/\(lat L (i:Int)).Ar=5
   ·refine ae ol (ag aB ?_)
    have hk:0 < k:=by
     have hg:=uO hL (i:=i) O;rw [hd'] at hg;rcases hg.2 with h2 | h2
     ·have h2:=h2.1; omega
     ·exact Hn
    refine aQ (kl (P:=λ j=>Ev2 (λ _ m=>cI (.mk L a Mp d) m j) _) (ih (i+1) O hk)) ?_;exact Hj
   ·exact GW
theorem tA (hL:Gd L)(M':L.length<=1000000000){i:Nat}{Mp:Int}{b:Bool}{l:List ac}{d:ao}(h:eq L i Mp b l) :
  Ev2 (λ n _=>bG n (.mk L (i:Int) Mp d)) (λ z=>z.1=hd b l/\∃ j:Nat,z.2=.mk L (j:Int) Mp d/\RAt L j Mp b l):=by
 simp only [bG];have hi:=h.1;refine ah _ (aN (Mw hL M' (d:=d) (a:=(i:Int)) (L.length - i) i O O)) ?_;rintro x ⟨j,rfl,h1,h2,h3⟩;rw [<- h.2.2.2.1] at h3;have ha:=h.ext h1 h2 h3
 have hhd:lat L (j:Int)=hd b l:=by
  have:=ha.2;rw [mc h2,qg (h.gd hL)] at this;exact (qr this).1
 exact ae O (ag rI (aa ⟨hhd,j,Z,ha⟩))
theorem lC (hL:Gd L)(M':L.length<=1000000000){i:Nat}{Mp:Int}{b:Bool}{l:List ac}{d:ao}(s:Bytes)(h:eq L i Mp b l) :
  Ev2 (λ n _=>aX n (.mk L (i:Int) Mp d) s) (λ z=>z.1=sgB b l s/\∃ j:Nat,z.2=.mk L (j:Int) Mp d/\RAt L j Mp b l):=by
 simp only [aX];refine bF nu λ j h3=>?_;refine aj (sgB b l s) (av (λ h=>aa ?_) (λ h=>aa ?_)) ov
 ·have h:(hd b l).Ar=4:=h;simp only [sgB,h,decide_true,Bool.true_and]
 ·have h:¬ (hd b l).Ar=4:=h;simp only [sgB,h,decide_false,Bool.false_and]
theorem zG (hL:Gd L)(M':L.length<=1000000000){i:Nat}{Mp:Int}{b:Bool}{l:List ac}{d:ao}(s:Bytes)(h:eq L i Mp b l) :
  Ev2 (λ n _=>cS n (.mk L (i:Int) Mp d) s) (λ z=>z.1=wdB b l s/\∃ j:Nat,z.2=.mk L (j:Int) Mp d/\RAt L j Mp b l):=by
 simp only [cS];refine bF nu λ j h3=>?_;refine aj (wdB b l s) (av (λ h=>aa ?_) (λ h=>aa ?_)) ov
 ·have h:(hd b l).Ar=1:=h;simp only [wdB,h,decide_true,Bool.true_and]
 ·have h:¬ (hd b l).Ar=1:=h;simp only [wdB,h,decide_false,Bool.false_and]
theorem HN (i Mp k a:Int):fp (.mk L i Mp dOk) k a=some (.mk L i Mp (eD (k,a))):=rfl
theorem pN (hL:Gd L)(M':L.length<=1000000000){i:Nat}{Mp:Int}{b:Bool}{l:List ac}(h:eq L i Mp b l) :
  Ev2 (λ n _=>bT n (.mk L (i:Int) Mp dOk)) (λ z=>∃ j:Nat,z=.mk L (j:Int) Mp (eD (2,(hd b l).fAt))/\j < L.length):=by
 simp only [bT];refine bF nu λ j h3=>?_;exact aj _ A4 (aa ⟨j,rfl,h3.1.1⟩)
def RFl (L:List ac)(Mp:Int)(N:Nat)(e:PE)(z:ai):Prop:=e.1≠0/\∃ I:Int,z=.mk L I Mp (eD e)/\0<=I/\I<=1000000000+(N:Int)
theorem iw (hL:Gd L)(M':L.length<=1000000000){i:Nat}{Mp:Int}{b:Bool}{l:List ac}(s:Bytes){q:PE⊕(Unit×List ac)}(h:eq L i Mp b l)(hq:ei b s l=some q) :
  Ev2 (λ n _=>bQ n (.mk L (i:Int) Mp dOk) s) (λ z=>match q with
   | .inl e=>RFl L Mp 0 e z
   | .inr (_,l')=>∃ j:Nat,z=.mk L (j:Int) Mp dOk/\eq L j Mp b l'/\L.drop j=l'):=by
 simp only [bQ];unfold ei at hq;by_cases hs:sgB b l s=true
 ·rw [if_pos hs] at hq; cases hq;refine ah (λ t=>∃ j:Nat,t=(L,(j:Int),Mp,0,0,[])/\RAt L j Mp b l) (ah _ (lC hL M' s h) ?_) ?_
  ·rintro ⟨z1,z2⟩ ⟨h1,j,h2,h3⟩;replace h1:z1=_:=h1; subst h1; cases h2;exact af (by simp [hs]) qA
  ·rintro _ ⟨j,rfl,h3⟩;have hn:=h3.next hL (sg6 hs);have:=h3.1.1;refine ag Ae (aa ⟨j+1,by (try simp only []); rfl,hn.1,hn.2⟩)
 ·rw [if_neg hs] at hq; cases hq;refine ah (λ t=>∃ j:Nat,t=(L,(j:Int),Mp,2,(hd b l).fAt,[])/\j < L.length) (ah _ (lC hL M' s h) ?_) ?_
  ·rintro ⟨z1,z2⟩ ⟨h1,j,h2,h3⟩;replace h1:z1=_:=h1; subst h1; cases h2;refine ae rF (ah _ (pN hL M' h3.1) ?_);rintro _ ⟨j,rfl,h4⟩;exact aa ⟨j,rfl,h4⟩
  ·rintro _ ⟨j,rfl,h3⟩;exact JD
theorem IA (s:Bytes):ed s=some (lc s):=xu s
theorem CX (hL:Gd L)(M':L.length<=1000000000){i:Nat}{Mp:Int}{b:Bool}{l:List ac}{q:PE⊕(Bytes×List ac)}(h:eq L i Mp b l)(hq:wC b l=some q) :
  Ev2 (λ n _=>co n (.mk L (i:Int) Mp dOk)) (λ z=>match q with
   | .inl e=>RFl L Mp 0 e z.2
   | .inr (x,l')=>z.1=x/\∃ j:Nat,z.2=.mk L (j:Int) Mp dOk/\eq L j Mp b l'):=by
 simp only [co];refine bF nu λ j h3=>?_;unfold wC at hq;by_cases hs:(hd b l).Ar=1/\lc (hd b l).B'=false
 ·rw [if_pos hs] at hq; cases hq;refine aj (L,(j:Int),Mp,0,0,[]) (aj false (ae hs.1 (aj _ (ax (IA _) rfl) (aa hs.2))) sc) ?_;have hn:=h3.next hL O;have:=h3.1.1;exact ag Ae (aa ⟨rfl,j+1,by (try simp only []); rfl,hn.1⟩)
 ·rw [if_neg hs] at hq; cases hq;refine ah (λ t=>∃ j:Nat,t=(L,(j:Int),Mp,2,(hd b l).fAt,[])/\j < L.length) (aj true (av (λ h1=>aj _ (ax (IA _) rfl) (aa ?_)) (λ h1=>aa rfl)) (ae rfl (ah _ (pN hL M' h3.1) ?_))) ?_
  ·have h1:(hd b l).Ar=1:=h1;exact Iu
  ·rintro _ ⟨j,rfl,h4⟩;exact aa ⟨j,rfl,h4⟩
  ·rintro _ ⟨j,rfl,h4⟩;exact JD
theorem EJ {SP:Nat}(h:SP<=5):mV (SP:Int)=some ((iv SP).map (·.1)):=by
 exact IG
theorem Ef {SP:Nat}(h:SP<=5):∃ k:Int,mU (SP:Int)=some k/\0 < k/\k<=13/\∀ (t:Nat) (p:Bytes×Int),(iv SP)[t]? = some p->p.2=k+(t:Int):=by
 rcases SP with _ | _ | _ | _ | _ | _ | k
 ·exact ⟨3,rfl,by decide,by decide,λ t p hp=>by rcases t with _ | _ | _ | _ | t <;> simp [iv] at hp <;> subst hp <;> rfl⟩
 ·exact ⟨4,rfl,by decide,by decide,λ t p hp=>by rcases t with _ | _ | _ | _ | t <;> simp [iv] at hp <;> subst hp <;> rfl⟩
 ·exact ⟨5,rfl,by decide,by decide,λ t p hp=>by rcases t with _ | _ | _ | _ | t <;> simp [iv] at hp <;> subst hp <;> rfl⟩
 ·exact ⟨7,rfl,by decide,by decide,λ t p hp=>by rcases t with _ | _ | _ | _ | t <;> simp [iv] at hp <;> subst hp <;> rfl⟩
 ·exact ⟨11,rfl,by decide,by decide,λ t p hp=>by rcases t with _ | _ | _ | _ | t <;> simp [iv] at hp <;> subst hp <;> rfl⟩
 ·exact ⟨13,rfl,by decide,by decide,λ t p hp=>by rcases t with _ | _ | _ | _ | t <;> simp [iv] at hp <;> subst hp <;> rfl⟩
 ·omega
theorem Qd (hL:Gd L)(M':L.length<=1000000000){Mp:Int}{b:Bool}{l:List ac}{SP:Nat}(hlev:SP<=5):∀ (k t i:Nat),t+k=(iv SP).length->eq L i Mp b l ->
  Ev2 (λ n m=>bJ n (SP:Int) ((iv SP).map (·.1)) m (t:Int) L (i:Int) Mp 0 0 []) (λ r=>match ((iv SP).drop t).find? (λ p=>sgB b l p.1) with
   | some p=>∃ j:Nat,r=.inr (p.2,.mk L (j:Int) Mp dOk)/\RAt L j Mp b l
   | none=>∃ j:Nat,r=.inl (L,(j:Int),Mp,0,0,[])/\eq L j Mp b l):=by
 have SQ:(iv SP).length<=4:=by rcases SP with _ | _ | _ | _ | _ | k <;> simp [iv]
 have hml:((iv SP).map (·.1)).length=(iv SP).length:=List.length_map ..;intro k
 induction k with
 | zero =>
  intro t i ht h;refine aw ?_;simp only [bJ];exact Kr
 | succ k ih =>
  intro t i ht h;refine aw ?_;simp only [bJ];have hlt:t < (iv SP).length:=by omega
  have hdr:(iv SP).drop t=(iv SP)[t]::(iv SP).drop (t+1):=List.drop_eq_getElem_cons hlt;have hla:lat ((iv SP).map (·.1)) (t:Int)=((iv SP)[t]).1:=by rw [m9 _ t O,List.getElem_map]
  refine ae O (ag rI ?_);rw [hla];refine bF (lC hL M' _ h) λ j h3=>?_;rw [hdr,List.find?_cons];obtain ⟨k0,f1,f2,f3,f4⟩:=Ef hlev
  cases hs:sgB b l ((iv SP)[t]).1 with
  | true =>
   refine ae Z (aj _ (ax f1 Z) (ag aB (aa ⟨j,?_,h3⟩)));rw [f4 t ((iv SP)[t]) (List.getElem?_eq_getElem hlt)]; rfl
  | false=>exact af mv (ag (bv O O) (kl (P:=λ x=>Ev2 (λ n m=>bJ n (SP:Int) ((iv SP).map (·.1)) m x L (j:Int) Mp 0 0 []) _) (ih (t+1) j O h3.1)))
theorem ID (hL:Gd L)(M':L.length<=1000000000){i:Nat}{Mp:Int}{b:Bool}{l:List ac}{SP:Nat}(hlev:SP<=5)(h:eq L i Mp b l) :
  Ev2 (λ n _=>dx n (.mk L (i:Int) Mp dOk) (SP:Int)) (λ r=>match vo b l SP with
   | some p=>∃ j:Nat,r=(p.2,.mk L (j:Int) Mp dOk)/\RAt L j Mp b l
   | none=>∃ j:Nat,r=(0,.mk L (j:Int) Mp dOk)/\eq L j Mp b l):=by
 simp only [dx];refine aj _ (ax (EJ hlev) rfl) ?_;have hl:=Qd hL M' hlev (iv SP).length 0 i O h;rw [List.drop_zero] at hl;unfold vo
 cases hf:(iv SP).find? (λ p=>sgB b l p.1) with
 | some p =>
  exact Il
 | none =>
  rw [hf] at hl;exact A7
theorem L0 {SP:Nat}(hlev:SP<=5){p:Bytes×Int}(h:p∈iv SP):p.2≠0:=by
 have hall:∀ SP:Fin 6,∀ p∈iv SP.1,p.2≠0:=by decide
 exact hall ⟨SP,by omega⟩ p h
end
theorem OK (s:Bytes)(hd:s.all d3=true):AD s=oy s:=by
 have hn:oU s=false:=by
  cases s with
  | nil=>rfl
  | cons b r =>
   have:=mX hd (b:=b) List.mem_cons_self;have Ta:¬ b=45:=λ h=>by rw [h] at this; exact absurd this (by decide)
   simp [oU,Ta]
 have hdg:digits s=s:=by unfold digits; rw [hn]; rfl
 have hcp:p7 s=po s:=by unfold p7; rw [hn,hdg]; rfl
 have hv:kY s=(gv 0 s:Int):=by unfold kY; rw [hn,hdg]; rfl
 by_cases hc:po s=true
 ·by_cases hb:-iu<=kY s/\kY s<=iu
  ·have h1:oy s=(kY s,0):=by unfold oy; rw [hcp,if_pos hc,if_pos hb]
   have h0:0<=kY s:=by rw [hv]; omega
   have h2:=(D6 s _ h1 h0).1;rw [h1,<- E4 h0 hb.2,h2]
  ·unfold oy AD;rw [hcp,if_pos hc,if_pos hc,if_neg hb,if_neg];rintro ⟨_,h2⟩;rw [hv] at hb;unfold iu at hb;omega
 ·unfold oy AD;rw [hcp,if_neg hc,if_neg hc]
end Go.Ab.R06
end
section
namespace Go.Ab.R06
open Go.Ab Go.Ab.RB Go.Lib
section
variable {p:Prop}
theorem w5 (h:p:=by
 refine bF (zG hL M' _ h3) λ j ha=>?_
 exact aa ⟨j,Z,ha⟩):p:=h
theorem HW (h:p:=by
 rw [if_pos hs] at hq; cases hq
 exact af (by simp [hs]) (aa ⟨j,l,by rw [List.append_nil],ha,hs,Z⟩)):p:=h
theorem Gc (h:p:=by
 refine ag (bv (by show _<=Mp+1 - 1; omega) (by show Mp+1 - 1<=_; omega)) ?_;refine aj (L,(j:Int)+1,Mp+1 - 1,0,0,[]) (ae Z ?_) (aa ⟨Z,j+1,by show ai.mk L ((j+1:Nat):Int) (Mp+1 - 1) dOk=_; rw [Int.add_sub_cancel],hn.1.out hn0 hb hn.2⟩);refine ag (bv (by show _<=(j:Int)+1; omega) (by show (j:Int)+1<=_; omega)) ?_
 exact aa Z):p:=h
theorem IL (h:p:=by
 refine ag (by simp only [aq,n8,ph]; omega) ?_
 exact aa ⟨he,_,I,Z,by simp,To,by omega⟩):p:=h
theorem u6 (h:p:=by
 exact aa ⟨j,Z,ha⟩):p:=h
theorem HG (h:p:=by
 refine aj (L,I,Mp+1,e.1,e.2,[]) (af (rm he) (aa Z)) ?_;refine ag (bv (by show _<=Mp+1 - 1; omega) (by show Mp+1 - 1<=_; omega)) ?_
 exact aa ⟨he,I,by show ai.mk L I (Mp+1 - 1) (eD e)=_; rw [Int.add_sub_cancel],by omega,by omega⟩):p:=h
theorem Kh (h:p:=by
 rintro _ ⟨j,rfl,ha⟩
 exact af mv (aa ⟨j,Z,ha.1⟩)):p:=h
theorem xc (h:p:=by
 refine ag (by simp only [aq,n8,ph]; omega) ?_
 exact aj (false,L,I,Mp,e.1,e.2,[]) (af (rm he) (aa Z)) (af mv (aa ⟨he,_,I,Z,To,by omega⟩))):p:=h
theorem Cy (h:p:=by
 rintro _ ⟨he,ks,I,rfl,To,TC⟩;refine aQ (NH he ks I Mp) ?_;rintro _ rfl
 exact ⟨he,_,I,Z,To,TC⟩):p:=h
theorem wG (h:p:=by
 rintro _ ⟨j,rfl,hj⟩
 exact aa ⟨(by decide:(2:Int)≠0),(j:Int),Z,by omega,by omega⟩):p:=h
theorem Be (h:p:=by
 refine ag (by simp only [aq,n8,ph]; omega) ?_;refine ah (λ t=>∃ ks:List ad,ks.length<=3/\t=(ks,L,I,Mp+1,e.1,e.2,[])) (av (λ hk=>?_) (λ hk=>aa ⟨_,by simp,rfl⟩)) ?_
 ·refine aj (L,I,Mp+1,e.1,e.2,[]) (af (rm he) (aa rfl)) ?_;refine ah _ (iV he I (Mp+1)) ?_;rintro ⟨y1,y2⟩ hy
  cases hy
  refine ag (by simp only [aq,n8,ph]; omega) ?_;exact aa ⟨_,by simp,Z⟩
 rintro _ ⟨ks,hks,rfl⟩;refine ah (λ t=>∃ ks:List ad,t=(ks,L,I,Mp+1,e.1,e.2,[])) (aj (false,L,I,Mp+1,e.1,e.2,[]) (af (rm he) (aa rfl)) (af mv (aa ⟨_,rfl⟩))) ?_;rintro _ ⟨ks,rfl⟩;refine aj (L,I,Mp+1,e.1,e.2,[]) (af (rm he) (aa rfl)) ?_;refine ag (bv (by show _<=Mp+1 - 1; omega) (by show Mp+1 - 1<=_; omega)) ?_
 exact aa ⟨he,I,by show ai.mk L I (Mp+1 - 1) (eD e)=_; rw [Int.add_sub_cancel],by omega,by omega⟩):p:=h
theorem AC (h:p:=by
 refine ag (by simp only [aq,n8,ph]; omega) ?_;refine ah (λ t=>∃ ks:List ad,ks.length<=3/\t=(ks,L,I2,Mp+1,e.1,e.2,[])) (av (λ hk=>?_) (λ hk=>aa ⟨_,by simp,rfl⟩)) ?_
 ·refine aj (L,I2,Mp+1,e.1,e.2,[]) (af (rm he) (aa rfl)) ?_;refine ah _ (iV he I2 (Mp+1)) ?_;rintro ⟨y1,y2⟩ hy
  cases hy
  refine ag (by simp only [aq,n8,ph]; omega) ?_;exact aa ⟨_,by simp,Z⟩
 rintro _ ⟨ks,hks,rfl⟩;refine ah (λ t=>∃ ks:List ad,t=(ks,L,I2,Mp+1,e.1,e.2,[])) (aj (false,L,I2,Mp+1,e.1,e.2,[]) (af (rm he) (aa rfl)) (af mv (aa ⟨_,rfl⟩))) ?_;rintro _ ⟨ks,rfl⟩;refine aj (L,I2,Mp+1,e.1,e.2,[]) (af (rm he) (aa rfl)) ?_;refine ag (bv (by show _<=Mp+1 - 1; omega) (by show Mp+1 - 1<=_; omega)) ?_
 exact aa ⟨he,I2,by show ai.mk L I2 (Mp+1 - 1) (eD e)=_; rw [Int.add_sub_cancel],by omega,by omega⟩):p:=h
theorem FA (h:p:=by
 rcases q with e | ⟨x',l'⟩
 ·rintro _ ⟨he,y,I,hy,To,TC⟩;exact ⟨he,y,I,hy,To,by omega⟩
 ·rintro _ hz
  exact hz):p:=h
theorem AR (h:p:=by
 exact aa ⟨he,_,I,Z,To,by omega⟩):p:=h
theorem nz (h:p:=by
 exact aa ⟨he,I,Z,To,by omega⟩):p:=h
theorem Ir (h:p:=by
 refine bF (lC hL M' _ h3) λ j ha=>?_
 exact aa ⟨j,by rw [he2]; rfl,ha⟩):p:=h
theorem CB (h:p:=by
 exact aj (false,L,I,Mp,e.1,e.2,[]) (af (rm he) (aa Z)) (af mv (aa Z))):p:=h
theorem JK (h:p:=by
 refine ah (λ t=>∃ j:Nat,t=(false,L,(j:Int),Mp,0,0,[])/\RAt L j Mp true l) (ae Z (ah _ (lC hL M' _ h) ?_)) ?_
 ·rintro ⟨z1,z2⟩ ⟨h1,j,h2,ha⟩;replace h1:z1=_:=h1; subst h1; cases h2;exact aa ⟨j,by rw [hs]; rfl,ha⟩
 ·rintro _ ⟨j,rfl,ha⟩
  exact af mv (aa ⟨j,l,by rw [List.append_nil],ha,hs,Z⟩)):p:=h
theorem Ij (h:p:=by
 rintro _ ⟨j,rfl,h3,h4⟩
 cases hq
 refine ag (bv (by show _<=Mp+1 - 1; omega) (by show Mp+1 - 1<=_; omega)) ?_
 exact aa ⟨Z,j,by show ai.mk L (j:Int) (Mp+1 - 1) dOk=_; rw [Int.add_sub_cancel],h3.out hn0 hb h4⟩):p:=h
theorem GO (h:p:=by
 refine ag (bv (by show _<=Mp+1 - 1; omega) (by show Mp+1 - 1<=_; omega)) ?_
 exact aa ⟨he,I,by show ai.mk L I (Mp+1 - 1) (eD e)=_; rw [Int.add_sub_cancel],To,by omega⟩):p:=h
theorem Bc (h:p:=by
 refine ag (bv (by show _<=(j:Int)+1; omega) (by show (j:Int)+1<=_; omega)) ?_
 exact aj _ (ax Z Z) (aa ⟨Z,j+1,Z,hn.1⟩)):p:=h
theorem rJ (h:p:=by
 rintro _ ⟨j,rfl,h3,h4⟩
 exact aa ⟨j,Z,h3,h4⟩):p:=h
theorem AM (h:p:=by
 rintro _ rfl
 exact ⟨he,_,I,Z,To,TC⟩):p:=h
theorem HZ (h:p:=by
 refine bF (lC hL M' _ ha.1) λ j ha=>?_
 exact af hs (aa ⟨j,Z,ha⟩)):p:=h
theorem FI (h:p:=by exact wq ih [93] _ (by decide) L hL M' j _ Mp b _ Z hn0 hb g2 ha.1 hx):p:=h
theorem Al (h:p:=by exact bv (by show _<=I+1; omega) (by show I+1<=_; omega)):p:=h
theorem xI (h:p:=by exact pr ih true l2 L hL M' j _ Mp _ Z f2.2.2 h3 hv):p:=h
theorem J6 (h:p:=by exact kl (P:=λ y=>Ev2 (λ n _=>co n (.mk L y (Mp+1) dOk)) _) (CX hL M' hn.1 hz)):p:=h
theorem Iq (h:p:=by exact kl (P:=λ y=>Ev2 (λ n _=>cS n (.mk L y (Mp+1) dOk) [102,111,114]) _) (zG hL M' [102,111,114] hi)):p:=h
theorem Ga (h:p:=by exact wq ih [41] _ (by decide) L hL M' (j+1) ((j:Int)+1) Mp b _ Z hn0 hb g2 hi hx):p:=h
theorem Kf (h:p:=by exact pr ih true (tl true l7) L hL M' (j+1) ((j:Int)+1) (Mp+1) _ Z (glw gl7.1 hc) hn.1 hz):p:=h
theorem wZ (h:p:=by exact iw hL M' _ h3 ZL):p:=h
theorem ny (h:p:=by exact lC hL M' _ ha.1):p:=h
theorem lw (h:p:=by exact af (rm he) (aa Z)):p:=h
theorem KP (h:p:=by exact pr ih true l8 L hL M' j _ (Mp+1) _ Z f8.2.2 h3 hz2):p:=h
theorem xn (h:p:=by exact aa ⟨j,Z,ha⟩):p:=h
theorem Hq (h:p:=by exact aj (false,L,I,Mp+1,e.1,e.2,[]) (af (rm he) (aa Z)) (af mv (aa Z))):p:=h
theorem IM (h:p:=by exact aj _ (ax Z Z) (aa ⟨Z,j+1,Z,hn.1⟩)):p:=h
theorem xy (h:p:=by exact iw hL M' _ h3 Wh):p:=h
theorem px (h:p:=by exact lC hL M' _ h3):p:=h
theorem uu (h:p:=by exact pN hL M' ha.1):p:=h
theorem KL (h:p:=by exact aN (ih.t (tl b l) [] g2 (by have:=g2.2; simp only [n8]; omega) L hL M' j _ (Mp+1) _ Z ha.1 hx)):p:=h
theorem Hr (h:p:=by exact kl (P:=λ y=>Ev2 (λ n _=>co n (.mk L y (Mp+1) dOk)) _) (CX hL M' hn.1 hx)):p:=h
theorem uP (h:p:=by exact iw hL M' _ h3 hn):p:=h
end
theorem rm {e:PE}(he:e.1≠0):¬ (!(!decide ((eD e).Ar=0)))=true:=by rw [ky he]; decide
theorem FM {b:Bool}{l:List ac}{s t:Bytes}(h:sgB b l s=true)(S4:s≠t):¬ sgB b l t=true:=λ k=>S4 ((lN.1 h).2.symm.trans (lN.1 k).2)
def vE {α:Type}(L:List ac)(Mp:Int)(b:Bool)(N:Nat)(q:PE⊕(α×List ac))(z:α×ai):Prop:=match q with
 | .inl e=>RFl L Mp N e z.2
 | .inr (x,l)=>z.1=x/\∃ j:Nat,z.2=.mk L (j:Int) Mp dOk/\eq L j Mp b l
def Rl {α:Type}(F:Nat->ai->Option (α×ai))(b:Bool)(l:List ac)(x:PR α):Prop :=
 ∀ (L:List ac),Gd L->L.length<=1000000000->∀ (i:Nat) (I Mp:Int) (q:PE⊕(α×List ac)),I=i->Gl l->eq L i Mp b l->x=some q->Ev2 (λ n _=>F n (.mk L I Mp dOk)) (vE L Mp b l.length q)
def RlC {α:Type}(F:Nat->ai->Option (α×ai))(l:List ac)(x:PR α):Prop :=
 ∀ (L:List ac),Gd L->L.length<=1000000000->∀ (i:Nat) (I Mp:Int) (b:Bool) (q:PE⊕(α×List ac)),I=i->0<=Mp->b=decide (0 < Mp)->Gl l->eq L i (Mp+1) true l->x=some q->Ev2 (λ n _=>F n (.mk L I Mp dOk)) (vE L Mp b l.length q)
abbrev BT:=Int×Int×Bytes×Bytes×Int×Int×Bytes×(List am)×(List Bytes)×(List ad)×(List ac)×Int×Int×Int×Int×Bytes
def FY (x:ad)(s:List ac×Int×Int×Int×Int×Bytes):BT:=(x.Ar,x.fOp,x.AI,x.Gw,x.A'.Ar,x.A'.E',x.A'.If,x.A'.Df,x.A'.C',x.By,s)
def BLO (L:List ac)(Mp:Int)(b:Bool)(N:Nat)(at':Int)(q:PE⊕(ad×List ac))(t:BT):Prop:=match q with
 | .inl e=>e.1≠0/\∃ (x:ad) (I:Int),t=FY x (L,I,Mp,e.1,e.2,[])/\0<=I/\I<=1000000000+(N:Int)
 | .inr (x,l)=>∃ j:Nat,t=FY x (L,(j:Int),Mp,0,0,[])/\x.fAt=at'/\eq L j Mp b l
def PLO (L:List ac)(Mp:Int)(b:Bool)(N:Nat)(q:PE⊕(ad×List ac))(t:BT⊕(ad×ai)):Prop:=match q with
 | .inl e=>e.1≠0/\∃ (x:ad) (I:Int),(t=.inl (FY x (L,I,Mp,e.1,e.2,[]))\/t=.inr (x,.mk L I Mp (eD e)))/\0<=I/\I<=1000000000+(N:Int)
 | .inr (x,l)=>∃ j:Nat,t=.inr (x,.mk L (j:Int) Mp dOk)/\eq L j Mp b l
abbrev IT:=(List ad)×(List ac)×Int×Int×Int×Int×Bytes
def ILO (L:List ac)(Mp:Int)(en:Bytes)(out:List ad)(N:Nat)(q:PE⊕(List ad×List ac))(r:IT):Prop:=match q with
 | .inl e=>e.1≠0/\∃ (ks:List ad) (I:Int),r=(ks,L,I,Mp,e.1,e.2,[])/\0<=I/\I<=1000000000+(N:Int)
 | .inr (ks,l')=>∃ (j:Nat) (l'':List ac),r=(out++ks,L,(j:Int),Mp,0,0,[])/\RAt L j Mp true l''/\sgB true l'' en=true/\tl true l''=l'
structure Rol (f:Nat):Prop where
 e:∀ b l,Rl aK b l (gg f b l)
 b:∀ (SP:Nat) (li:Int) b l,li=SP->SP<=6->Rl (λ n p=>bA n p li) b l (nX f SP b l)
 bl:∀ (SP:Nat) (li:Int) b l (x:ad) (r5:ad×ai),li=SP->SP<=5->x.fAt=r5.1.fAt->∀ (L:List ac),Gd L->L.length<=1000000000->∀ (i:Nat) (Mp:Int) (q:PE⊕(ad×List ac)),Gl l->eq L i Mp b l->oW f SP b x l=some q ->
  Ev2 (λ n m=>bM n (bA n) li r5 m x.Ar x.fOp x.AI x.Gw x.A'.Ar x.A'.E' x.A'.If x.A'.Df x.A'.C' x.By L (i:Int) Mp 0 0 []) (BLO L Mp b l.length r5.1.fAt q)
 u:∀ b l,Rl dJ b l (unS f b l)
 pl:∀ b l (x:ad) (r1:ad×ai),x.fAt=r1.1.fAt->∀ (L:List ac),Gd L->L.length<=1000000000->∀ (i:Nat) (I Mp:Int) (q:PE⊕(ad×List ac)),I=i->Gl l->eq L i Mp b l->jM f b x l=some q ->
  Ev2 (λ n m=>ba n (aK n) r1 m x.Ar x.fOp x.AI x.Gw x.A'.Ar x.A'.E' x.A'.If x.A'.Df x.A'.C' x.By L I Mp 0 0 []) (PLO L Mp b l.length q)
 p:∀ b l,Rl bB b l (lF f b l)
 s:∀ b l,(hd b l).Ar=3->Rl bB b l (qz f b l)
 n:∀ b l,(hd b l).Ar=1->∀ (L:List ac),Gd L->L.length<=1000000000->∀ (j:Nat) (Mp:Int) (q:PE⊕(ad×List ac)),Gl l->RAt L j Mp b l->mN f b l=some q->Ev2 (λ n _=>fw n (.mk L (j:Int) Mp dOk) (hd b l)) (vE L Mp b l.length q)
 i:∀ (en:Bytes) (l:List ac) (out:List ad),en≠[44]->Gl l->out.length+l.length<=1000000000->∀ (L:List ac),Gd L->L.length<=1000000000->∀ (i:Nat) (I Mp:Int) (q:PE⊕(List ad×List ac)),I=i->eq L i Mp true l->ir f en l=some q ->
  Ev2 (λ n m=>bu n (aK n) en m out L I Mp 0 0 []) (ILO L Mp en out l.length q)
 t:∀ (l:List ac) (out:List ad),Gl l->out.length+2*l.length<=3000000000->∀ (L:List ac),Gd L->L.length<=1000000000->∀ (i:Nat) (I Mp:Int) (q:PE⊕(List ad×List ac)),I=i->eq L i Mp true l->pA f l=some q ->
  Ev2 (λ n m=>bn n (cb n) (bc n) m out L I Mp 0 0 []) (ILO L Mp [125] out l.length q)
 k:∀ l,Rl cb true l (nb f l)
 lo:∀ (tk:ac) (k:Int) (en:Bytes) l,wdB true l [102,111,114]=true->(k=12/\en=[93])\/(k=13/\en=[125])->RlC (λ n p=>d7 n p tk en) l (lD f tk.fAt k (tl true l))
 tm:∀ (s:Bytes) (a:Int) q,0<=a->a+(s.length:Int)<=1000000000->jT f s a=some q->Ev2 (λ n _=>gT n s a) (·=sf q)
theorem tg {α β γ:Type}{L:List ac}{Mp:Int}{b:Bool}{N:Nat}{x:PR α}{k:α->List ac->PR β}{q:PE⊕(β×List ac)}{f:Nat->Nat->Option (α×ai)}{g:Nat->Nat->α×ai->Option γ}{P:γ->Prop}(hq:pb x k=some q)
  (hc:∀ q',x=some q'->Ev2 f (vE L Mp b N q')) (h1:∀ e z (I:Int),e.1≠0->0<=I->I<=1000000000+(N:Int)->.inl e=q->Ev2 (λ n m=>g n m (z,.mk L I Mp (eD e))) P)
  (h2:∀ a l (j:Nat),x=some (.inr (a,l))->eq L j Mp b l->k a l=some q->Ev2 (λ n m=>g n m (a,.mk L (j:Int) Mp dOk)) P):Ev2 (λ n m=>(f n m).bind (g n m)) P:=by
 rcases bf hq with ⟨e,hx,rfl⟩ | ⟨a,l,hx,hq⟩
 ·refine ah _ (hc _ hx) ?_;rintro ⟨z1,z2⟩ ⟨he,I,h3,h4,h5⟩
  cases h3
  exact h1 e z1 I he h4 h5 Z
 ·exact G8
theorem ER {p:Prop}(h:p:=by
 rintro e z1 I he To TC rfl
 first
  | exact aa ⟨he,I,Z,To,by omega⟩
  | exact ae (ky he) (aa ⟨he,I,Z,To,by omega⟩)
  | exact aj (true,L,I,Mp,e.1,e.2,[]) (ae (ky he) (aa Z)) (ae Z (aa ⟨he,I,Z,To,TC⟩))):p:=h
theorem Si {f:Nat}(ih:Rol f):∀ b l,Rl aK b l (gg (f+1) b l):=by
 intro b l L hL M' i I Mp q hI gl h hq;subst hI;rw [gg] at hq;refine aP ?_;simp only [aK,au,cl];have b1:=(tlS b l).length_le;refine tg hq (λ _ hx=>ih.b 0 0 b l rfl (by decide) L hL M' i _ Mp _ rfl gl h hx) ?_ ?_
 ·exact ER
 intro c l1 j hx h3 hq;have f1:=(fct f).b 0 b l gl _ hx;have b2:=f1.2.1.length_le;have b3:=(tlS b l1).length_le;by_cases hs:sgB b l1 [63]=true
 ·
  rw [if_pos hs] at hq;refine ah (λ t=>∃ j:Nat,t=(false,L,(j:Int),Mp,0,0,[])/\RAt L j Mp b l1) (af mv ?_) ?_
  ·
   refine bF px λ j ha=>?_;exact aa ⟨j,by rw [hs]; rfl,ha⟩
  rintro _ ⟨j,rfl,ha⟩;have hj:=ha.1.1;have hn:=ha.next hL (sg6 hs);have g2:=glt f1.2.2 hs;refine af mv ?_;refine ag fO ?_;refine tg hq (λ _ Wh=>ih.e b _ L hL M' (j+1) ((j:Int)+1) Mp _ rfl g2 hn.1 Wh) ?_ ?_
  ·exact ER
  intro a l2 j Wh h3 hq;have f2:=(fct f).e b _ g2 _ Wh;have b4:=f2.2.1.length_le;have b5:=(tlS b (tl b l1)).length_le;refine af mv ?_;rcases bf hq with ⟨e,ZL,rfl⟩ | ⟨u,l3,ZL,hq⟩
  ·
   refine ah _ wZ ?_;rintro _ ⟨he,I,rfl,To,TC⟩;exact ae (ky he) (aa ⟨he,I,rfl,To,by omega⟩)
  ·
   refine ah _ wZ ?_;rintro _ ⟨j,rfl,h3,h4⟩;have f3:=cZ (b:=b) (s:=[58]) f2.2.2 _ ZL;have b6:=(f3.2.1.trans (tlS b l2)).length_le;refine af mv ?_;refine tg hq (λ _ ZK=>ih.e b _ L hL M' j _ Mp _ rfl f3.2.2 h3 ZK) ?_ ?_
   ·exact ER
   intro d l4 j ZK h3 hq;exact j8
 ·
  rw [if_neg hs] at hq; cases hq;refine ah (λ t=>∃ j:Nat,t=(true,L,(j:Int),Mp,0,0,[])/\eq L j Mp b l1) (af mv ?_) ?_
  ·
   refine bF px λ j ha=>?_;exact aa ⟨j,by rw [show sgB b l1 [63]=false by simpa using hs]; rfl,ha.1⟩
  rintro _ ⟨j,rfl,h3⟩;exact ae rfl ov
theorem NJ {L:List ac}{e:PE}(he:e.1≠0)(li:Int)(r5:ad×ai)(x:ad)(I Mp:Int) :
  Ev2 (λ n m=>bM n (bA n) li r5 m x.Ar x.fOp x.AI x.Gw x.A'.Ar x.A'.E' x.A'.If x.A'.Df x.A'.C' x.By L I Mp e.1 e.2 []) (·=FY x (L,I,Mp,e.1,e.2,[])):=by
 refine aw ?_;simp only [bM,au,cl];exact CB
theorem Rr {f:Nat}(ih:Rol f):∀ (SP:Nat) (li:Int) b l,li=SP->SP<=6->Rl (λ n p=>bA n p li) b l (nX (f+1) SP b l):=by
 intro SP li b l X5 h6 L hL M' i I Mp q hI gl h hq;subst hI;rw [nX] at hq;refine aP ?_;simp only [bA];by_cases hv:5 < SP
 ·rw [if_pos hv] at hq;refine ae O ?_;refine ah _ (ih.u b l L hL M' i _ Mp _ rfl gl h hq) ?_;exact jA
 rw [if_neg hv] at hq;refine af O (ag aB ?_);have b1:=(tlS b l).length_le;refine tg hq (λ _ hx=>ih.b (SP+1) (li+1) b l O O  L hL M' i _ Mp _ rfl gl h hx) ?_ ?_
 ·
  rintro e z1 I he To TC rfl;refine ah _ (aN (NJ he li (z1,.mk L I Mp (eD e)) z1 I Mp)) ?_;rintro _ rfl;exact aa ⟨he,I,rfl,To,TC⟩
 intro c l1 j hx h3 hq;have f1:=(fct f).b (SP+1) b l gl _ hx;have b2:=f1.2.1.length_le;refine ah _ (aN (ih.bl SP li b _ _ (_,.mk L (j:Int) Mp dOk) X5 O rfl L hL M' j Mp q f1.2.2 h3 hq)) ?_;rcases q with e | ⟨x,l'⟩
 ·rintro _ ⟨he,x,I,rfl,To,TC⟩;exact nz
 ·rintro _ ⟨j,rfl,hx,h3⟩;refine aa ⟨?_,j,rfl,h3⟩;exact (congrArg (λ a=>ad.mk x.Ar x.fOp x.AI x.Gw (am.mk x.A'.Ar x.A'.E' x.A'.If x.A'.Df x.A'.C') x.By a) hx.symm).trans (yQ x)
theorem Pi {f:Nat}(ih:Rol f):∀ (SP:Nat) (li:Int) b l (x:ad) (r5:ad×ai),li=SP->SP<=5->x.fAt=r5.1.fAt->∀ (L:List ac),Gd L->L.length<=1000000000->∀ (i:Nat) (Mp:Int) (q:PE⊕(ad×List ac)),Gl l->eq L i Mp b l->oW (f+1) SP b x l=some q ->
  Ev2 (λ n m=>bM n (bA n) li r5 m x.Ar x.fOp x.AI x.Gw x.A'.Ar x.A'.E' x.A'.If x.A'.Df x.A'.C' x.By L (i:Int) Mp 0 0 []) (BLO L Mp b l.length r5.1.fAt q):=by
 intro SP li b l x r5 X5 hl5 S8 L hL M' i Mp q gl h hq;rw [oW] at hq;refine aw ?_;simp only [bM,au,cl];subst X5;have ho:=ID hL M' hl5 h;have b1:=(tlS b l).length_le;have eta:ad.mk x.Ar x.fOp x.AI x.Gw (am.mk x.A'.Ar x.A'.E' x.A'.If x.A'.Df x.A'.C') x.By r5.1.fAt=x:=by rw [<- S8]; exact yQ x
 rw [eta]
 cases hp:vo b l SP with
 | none =>
  rw [hp] at ho hq
  cases hq
  refine ah (λ t=>∃ j:Nat,t=(false,L,(j:Int),Mp,0,0,[])/\eq L j Mp b l) (ae Z (ah _ ho ?_)) ?_
  ·rintro _ ⟨j,rfl,h3⟩;exact ku
  ·rintro _ ⟨j,rfl,h3⟩;exact af mv (aa ⟨j,rfl,S8,h3⟩)
 | some p =>
  rw [hp] at ho hq;obtain ⟨hm,hs⟩:=Dg hp;refine ah (λ t=>∃ j:Nat,t=(true,L,(j:Int),Mp,0,0,[])/\RAt L j Mp b l) (ae rfl (ah _ ho ?_)) ?_
  ·rintro _ ⟨j,rfl,h3⟩;refine aa ⟨j,?_,h3⟩;rw [show decide (p.2=0)=false from decide_eq_false (L0 hl5 hm)]; rfl
  rintro _ ⟨j,rfl,h3⟩;refine ae rfl ?_;have ho:=ID hL M' hl5 h3.1;rw [hp] at ho;refine ah _ ho ?_;rintro _ ⟨j,rfl,ha⟩;have hj:=ha.1.1;have hn:=ha.next hL (sg6 hs);have g2:=glt gl hs;refine ag fO ?_;refine ag aB ?_;have hq:pb (nX f (SP+1) b (tl b l)) (λ y l=>oW f SP b (ad.mk 7 p.2 [] [] v0 [x,y] x.fAt) l)=some q:=hq;refine tg hq (λ _ hx=>ih.b (SP+1) ((SP:Int)+1) b _ O O  L hL M' (j+1) ((j:Int)+1) Mp _ rfl g2 hn.1 hx) ?_ ?_
  ·
   rintro e z1 I he To TC rfl;refine aQ (NJ he (SP:Int) r5 (ad.mk 7 p.2 [] [] v0 [x,z1] x.fAt) I Mp) ?_;rintro _ rfl;exact ⟨he,_,I,rfl,To,by omega⟩
  intro y l1 j hx h3 hq;have f1:=(fct f).b (SP+1) b _ g2 _ hx;have b2:=f1.2.1.length_le;have b3:=(tlS b (tl b l)).length_le;refine aQ (ih.bl SP SP b _ (ad.mk 7 p.2 [] [] v0 [x,_] x.fAt) r5 rfl hl5 S8 L hL M' j Mp q f1.2.2 h3 hq) ?_;rcases q with e | ⟨x',l'⟩
  ·rintro _ ⟨he,y,I,rfl,To,TC⟩;exact ⟨he,y,I,rfl,To,by omega⟩
  ·rintro _ hz;exact hz
theorem FG {f:Nat}(ih:Rol f):∀ b l,Rl fk b l (pb (lF f b l) λ e l=>jM f b e l):=by
 intro b l L hL M' i I Mp q hI gl h hq;subst hI;refine aP ?_;simp only [fk];have b1:=(tlS b l).length_le;refine tg hq (λ _ hx=>ih.p b l L hL M' i _ Mp _ rfl gl h hx) ?_ ?_
 ·
  rintro e z1 I he To TC rfl;refine ey (FY z1 (L,I,Mp,e.1,e.2,[])) (aN (f:=λ n m=>ba n (aK n) (z1,.mk L I Mp (eD e)) m z1.Ar z1.fOp z1.AI z1.Gw z1.A'.Ar z1.A'.E' z1.A'.If z1.A'.Df z1.A'.C' z1.By L I Mp e.1 e.2 []) (aw ?_)) (aa ⟨he,I,rfl,To,TC⟩);simp only [ba,au,cl];exact af (rm he) (aa rfl)
 intro c l1 j hx h3 hq;have f1:=(fct f).p b l gl _ hx;have b2:=f1.2.1.length_le;refine cj (aQ (aN (ih.pl b _ _ (_,.mk L (j:Int) Mp dOk) rfl L hL M' j _ Mp q rfl f1.2.2 h3 hq)) ?_);rcases q with e | ⟨x,l'⟩
 ·rintro _ ⟨he,x,I,rfl | rfl,To,TC⟩
  ·exact nz
  ·exact ⟨he,I,Z,To,by omega⟩
 ·rintro _ ⟨j,rfl,h3⟩;exact ⟨rfl,j,rfl,h3⟩
theorem So {f:Nat}(ih:Rol f):∀ b l,Rl dJ b l (unS (f+1) b l):=by
 intro b l L hL M' i I Mp q hI gl h hq;subst hI;rw [unS] at hq;refine aP ?_;simp only [dJ];have b1:=(tlS b l).length_le;refine bF nu λ j ha=>?_;by_cases hs:sgB b l [33]=true
 ·
  rw [if_pos hs] at hq;refine ah (λ t=>∃ j:Nat,t=(1,L,(j:Int),Mp,0,0,[])/\RAt L j Mp b l) ?_ ?_
  ·
   refine bF ny λ j ha=>?_;exact ae hs xn
  rintro _ ⟨j,rfl,ha⟩;refine ah (λ t=>∃ j:Nat,t=(1,L,(j:Int),Mp,0,0,[])/\RAt L j Mp b l) ?_ ?_
  ·
   refine bF ny λ j ha=>?_;exact af (FM hs (by decide)) xn
  rintro _ ⟨j,rfl,ha⟩;have hj:=ha.1.1;have hn:=ha.next hL (sg6 hs);have g2:=glt gl hs;have b2:=(tlS b (tl b l)).length_le;refine af (show ¬ (1:Int)=0 by decide) ?_;refine ag fO ?_;refine tg hq (λ _ hx=>ih.u b _ L hL M' (j+1) ((j:Int)+1) Mp _ rfl g2 hn.1 hx) ?_ ?_
  ·exact ER
  intro c l1 j hx h3 hq;exact j8
 rw [if_neg hs] at hq;by_cases hs2:sgB b l [45]=true
 ·
  rw [if_pos hs2] at hq;refine ah (λ t=>∃ j:Nat,t=(0,L,(j:Int),Mp,0,0,[])/\RAt L j Mp b l) ?_ ?_
  ·
   exact HZ
  rintro _ ⟨j,rfl,ha⟩;refine ah (λ t=>∃ j:Nat,t=(2,L,(j:Int),Mp,0,0,[])/\RAt L j Mp b l) ?_ ?_
  ·
   refine bF ny λ j ha=>?_;exact ae hs2 xn
  rintro _ ⟨j,rfl,ha⟩;have hj:=ha.1.1;have hn:=ha.next hL (sg6 hs2);have g2:=glt gl hs2;have b2:=(tlS b (tl b l)).length_le;refine af (show ¬ (2:Int)=0 by decide) ?_;refine ag fO ?_;refine tg hq (λ _ hx=>ih.u b _ L hL M' (j+1) ((j:Int)+1) Mp _ rfl g2 hn.1 hx) ?_ ?_
  ·exact ER
  intro c l1 j hx h3 hq;exact j8
 rw [if_neg hs2] at hq;refine ah (λ t=>∃ j:Nat,t=(0,L,(j:Int),Mp,0,0,[])/\RAt L j Mp b l) ?_ ?_
 ·
  exact HZ
 rintro _ ⟨j,rfl,ha⟩;refine ah (λ t=>∃ j:Nat,t=(0,L,(j:Int),Mp,0,0,[])/\RAt L j Mp b l) ?_ ?_
 ·
  refine bF ny λ j ha=>?_;exact af hs2 xn
 rintro _ ⟨j,rfl,ha⟩;refine ae rfl ?_;refine ah _ (FG ih b l L hL M' j _ Mp _ rfl gl ha.1 hq) ?_;exact jA
theorem OG {f:Nat}(ih:Rol f):∀ b l (x:ad) (r1:ad×ai),x.fAt=r1.1.fAt->∀ (L:List ac),Gd L->L.length<=1000000000->∀ (i:Nat) (I Mp:Int) (q:PE⊕(ad×List ac)),I=i->Gl l->eq L i Mp b l->jM (f+1) b x l=some q ->
  Ev2 (λ n m=>ba n (aK n) r1 m x.Ar x.fOp x.AI x.Gw x.A'.Ar x.A'.E' x.A'.If x.A'.Df x.A'.C' x.By L I Mp 0 0 []) (PLO L Mp b l.length q):=by
 intro b l x r1 S8 L hL M' i I Mp q hI gl h hq;subst hI;have hn0:=h.2.1;have hb:=h.2.2.2.1;have Wi:=h.2.2.1;rw [jM] at hq;refine aw ?_;simp only [ba,au,cl];have b1:=(tlS b l).length_le;have eta:ad.mk x.Ar x.fOp x.AI x.Gw (am.mk x.A'.Ar x.A'.E' x.A'.If x.A'.Df x.A'.C') x.By r1.1.fAt=x:=by rw [<- S8]; exact yQ x
 rw [eta];refine ae rfl (cj ?_);refine bF (lC hL M' _ h) λ j ha=>?_;by_cases hs:sgB b l [46]=true
 ·
  rw [if_pos hs] at hq;have hj:=ha.1.1;have hn:=ha.next hL (sg6 hs);have g2:=glt gl hs;refine ae hs ?_;refine ag fO ?_;refine bF (kl (P:=λ y=>Ev2 (λ n _=>bG n (.mk L y Mp dOk)) _) (tA hL M' hn.1)) λ j ha=>?_;have hj:=ha.1.1;by_cases hk:(hd b (tl b l)).Ar=1
  ·
   rw [if_pos hk] at hq;have hn:=ha.next hL O;have g3:=glk g2 hk (by decide);have b2:=(tlS b (tl b l)).length_le;refine ae hk ?_;refine ag fO ?_;refine aa (aQ (ih.pl b _ (ad.mk 4 0 (hd b (tl b l)).B' [] v0 [x] x.fAt) r1 S8 L hL M' (j+1) ((j:Int)+1) Mp q rfl g3 hn.1 hq) ?_);exact FA
  ·
   rw [if_neg hk] at hq; cases hq;refine af hk (ah _ uu ?_);rintro _ ⟨j,rfl,hj⟩;exact aa ⟨(by decide:(2:Int)≠0),x,(j:Int),.inr rfl,by omega,by omega⟩
 rw [if_neg hs] at hq;refine af hs ?_;refine bF ny λ j ha=>?_;by_cases hs2:sgB b l [91]=true
 ·
  rw [if_pos hs2] at hq;have hj:=ha.1.1;have hi:=ha.inn hL (sg6 hs2);have g2:=glt gl hs2;refine ae hs2 ?_;refine ag fO ?_;refine ag qC ?_;refine tg hq (λ _ hx=>ih.e true _ L hL M' (j+1) ((j:Int)+1) (Mp+1) _ rfl g2 hi hx) ?_ ?_
  ·
   rintro e z1 I he To TC rfl;refine aj (L,I,Mp+1,e.1,e.2,[]) lw ?_;refine ag mu ?_;refine aa ?_;have e5:Mp+1 - 1=Mp:=Int.add_sub_cancel Mp 1;simp only [e5];refine aw ?_;simp only [ba,au,cl];exact af (rm he) (aa ⟨he,ad.mk 5 0 [] [] v0 [x,z1] r1.1.fAt,I,.inl rfl,To,by omega⟩)
  intro y l1 j hx h3 hq;have f1:=(fct f).e true _ g2 _ hx;have b2:=f1.2.1.length_le;have b3:=(tlS true (tl b l)).length_le;rcases bf hq with ⟨e,Wh,rfl⟩ | ⟨u,l2,Wh,hq⟩
  ·
   refine ah (λ t=>e.1≠0/\∃ I:Int,t=(L,I,Mp+1,e.1,e.2,[])/\0<=I/\I<=1000000000) (ae Z ?_) ?_
   ·
    refine ah _ xy ?_;rintro _ ⟨he,I,rfl,To,TC⟩;exact nz
   rintro _ ⟨he,I,rfl,To,TC⟩;refine ag mu ?_;refine aa ?_;have e5:Mp+1 - 1=Mp:=Int.add_sub_cancel Mp 1;simp only [e5];refine aw ?_;simp only [ba,au,cl];exact af (rm he) (aa ⟨he,ad.mk 5 0 [] [] v0 [x,_] r1.1.fAt,I,.inl rfl,To,by omega⟩)
  ·
   refine ah (λ t=>∃ j:Nat,t=(L,(j:Int),Mp+1,0,0,[])/\eq L j (Mp+1) true l2/\L.drop j=l2) (ae Z ?_) ?_
   ·
    refine ah _ xy ?_;exact rJ
   rintro _ ⟨j,rfl,h3,h4⟩;have f3:=cZ (b:=true) (s:=[93]) f1.2.2 _ Wh;have b4:=(f3.2.1.trans (tlS true l1)).length_le;refine ag mu ?_;refine aa ?_;have e5:Mp+1 - 1=Mp:=Int.add_sub_cancel Mp 1;simp only [e5];refine aQ (ih.pl b _ (ad.mk 5 0 [] [] v0 [x,_] x.fAt) r1 S8 L hL M' j _ Mp q rfl f3.2.2 (h3.out hn0 hb h4) hq) ?_;exact FA
 ·
  rw [if_neg hs2] at hq; cases hq;exact af hs2 (aa ⟨j,rfl,ha.1⟩)
theorem Rx {f:Nat}(ih:Rol f):∀ b l,(hd b l).Ar=3->Rl bB b l (qz (f+1) b l):=by
 intro b l k3 L hL M' i I Mp q hI gl h hq;subst hI;rw [qz] at hq;refine aP ?_;simp only [bB];refine bF nu λ j ha=>?_;have tk:=sO (ha.1.gd hL);have t1':=tk.1;have t2':=tk.2.2.1 k3;have hj:=ha.1.1;have hn:=ha.next hL O;refine af (show ¬ (hd b l).Ar=2 by omega) (ae k3 ?_);refine ag Gy ?_
 cases ht:jT f (hd b l).B' ((hd b l).fAt+1) with
 | none=>rw [ht] at hq; cases hq
 | some y =>
  rw [ht] at hq;have hf:=(fct f).tm _ _ O O  y ht;refine aj _ (ih.tm (hd b l).B' ((hd b l).fAt+1) y O O  ht) ?_;rcases y with e | e
  ·cases hq
   refine aj (L,(j:Int),Mp,e.1,e.2,[]) (af hf (aj _ A4 (aa Z))) ?_;refine ag fO ?_;exact aa ⟨hf,(j:Int)+1,Z,by omega,by omega⟩
  ·cases hq
   refine aj (L,(j:Int),Mp,0,0,[]) u3 ?_;refine ag fO ?_;exact aa ⟨Z,j+1,Z,hn.1⟩
theorem C3 {f:Nat}(ih:Rol f):∀ b l,sgB b l [40]=true->Rl bB b l (pb (gg f true (tl b l)) λ e l=>pb (ei true [41] l) λ _ l=>pok e l):=by
 intro b l hs L hL M' i I Mp q hI gl h hq;subst hI;have hn0:=h.2.1;have hb:=h.2.2.2.1;have Wi:=h.2.2.1;have b1:=(tlS b l).length_le;have k4:=(lN.1 hs).1;refine aP ?_;simp only [bB,au,cl];refine bF nu λ j ha=>?_;refine af (show ¬ (hd b l).Ar=2 by omega) (af (show ¬ (hd b l).Ar=3 by omega) (af (show ¬ (hd b l).Ar=1 by omega) ?_));refine bF ny λ j ha=>?_;have hj:=ha.1.1;have hi:=ha.inn hL (sg6 hs);have g2:=glt gl hs;refine ae hs ?_;refine ag fO ?_;refine ag qC ?_;refine tg hq (λ _ hx=>ih.e true _ L hL M' (j+1) ((j:Int)+1) (Mp+1) _ rfl g2 hi hx) ?_ ?_
 ·
  rintro e z1 I he To TC rfl;refine aj (L,I,Mp+1,e.1,e.2,[]) lw ?_;exact GO
 intro c l1 j hx h3 hq;have f1:=(fct f).e true _ g2 _ hx;have b2:=f1.2.1.length_le;have b3:=(tlS true (tl b l)).length_le;rcases bf hq with ⟨e,Wh,rfl⟩ | ⟨u,l2,Wh,hq⟩
 ·
  refine ah (λ t=>e.1≠0/\∃ I:Int,t=(L,I,Mp+1,e.1,e.2,[])/\0<=I/\I<=1000000000) (ae Z ?_) ?_
  ·
   refine ah _ xy ?_;rintro _ ⟨he,I,rfl,To,TC⟩;exact nz
  rintro _ ⟨he,I,rfl,To,TC⟩;exact GO
 ·
  refine ah (λ t=>∃ j:Nat,t=(L,(j:Int),Mp+1,0,0,[])/\eq L j (Mp+1) true l2/\L.drop j=l2) (ae Z ?_) ?_
  ·
   refine ah _ xy ?_;exact rJ
  exact Ij
theorem vE.up {α:Type}{L:List ac}{Mp:Int}{b:Bool}{N M:Nat}{q:PE⊕(α×List ac)}{z:α×ai}(h:vE L Mp b N q z)(hNM:N<=M):vE L Mp b M q z:=by
 rcases q with e | ⟨x,l⟩
 ·obtain ⟨he,I,h1,h2,h3⟩:=h;exact ⟨he,I,h1,h2,by omega⟩
 ·exact h
theorem iV {L:List ac}{e:PE}(he:e.1≠0)(I Mp:Int):Ev2 (λ n _=>bc n (.mk L I Mp (eD e))) (λ z=>z.2=.mk L I Mp (eD e)):=by
 refine aP ?_;simp only [bc,au,cl];exact ae (ky he) (aa Z)
theorem Nz {L:List ac}{e:PE}(he:e.1≠0)(en:Bytes)(out:List ad)(I Mp:Int) :
  Ev2 (λ n m=>bu n (aK n) en m out L I Mp e.1 e.2 []) (·=(out,L,I,Mp,e.1,e.2,[])):=by
 refine aw ?_;simp only [bu,au,cl];exact CB
theorem NH {L:List ac}{e:PE}(he:e.1≠0)(out:List ad)(I Mp:Int) :
  Ev2 (λ n m=>bn n (cb n) (bc n) m out L I Mp e.1 e.2 []) (·=(out,L,I,Mp,e.1,e.2,[])):=by
 refine aw ?_;simp only [bn,au,cl];exact CB
theorem Rt {L:List ac}(hL:Gd L)(M':L.length<=1000000000){en:Bytes}{out:List ad}{i:Nat}{Mp:Int}{l:List ac}(N:Nat)(h:eq L i Mp true l)(hs:sgB true l en=true) :
  Ev2 (λ n m=>bu n (aK n) en m out L (i:Int) Mp 0 0 []) (ILO L Mp en out N (.inr ([],tl true l))):=by
 refine aw ?_;simp only [bu,au,cl];exact JK
theorem RN {L:List ac}(hL:Gd L)(M':L.length<=1000000000){out:List ad}{i:Nat}{Mp:Int}{l:List ac}(N:Nat)(h:eq L i Mp true l)(hs:sgB true l [125]=true) :
  Ev2 (λ n m=>bn n (cb n) (bc n) m out L (i:Int) Mp 0 0 []) (ILO L Mp [125] out N (.inr ([],tl true l))):=by
 refine aw ?_;simp only [bn,au,cl];exact JK
theorem pr {f:Nat}(ih:Rol f):∀ b l,Rl bc b l (gg f b l):=by
 intro b l L hL M' i I Mp q hI gl h hq;refine aP ?_;simp only [bc,au,cl];refine af mv (ah _ (ih.e b l L hL M' i I Mp q hI gl h hq) ?_);exact jA
theorem Se {f:Nat}(ih:Rol f):∀ (en:Bytes) (l:List ac) (out:List ad),en≠[44]->Gl l->out.length+l.length<=1000000000->∀ (L:List ac),Gd L->L.length<=1000000000->∀ (i:Nat) (I Mp:Int) (q:PE⊕(List ad×List ac)),I=i->eq L i Mp true l->ir (f+1) en l=some q ->
  Ev2 (λ n m=>bu n (aK n) en m out L I Mp 0 0 []) (ILO L Mp en out l.length q):=by
 intro en l out XI gl SQ L hL M' i I Mp q hI h hq;subst hI;have gt:=gll (b:=true) gl;rw [ir] at hq;refine aw ?_;simp only [bu,au,cl];refine ah (λ t=>∃ j:Nat,t=(!sgB true l en,L,(j:Int),Mp,0,0,[])/\RAt L j Mp true l) (ae rfl ?_) ?_
 ·
  refine bF (lC hL M' _ h) λ j ha=>?_;exact u6
 rintro _ ⟨j,rfl,ha⟩;by_cases hs:sgB true l en=true
 ·exact HW
 rw [if_neg hs] at hq;refine ae rF ?_;rcases bf hq with ⟨e,hx,rfl⟩ | ⟨x,l1,hx,hq⟩
 ·
  refine ah (λ t=>e.1≠0/\∃ (ks:List ad) (I:Int),t=(ks,L,I,Mp,e.1,e.2,[])/\0<=I/\I<=1000000000+(l.length:Int)) ?_ ?_
  ·
   refine ah _ (ih.e true l L hL M' j _ Mp _ rfl gl ha.1 hx) ?_;rintro ⟨z1,z2⟩ ⟨he,I,h2,To,TC⟩
   cases h2
   exact xc
  rintro _ ⟨he,ks,I,rfl,To,TC⟩;refine aQ (Nz he en ks I Mp) ?_;exact AM
 ·
  have f1:=(fct f).e true l gl _ hx;have b2:=f1.2.1.length_le;have b4:=gll (b:=true) f1.2.2;by_cases hc:sgB true l1 [44]=true
  ·
   rw [if_pos hc] at hq;have Ta:¬ sgB true l1 en=true:=FM hc (λ k=>XI k.symm);have g2:=glt f1.2.2 hc;refine ah (λ t=>∃ j:Nat,t=(out++[x],L,(j:Int),Mp,0,0,[])/\eq L j Mp true (tl true l1)) ?_ ?_
   ·
    refine bF (ih.e true l L hL M' j _ Mp _ Z gl ha.1 hx) λ j h3=>?_;refine ag cu ?_;refine ah (λ t=>∃ j:Nat,t=(true,L,(j:Int),Mp,0,0,[])/\RAt L j Mp true l1) (ae Z ?_) ?_
    ·
     refine bF px λ j ha=>?_;exact aa ⟨j,by rw [show sgB true l1 en=false by simpa using Ta]; rfl,ha⟩
    rintro _ ⟨j,rfl,ha⟩;refine ae rfl ?_;refine ah _ (iw hL M' [44] (q:=.inr ((),tl true l1)) ha.1 (by unfold ei; rw [if_pos hc]; rfl)) ?_;rintro _ ⟨j,rfl,h3,h4⟩;exact ku
   rintro _ ⟨j,rfl,h3⟩;rcases bf hq with ⟨e,hy,rfl⟩ | ⟨ks,l2,hy,hq⟩
   ·refine aQ (ih.i en _ (out++[x]) XI g2 kw L hL M' j _ Mp _ rfl h3 hy) ?_;rintro _ ⟨he,ks,I,rfl,To,TC⟩;exact ⟨he,ks,I,rfl,To,by omega⟩
   ·cases hq
    refine aQ (ih.i en _ (out++[x]) XI g2 kw L hL M' j _ Mp _ rfl h3 hy) ?_;rintro _ ⟨j,l'',rfl,ha,hs,ht⟩;exact ⟨j,l'',by rw [List.append_assoc]; rfl,ha,hs,ht⟩
  ·
   rw [if_neg hc] at hq;by_cases he2:sgB true l1 en=true
   ·
    refine ah (λ t=>∃ j:Nat,t=(out++[x],L,(j:Int),Mp,0,0,[])/\eq L j Mp true l1) ?_ ?_
    ·
     refine bF (ih.e true l L hL M' j _ Mp _ Z gl ha.1 hx) λ j h3=>?_;refine ag cu ?_;refine ah (λ t=>∃ j:Nat,t=(false,L,(j:Int),Mp,0,0,[])/\RAt L j Mp true l1) (ae Z ?_) ?_
     ·
      exact Ir
     exact Kh
    rintro _ ⟨j,rfl,h3⟩;have hq:pb (ei true en l1) (λ _ l=>pok [x] l)=some q:=hq;unfold ei at hq;rw [if_pos he2] at hq
    cases hq
    refine aQ (Rt hL M' l.length h3 he2) ?_;rintro _ ⟨j,l'',rfl,ha,hs,ht⟩;exact ⟨j,l'',by rw [List.append_nil],ha,hs,ht⟩
   ·
    have hq:pb (ei true en l1) (λ _ l=>pok [x] l)=some q:=hq;unfold ei at hq;rw [if_neg he2] at hq
    cases hq
    refine ah (λ t=>((2,(hd true l1).fAt):PE).1≠0/\∃ (ks:List ad) (I:Int),t=(ks,L,I,Mp,2,(hd true l1).fAt,[])/\0<=I/\I<=1000000000+(l.length:Int)) ?_ ?_
    ·
     refine bF (ih.e true l L hL M' j _ Mp _ Z gl ha.1 hx) λ j h3=>?_;refine ag cu ?_;refine ah (λ t=>∃ j:Nat,t=(true,L,(j:Int),Mp,0,0,[])/\RAt L j Mp true l1) (ae Z ?_) ?_
     ·
      refine bF px λ j ha=>?_;exact aa ⟨j,by rw [show sgB true l1 en=false by simpa using he2]; rfl,ha⟩
     rintro _ ⟨j,rfl,ha⟩;refine ae rfl ?_;refine ah _ (iw hL M' [44] (q:=.inl (2,(hd true l1).fAt)) ha.1 (by unfold ei; rw [if_neg hc]; rfl)) ?_;rintro _ ⟨he,I,rfl,To,TC⟩;exact AR
    rintro _ ⟨he,ks,I,rfl,To,TC⟩;refine aQ (Nz (e:=(2,(hd true l1).fAt)) he en ks I Mp) ?_;exact AM
theorem wq {f:Nat}(ih:Rol f):∀ (en:Bytes) l,en≠[44]->RlC (λ n p=>eQ n p en) l (ir f en l):=by
 intro en l XI L hL M' i I Mp b q hI hn0 hb gl h hq;subst hI;have Wi:=h.2.2.1;refine aP ?_;simp only [eQ,au,cl];refine ag qC ?_;refine ah _ (aN (ih.i en l [] XI gl Ce L hL M' i _ (Mp+1) q rfl h hq)) ?_;rcases q with e | ⟨ks,l'⟩
 ·rintro _ ⟨he,ks,I,rfl,To,TC⟩;refine ag mu ?_;refine aj (L,I,Mp+1 - 1,e.1,e.2,[]) lw (aa ⟨he,I,by show ai.mk L I (Mp+1 - 1) (eD e)=_; rw [Int.add_sub_cancel],To,TC⟩)
 ·rintro _ ⟨j,l'',rfl,ha,hs,rfl⟩;have hj:=ha.1.1;have hn:=ha.next hL (sg6 hs);exact Gc
theorem Sr {f:Nat}(ih:Rol f):∀ b l,(hd b l).Ar=1->∀ (L:List ac),Gd L->L.length<=1000000000->∀ (j:Nat) (Mp:Int) (q:PE⊕(ad×List ac)),Gl l->RAt L j Mp b l->mN (f+1) b l=some q->Ev2 (λ n _=>fw n (.mk L (j:Int) Mp dOk) (hd b l)) (vE L Mp b l.length q):=by
 intro b l k1 L hL M' j Mp q gl ha hq;have hj:=ha.1.1;have hn:=ha.next hL O;have hn0:=ha.1.2.1;have hb:=ha.1.2.2.2.1;have Wi:=ha.1.2.2.1;have g1:=glk gl k1 (by decide);have b1:=(tlS b l).length_le;have b2:=(tlS b (tl b l)).length_le;rw [mN] at hq;refine aP ?_;simp only [fw];by_cases s1:(hd b l).B'=[110,117,108,108]
 ·rw [if_pos s1] at hq; cases hq;refine ae s1 ?_;exact Bc
 rw [if_neg s1] at hq;refine af s1 ?_;by_cases s2:(hd b l).B'=[116,114,117,101]
 ·rw [if_pos s2] at hq; cases hq;refine aj true wz (ae rfl ?_);refine ag fO ?_;exact aj 1 wz IM
 rw [if_neg s2] at hq;by_cases s3:(hd b l).B'=[102,97,108,115,101]
 ·rw [if_pos s3] at hq; cases hq;refine aj true (af s2 (aa (decide_eq_true s3))) (ae rfl ?_);refine ag fO ?_;exact aj 0 (af s2 (aa rfl)) IM
 rw [if_neg s3] at hq;refine aj false (af s2 (aa (decide_eq_false s3))) (af mv (aj _ (ax (IA _) rfl) ?_));by_cases s4:lc (hd b l).B'=true
 ·rw [if_pos s4] at hq; cases hq;refine ae s4 (ah _ uu ?_);exact wG
 rw [if_neg s4] at hq;refine af s4 ?_;refine ag fO ?_;refine bF (kl (P:=λ y=>Ev2 (λ n _=>aX n (.mk L y Mp dOk) [40]) _) (lC hL M' [40] hn.1)) λ j ha=>?_;have hj:=ha.1.1;by_cases s5:sgB b (tl b l) [40]=true
 ·rw [if_pos s5] at hq;have hi:=ha.inn hL (sg6 s5);have g2:=glt g1 s5;refine af (by simp [s5]) ?_;refine ag fO ?_;rcases bf hq with ⟨e,hx,rfl⟩ | ⟨ks,l1,hx,hq⟩
  ·refine ah _ Ga ?_;rintro ⟨z1,z2⟩ ⟨he,I,h2,To,TC⟩
   cases h2
   exact nz
  ·refine bF Ga λ j h3=>?_;exact j8
 ·rw [if_neg s5] at hq; cases hq;exact ae (by simpa using s5) (aa ⟨rfl,j,rfl,ha.1⟩)
theorem RX {f:Nat}(ih:Rol f):∀ (l:List ac) (out:List ad),Gl l->out.length+2*l.length<=3000000000->∀ (L:List ac),Gd L->L.length<=1000000000->∀ (i:Nat) (I Mp:Int) (q:PE⊕(List ad×List ac)),I=i->eq L i Mp true l->pA (f+1) l=some q ->
  Ev2 (λ n m=>bn n (cb n) (bc n) m out L I Mp 0 0 []) (ILO L Mp [125] out l.length q):=by
 intro l out gl SQ L hL M' i I Mp q hI h hq;subst hI;have gt:=gll (b:=true) gl;rw [pA] at hq;refine aw ?_;simp only [bn,au,cl];refine ah (λ t=>∃ j:Nat,t=(!sgB true l [125],L,(j:Int),Mp,0,0,[])/\RAt L j Mp true l) (ae rfl ?_) ?_
 ·
  refine bF (lC hL M' _ h) λ j ha=>?_;exact u6
 rintro _ ⟨j,rfl,ha⟩;by_cases hs:sgB true l [125]=true
 ·exact HW
 rw [if_neg hs] at hq;refine ae rF ?_;rcases bf hq with ⟨e,hx,rfl⟩ | ⟨x,l1,hx,hq⟩
 ·
  refine ah (λ t=>e.1≠0/\∃ (ks:List ad) (I:Int),t=(ks,L,I,Mp,e.1,e.2,[])/\0<=I/\I<=1000000000+(l.length:Int)) ?_ ?_
  ·
   refine ah _ (ih.k l L hL M' j _ Mp _ rfl gl ha.1 hx) ?_;rintro ⟨z1,z2⟩ ⟨he,I,h2,To,TC⟩
   cases h2
   refine ag cu ?_;refine aj (L,I,Mp,e.1,e.2,[]) lw ?_;refine ah _ (iV he I Mp) ?_;rintro ⟨y1,y2⟩ hy
   cases hy
   exact xc
  exact Cy
 ·
  have f1:=(fct f).k l gl _ hx;have b2:=f1.2.1.length_le;rcases bf hq with ⟨e,hn,rfl⟩ | ⟨u,l2,hn,hq⟩
  ·
   refine ah (λ t=>e.1≠0/\∃ (ks:List ad) (I:Int),t=(ks,L,I,Mp,e.1,e.2,[])/\0<=I/\I<=1000000000+(l.length:Int)) ?_ ?_
   ·
    refine bF (ih.k l L hL M' j _ Mp _ Z gl ha.1 hx) λ j h3=>?_;refine ag cu ?_;refine ah (λ t=>e.1≠0/\∃ I:Int,t=(L,I,Mp,e.1,e.2,[])/\0<=I/\I<=1000000000) (ae Z ?_) ?_
    ·
     refine ah _ uP ?_;rintro _ ⟨he,I,rfl,To,TC⟩;exact nz
    rintro _ ⟨he,I,rfl,To,TC⟩;refine ah _ (iV he I Mp) ?_;rintro ⟨y1,y2⟩ hy
    cases hy
    exact xc
   exact Cy
  ·
   have f2:=cZ (b:=true) (s:=[61]) f1.2.2 _ hn;have b3:=(f2.2.1.trans (tlS true l1)).length_le;rcases bf hq with ⟨e,hv,rfl⟩ | ⟨y,l3,hv,hq⟩
   ·
    refine ah (λ t=>e.1≠0/\∃ (ks:List ad) (I:Int),t=(ks,L,I,Mp,e.1,e.2,[])/\0<=I/\I<=1000000000+(l.length:Int)) ?_ ?_
    ·
     refine bF (ih.k l L hL M' j _ Mp _ Z gl ha.1 hx) λ j h3=>?_;refine ag cu ?_;refine ah (λ t=>∃ j:Nat,t=(L,(j:Int),Mp,0,0,[])/\eq L j Mp true l2) (ae Z ?_) ?_
     ·
      refine ah _ uP ?_;rintro _ ⟨j,rfl,h3,h4⟩;exact ku
     rintro _ ⟨j,rfl,h3⟩;refine ah _ xI ?_;rintro ⟨z1,z2⟩ ⟨he,I,h2,To,TC⟩
     cases h2
     exact xc
    exact Cy
   ·
    have f3:=(fct f).e true l2 f2.2.2 _ hv;have b4:=(f3.2.1.trans (tlS true l2)).length_le;have b5:=gll (b:=true) f3.2.2;by_cases hc:sgB true l3 [44]=true
    ·
     rw [if_pos hc] at hq;have Ta:¬ sgB true l3 [125]=true:=FM hc (by decide);have g2:=glt f3.2.2 hc;refine ah (λ t=>∃ j:Nat,t=((out++[x])++[y],L,(j:Int),Mp,0,0,[])/\eq L j Mp true (tl true l3)) ?_ ?_
     ·
      refine bF (ih.k l L hL M' j _ Mp _ Z gl ha.1 hx) λ j h3=>?_;refine ag cu ?_;refine ah (λ t=>∃ j:Nat,t=(L,(j:Int),Mp,0,0,[])/\eq L j Mp true l2) (ae Z ?_) ?_
      ·
       refine ah _ uP ?_;rintro _ ⟨j,rfl,h3,h4⟩;exact ku
      rintro _ ⟨j,rfl,h3⟩;refine bF xI λ j h3=>?_;refine ag cu ?_;refine ah (λ t=>∃ j:Nat,t=(true,L,(j:Int),Mp,0,0,[])/\RAt L j Mp true l3) (ae rfl ?_) ?_
      ·
       refine bF px λ j ha=>?_;exact aa ⟨j,by rw [show sgB true l3 [125]=false by simpa using Ta]; rfl,ha⟩
      rintro _ ⟨j,rfl,ha⟩;refine ae rfl ?_;refine ah _ (iw hL M' [44] (q:=.inr ((),tl true l3)) ha.1 (by unfold ei; rw [if_pos hc]; rfl)) ?_;rintro _ ⟨j,rfl,h3,h4⟩;exact ku
     rintro _ ⟨j,rfl,h3⟩;rcases bf hq with ⟨e,hy,rfl⟩ | ⟨ks,l4,hy,hq⟩
     ·refine aQ (ih.t _ ((out++[x])++[y]) g2 kw L hL M' j _ Mp _ rfl h3 hy) ?_;rintro _ ⟨he,ks,I,rfl,To,TC⟩;exact ⟨he,ks,I,rfl,To,by omega⟩
     ·cases hq
      refine aQ (ih.t _ ((out++[x])++[y]) g2 kw L hL M' j _ Mp _ rfl h3 hy) ?_;rintro _ ⟨j,l'',rfl,ha,hs,ht⟩;exact ⟨j,l'',by rw [List.append_assoc,List.append_assoc]; rfl,ha,hs,ht⟩
    ·
     rw [if_neg hc] at hq;by_cases he2:sgB true l3 [125]=true
     ·
      refine ah (λ t=>∃ j:Nat,t=((out++[x])++[y],L,(j:Int),Mp,0,0,[])/\eq L j Mp true l3) ?_ ?_
      ·
       refine bF (ih.k l L hL M' j _ Mp _ Z gl ha.1 hx) λ j h3=>?_;refine ag cu ?_;refine ah (λ t=>∃ j:Nat,t=(L,(j:Int),Mp,0,0,[])/\eq L j Mp true l2) (ae Z ?_) ?_
       ·
        refine ah _ uP ?_;rintro _ ⟨j,rfl,h3,h4⟩;exact ku
       rintro _ ⟨j,rfl,h3⟩;refine bF xI λ j h3=>?_;refine ag cu ?_;refine ah (λ t=>∃ j:Nat,t=(false,L,(j:Int),Mp,0,0,[])/\RAt L j Mp true l3) (ae rfl ?_) ?_
       ·
        exact Ir
       exact Kh
      rintro _ ⟨j,rfl,h3⟩;have hq:pb (ei true [125] l3) (λ _ l=>pok [x,y] l)=some q:=hq;unfold ei at hq;rw [if_pos he2] at hq
      cases hq
      refine aQ (RN hL M' l.length h3 he2) ?_;rintro _ ⟨j,l'',rfl,ha,hs,ht⟩;exact ⟨j,l'',by rw [List.append_nil,List.append_assoc]; rfl,ha,hs,ht⟩
     ·
      have hq:pb (ei true [125] l3) (λ _ l=>pok [x,y] l)=some q:=hq;unfold ei at hq;rw [if_neg he2] at hq
      cases hq
      refine ah (λ t=>((2,(hd true l3).fAt):PE).1≠0/\∃ (ks:List ad) (I:Int),t=(ks,L,I,Mp,2,(hd true l3).fAt,[])/\0<=I/\I<=1000000000+(l.length:Int)) ?_ ?_
      ·
       refine bF (ih.k l L hL M' j _ Mp _ Z gl ha.1 hx) λ j h3=>?_;refine ag cu ?_;refine ah (λ t=>∃ j:Nat,t=(L,(j:Int),Mp,0,0,[])/\eq L j Mp true l2) (ae Z ?_) ?_
       ·
        refine ah _ uP ?_;rintro _ ⟨j,rfl,h3,h4⟩;exact ku
       rintro _ ⟨j,rfl,h3⟩;refine bF xI λ j h3=>?_;refine ag cu ?_;refine ah (λ t=>∃ j:Nat,t=(true,L,(j:Int),Mp,0,0,[])/\RAt L j Mp true l3) (ae rfl ?_) ?_
       ·
        refine bF px λ j ha=>?_;exact aa ⟨j,by rw [show sgB true l3 [125]=false by simpa using he2]; rfl,ha⟩
       rintro _ ⟨j,rfl,ha⟩;refine ae rfl ?_;refine ah _ (iw hL M' [44] (q:=.inl (2,(hd true l3).fAt)) ha.1 (by unfold ei; rw [if_neg hc]; rfl)) ?_;rintro _ ⟨he,I,rfl,To,TC⟩;exact AR
      rintro _ ⟨he,ks,I,rfl,To,TC⟩;refine aQ (NH (e:=(2,(hd true l3).fAt)) he ks I Mp) ?_;exact AM
theorem SG {f:Nat}(ih:Rol f):∀ b l,Rl bB b l (lF (f+1) b l):=by
 intro b l L hL M' i I Mp q hI gl h hq;rw [lF] at hq;by_cases k3:(hd b l).Ar=3
 ·rw [if_neg O,if_pos k3] at hq;exact ih.s b l k3 L hL M' i I Mp q hI gl h hq
 by_cases s1:sgB b l [40]=true
 ·have k4:=(lN.1 s1).1;rw [if_neg O,if_neg k3,if_neg O,if_pos s1] at hq;exact C3 ih b l s1 L hL M' i I Mp q hI gl h hq
 subst hI;have hn0:=h.2.1;have hb:=h.2.2.2.1;have Wi:=h.2.2.1;have b1:=(tlS b l).length_le;refine aP ?_;simp only [bB];refine bF nu λ j ha=>?_;have tk:=sO (ha.1.gd hL);have t1':=tk.1;have t2':=tk.2.1;have hj:=ha.1.1;by_cases k2:(hd b l).Ar=2
 ·rw [if_pos k2] at hq;have hn:=ha.next hL O;refine ae k2 (aj _ (MC _ (show (hd b l).B'.length<=1000000000 by omega) (tk.2.2.2 k2)) ?_);rw [OK _ (tk.2.2.2 k2)];by_cases hz:(oy (hd b l).B').2=0
  ·rw [if_pos hz] at hq; cases hq;refine aj (L,(j:Int),Mp,0,0,[]) (ae hz (aa rfl)) ?_;exact Bc
  ·rw [if_neg hz] at hq; cases hq;refine aj (L,(j:Int),Mp,(oy (hd b l).B').2,(hd b l).fAt,[]) (af hz (aj _ A4 (aa rfl))) ?_;refine ag fO ?_;exact aj _ oN (aa ⟨hz,(j:Int)+1,rfl,by omega,by omega⟩)
 rw [if_neg k2,if_neg k3] at hq;refine af k2 (af k3 ?_);by_cases k1:(hd b l).Ar=1
 ·rw [if_pos k1] at hq;refine ae k1 (ah _ (ih.n b l k1 L hL M' j Mp q gl ha hq) ?_);exact jA
 rw [if_neg k1,if_neg s1] at hq;refine af k1 ?_;refine bF ny λ j ha=>?_;refine af s1 ?_;refine bF ny λ j ha=>?_;by_cases s2:sgB b l [91]=true
 ·
  rw [if_pos s2] at hq;have hj:=ha.1.1;have hi:=ha.inn hL (sg6 s2);have g2:=glt gl s2;refine ae s2 (ah (vE L Mp b l.length q) (aP ?_) (λ z hz=>aa hz));simp only [iE];refine ag fO ?_;refine ag qC ?_;refine bF Iq λ j ha=>?_;have hj:=ha.1.1;have e5:Mp+1 - 1=Mp:=Int.add_sub_cancel Mp 1;refine ag mu ?_;by_cases hw:wdB true (tl b l) [102,111,114]=true
  ·rw [if_pos hw] at hq;refine ae hw ?_;simp only [e5];refine ah _ (ih.lo (hd b l) 12 [93] (tl b l) hw (.inl ⟨rfl,rfl⟩) L hL M' j _ Mp b q rfl hn0 hb g2 ha.1 hq) ?_;rintro ⟨z1,z2⟩ hz;exact aa (hz.up b1)
  ·rw [if_neg hw] at hq;refine af hw ?_;simp only [e5];rcases bf hq with ⟨e,hx,rfl⟩ | ⟨ks,l1,hx,hq⟩
   ·refine ah _ FI ?_;rintro ⟨z1,z2⟩ ⟨he,I,h2,To,TC⟩
    cases h2
    exact nz
   ·refine bF FI λ j h3=>?_;exact j8
 rw [if_neg s2] at hq;refine af s2 ?_;refine bF ny λ j ha=>?_;by_cases s3:sgB b l [123]=true
 ·
  rw [if_pos s3] at hq;have hj:=ha.1.1;have hi:=ha.inn hL (sg6 s3);have g2:=glt gl s3;refine ae s3 (ah (vE L Mp b l.length q) (aP ?_) (λ z hz=>aa hz));simp only [gP,au,cl];refine ag fO ?_;refine ag qC ?_;refine bF Iq λ j ha=>?_;have hj:=ha.1.1;have e5:Mp+1 - 1=Mp:=Int.add_sub_cancel Mp 1;by_cases hw:wdB true (tl b l) [102,111,114]=true
  ·rw [if_pos hw] at hq;refine ae hw ?_;refine ag mu ?_;simp only [e5];refine ah _ (ih.lo (hd b l) 13 [125] (tl b l) hw (.inr ⟨rfl,rfl⟩) L hL M' j _ Mp b q rfl hn0 hb g2 ha.1 hq) ?_;rintro ⟨z1,z2⟩ hz;exact aa (hz.up b1)
  ·rw [if_neg hw] at hq;refine af hw ?_;rcases bf hq with ⟨e,hx,rfl⟩ | ⟨ks,l1,hx,hq⟩
   ·refine ah _ KL ?_;rintro _ ⟨he,ks,I,rfl,To,TC⟩;refine ag mu ?_;refine aj (L,I,Mp+1 - 1,e.1,e.2,[]) lw (aa ⟨he,I,by show ai.mk L I (Mp+1 - 1) (eD e)=_; rw [Int.add_sub_cancel],To,by omega⟩)
   ·refine ah _ KL ?_;rintro _ ⟨j,l'',rfl,ha,hs,rfl⟩;have hj:=ha.1.1;have hn:=ha.next hL (sg6 hs)
    cases hq
    exact Gc
 rw [if_neg s3] at hq; cases hq;refine af s3 (ah _ uu ?_);exact wG
theorem RP {f:Nat}(ih:Rol f):∀ l,Rl cb true l (nb (f+1) l):=by
 intro l L hL M' i I Mp q hI gl h hq;subst hI;rw [nb] at hq;refine aP ?_;simp only [cb];refine bF nu λ j ha=>?_;have hj:=ha.1.1;by_cases k1:(hd true l).Ar=1
 ·rw [if_pos k1] at hq; cases hq;have hn:=ha.next hL O;refine ae k1 ?_;exact Bc
 rw [if_neg k1] at hq;refine af k1 ?_;by_cases k3:(hd true l).Ar=3
 ·rw [if_pos k3] at hq;refine aj (true,L,(j:Int),Mp,0,0,[]) (ae k3 (aa rfl)) (ae rfl ?_);refine ah _ (ih.s true l k3 L hL M' j _ Mp q rfl gl ha.1 hq) ?_;exact jA
 rw [if_neg k3] at hq;refine ah (λ t=>∃ j:Nat,t=(sgB true l [40],L,(j:Int),Mp,0,0,[])/\RAt L j Mp true l) (af k3 ?_) ?_
 ·
  refine bF ny λ j ha=>?_;exact u6
 rintro _ ⟨j,rfl,ha⟩;by_cases s1:sgB true l [40]=true
 ·rw [if_pos s1] at hq;refine ae s1 ?_;refine ah _ (C3 ih true l s1 L hL M' j _ Mp q rfl gl ha.1 hq) ?_;exact jA
 ·rw [if_neg s1] at hq; cases hq;refine af s1 (ah _ uu ?_);exact wG
theorem Oj {f:Nat}(ih:Rol f):∀ (tk:ac) (k:Int) (en:Bytes) l,wdB true l [102,111,114]=true->(k=12/\en=[93])\/(k=13/\en=[125])->RlC (λ n p=>d7 n p tk en) l (lD (f+1) tk.fAt k (tl true l)):=by
 intro tk k en l hw Ze L hL M' i I Mp b q hI hn0 hb gl h hq;subst hI;have Wi:=h.2.2.1;have X5:=h.1;have gt:=gll (b:=true) gl;rw [lD] at hq;have XI:(if k=13 then [125] else [93]:Bytes)=en:=by rcases Ze with ⟨rfl,rfl⟩ | ⟨rfl,rfl⟩ <;> rfl
 have Vb:en=[125]↔k=13:=by rcases Ze with ⟨rfl,rfl⟩ | ⟨rfl,rfl⟩ <;> decide
 rw [XI] at hq;refine aP ?_;simp only [d7,au,cl];refine aj k (av (λ h=>aa (Vb.1 h).symm) (λ h=>aa (by rcases Ze with ⟨rfl,rfl⟩ | ⟨rfl,rfl⟩; rfl; exact absurd rfl h))) ?_;refine ag qC ?_;refine bF nu λ j ha=>?_;have hj:=ha.1.1;have hn:=ha.next hL (wd6 hw);have g1:=glw gl hw;refine ag fO ?_;rcases bf hq with ⟨e,hx,rfl⟩ | ⟨v,l1,hx,hq⟩
 ·
  refine ah _ Hr ?_;rintro ⟨z1,z2⟩ ⟨he,I,h2,To,TC⟩
  cases h2
  refine ah (λ t=>∃ (w1 w2:Bytes),t=(w1,w2,L,I,Mp+1,e.1,e.2,[])) (aj (false,L,I,Mp+1,e.1,e.2,[]) lw (af mv (aa ⟨_,_,rfl⟩))) ?_;rintro _ ⟨w1,w2,rfl⟩;refine aj (L,I,Mp+1,e.1,e.2,[]) Hq ?_;refine ag Al ?_;have hI2:0<=I+1/\I+1<=1000000001:=by omega
  refine ah _ (iV he (I+1) (Mp+1)) ?_;rintro ⟨y1,y2⟩ hy
  cases hy
  generalize I+1=I2 at hI2 ⊢;refine ag cu ?_;refine aj (L,I2,Mp+1,e.1,e.2,[]) lw ?_;refine ah _ (iV he I2 (Mp+1)) ?_;rintro ⟨y1,y2⟩ hy
  cases hy
  exact AC
 ·
  refine bF Hr λ j h3=>?_;have f1:=oX (b:=true) g1 _ hx;have gl1:Gl l1:=f1.2.2;have b1:=(f1.2.1.trans (tlS true _)).length_le;rcases bf hq with ⟨e,hy,rfl⟩ | ⟨nk,l2,hy,hq⟩
  ·
   refine ah (λ t=>e.1≠0/\∃ (w1 w2:Bytes) (I:Int),t=(w1,w2,L,I,Mp+1,e.1,e.2,[])/\0<=I/\I<=1000000000) ?_ ?_
   ·
    refine ah (λ t=>∃ j:Nat,t=(sgB true l1 [44],L,(j:Int),Mp+1,0,0,[])/\RAt L j (Mp+1) true l1) (ae Z ?_) ?_
    ·
     refine bF px λ j ha=>?_;exact u6
    rintro _ ⟨j,rfl,ha⟩;have hj:=ha.1.1;by_cases hc:sgB true l1 [44]=true
    ·
     rw [if_pos hc] at hy;have hn:=ha.next hL (sg6 hc);refine ae hc ?_;refine ag fO ?_;rcases bf hy with ⟨e,hz,hee⟩ | ⟨v2,l3,hz,hee⟩
     ·cases hee
      refine ah _ J6 ?_;rintro ⟨z1,z2⟩ ⟨he,I,h2,To,TC⟩
      cases h2
      exact aa ⟨he,_,_,I,Z,To,by omega⟩
     ·cases hee
    ·
     rw [if_neg hc] at hy; cases hy
   rintro _ ⟨he,w1,w2,I,rfl,To,TC⟩;refine aj (L,I,Mp+1,e.1,e.2,[]) Hq ?_;refine ag Al ?_;have hI2:0<=I+1/\I+1<=1000000001:=by omega
   refine ah _ (iV he (I+1) (Mp+1)) ?_;rintro ⟨y1,y2⟩ hy
   cases hy
   generalize I+1=I2 at hI2 ⊢;refine ag cu ?_;refine aj (L,I2,Mp+1,e.1,e.2,[]) lw ?_;refine ah _ (iV he I2 (Mp+1)) ?_;rintro ⟨y1,y2⟩ hy
   cases hy
   exact AC
  ·
   have gl2:Gl l2:=by
    by_cases hc:sgB true l1 [44]=true
    ·rw [if_pos hc] at hy;rcases bf hy with ⟨e,hz,hee⟩ | ⟨v2,l3,hz,hee⟩
     ·cases hee
     ·cases hee; exact (oX (glt gl1 hc) _ hz).2.2
    ·rw [if_neg hc] at hy; cases hy; exact gl1
   refine ah (λ t=>∃ j:Nat,t=(nk.1,nk.2,L,(j:Int),Mp+1,0,0,[])/\eq L j (Mp+1) true l2) ?_ ?_
   ·
    refine ah (λ t=>∃ j:Nat,t=(sgB true l1 [44],L,(j:Int),Mp+1,0,0,[])/\RAt L j (Mp+1) true l1) (ae Z ?_) ?_
    ·
     refine bF px λ j ha=>?_;exact u6
    rintro _ ⟨j,rfl,ha⟩;have hj:=ha.1.1;by_cases hc:sgB true l1 [44]=true
    ·
     rw [if_pos hc] at hy;have hn:=ha.next hL (sg6 hc);refine ae hc ?_;refine ag fO ?_;rcases bf hy with ⟨e,hz,hee⟩ | ⟨v2,l3,hz,hee⟩
     ·cases hee
     ·
      refine bF J6 λ j h3=>?_
      cases hee
      exact ku
    ·
     rw [if_neg hc] at hy; cases hy;exact af hc (aa ⟨j,rfl,ha.1⟩)
   rintro _ ⟨j,rfl,h3⟩;rcases bf hq with ⟨e,hx,rfl⟩ | ⟨u,l3,hx,hq⟩
   ·
    unfold zt at hx;by_cases hc:wdB true l2 [105,110]=true
    ·rw [if_pos hc] at hx; cases hx
    rw [if_neg hc] at hx; cases hx;refine ah (λ t=>((2,(hd true l2).fAt):PE).1≠0/\∃ (I:Int),t=(L,I,Mp+1,2,(hd true l2).fAt,[])/\0<=I/\I<=1000000000) ?_ ?_
    ·
     refine ah (λ t=>∃ j:Nat,t=(!wdB true l2 [105,110],L,(j:Int),Mp+1,0,0,[])/\RAt L j (Mp+1) true l2) (ae Z ?_) ?_
     ·
      exact w5
     rintro _ ⟨j,rfl,ha⟩;refine ae (by simpa using hc) (ah _ uu ?_);exact wG
    obtain ⟨e,he2⟩:∃ e:PE,e=(2,(hd true l2).fAt):=⟨_,rfl⟩
    rw [<- he2];rintro _ ⟨he,I,hI,To,TC⟩;rw [show (2,(hd true l2).fAt,([]:Bytes))=(e.1,e.2,[]) by rw [he2]] at hI
    cases hI
    refine ag Al ?_;have hI2:0<=I+1/\I+1<=1000000001:=by omega
    refine ah _ (iV he (I+1) (Mp+1)) ?_;rintro ⟨y1,y2⟩ hy
    cases hy
    generalize I+1=I2 at hI2 ⊢;refine ag cu ?_;refine aj (L,I2,Mp+1,e.1,e.2,[]) lw ?_;refine ah _ (iV he I2 (Mp+1)) ?_;rintro ⟨y1,y2⟩ hy
    cases hy
    exact AC
   ·
    have f3:=AJ (b:=true) (s:=[105,110]) gl2 _ hx;have gl3:Gl l3:=f3.2.2;refine ah (λ t=>∃ j:Nat,t=(L,(j:Int),Mp+1,0,0,[])/\RAt L j (Mp+1) true l2/\wdB true l2 [105,110]=true/\l3=tl true l2) ?_ ?_
    ·
     unfold zt at hx;by_cases hc:wdB true l2 [105,110]=true
     ·
      rw [if_pos hc] at hx; cases hx;refine ah (λ t=>∃ j:Nat,t=(!wdB true l2 [105,110],L,(j:Int),Mp+1,0,0,[])/\RAt L j (Mp+1) true l2) (ae rfl ?_) ?_
      ·
       exact w5
      rintro _ ⟨j,rfl,ha⟩;exact af (by simp [hc]) (aa ⟨j,rfl,ha,hc,rfl⟩)
     ·rw [if_neg hc] at hx; cases hx
    rintro _ ⟨j,rfl,ha,hc,rfl⟩;have hj:=ha.1.1;have hn:=ha.next hL (wd6 hc);refine ag fO ?_
    have bl2:l2.length<=l.length:=by
     by_cases hc:sgB true l1 [44]=true
     ·rw [if_pos hc] at hy;rcases bf hy with ⟨e,hz,hee⟩ | ⟨v2,l3,hz,hee⟩
      ·cases hee
      ·cases hee; have:=((oX (glt gl1 hc) _ hz).2.1.trans ((tlS true _).trans (tlS true l1))).length_le; omega
     ·rw [if_neg hc] at hy; cases hy; omega
    have bt2:=(tlS true l2).length_le;refine tg hq (λ _ Wh=>pr ih true (tl true l2) L hL M' (j+1) ((j:Int)+1) (Mp+1) _ Z gl3 hn.1 Wh) ?_ ?_
    ·
     rintro e z1 I he To TC rfl;have TC:I<=1000000000+(l.length:Int):=by omega
     refine ag cu ?_;refine aj (L,I,Mp+1,e.1,e.2,[]) lw ?_;refine ah _ (iV he I (Mp+1)) ?_;rintro ⟨y1,y2⟩ hy
     cases hy
     exact Be
    intro x l4 j Wh h3 hq;refine ag cu ?_;have f4:=(fct f).e true _ gl3 _ Wh;have bl4:=(f4.2.1.trans (tlS true _)).length_le;rcases bf hq with ⟨e,ZL,rfl⟩ | ⟨u,l5,ZL,hq⟩
    ·
     refine ah (λ t=>e.1≠0/\∃ I:Int,t=(L,I,Mp+1,e.1,e.2,[])/\0<=I/\I<=1000000000) (ae Z ?_) ?_
     ·
      refine ah _ wZ ?_;rintro _ ⟨he,I,rfl,To,TC⟩;exact nz
     rintro _ ⟨he,I,rfl,To,TC⟩;refine ah _ (iV he I (Mp+1)) ?_;rintro ⟨y1,y2⟩ hy
     cases hy
     exact Be
    ·
     have f5:=cZ (b:=true) (s:=[58]) f4.2.2 _ ZL;have bl5:=(f5.2.1.trans (tlS true _)).length_le;refine ah (λ t=>∃ j:Nat,t=(L,(j:Int),Mp+1,0,0,[])/\eq L j (Mp+1) true l5/\L.drop j=l5) (ae Z ?_) ?_
     ·
      refine ah _ wZ ?_;exact rJ
     rintro _ ⟨j,rfl,h3,h4⟩;refine tg hq (λ _ ZK=>pr ih true l5 L hL M' j _ (Mp+1) _ rfl f5.2.2 h3 ZK) ?_ ?_
     ·
      rintro e z1 I he To TC rfl;exact Be
     intro c l6 j ZK h3 hq;refine ag cu ?_;have f6:=(fct f).e true _ f5.2.2 _ ZK;have bl6:=(f6.2.1.trans (tlS true _)).length_le;rcases bf hq with ⟨e,hy2,rfl⟩ | ⟨ks,l7,hy2,hq⟩
     ·
      refine ah (λ t=>e.1≠0/\∃ (ks:List ad) (I:Int),t=(ks,L,I,Mp+1,e.1,e.2,[])/\ks.length<=3/\0<=I/\I<=1000000000+(l.length:Int)) ?_ ?_
      ·
       refine av (λ hk=>?_) (λ hk=>?_)
       ·
        rw [if_pos (Vb.1 hk)] at hy2;rcases bf hy2 with ⟨e,hz,hee⟩ | ⟨u,l8,hz,hy3⟩
        ·cases hee
         refine ah (λ t=>e.1≠0/\∃ I:Int,t=(L,I,Mp+1,e.1,e.2,[])/\0<=I/\I<=1000000000) (ae Z ?_) ?_
         ·
          refine ah _ (iw hL M' _ h3 hz) ?_;rintro _ ⟨he,I,rfl,To,TC⟩;exact nz
         rintro _ ⟨he,I,rfl,To,TC⟩;refine ah _ (iV he I (Mp+1)) ?_;rintro ⟨y1,y2⟩ hy
         cases hy
         exact IL
        ·
         have f8:=cZ (b:=true) (s:=[61,62]) f6.2.2 _ hz;have bl8:=(f8.2.1.trans (tlS true _)).length_le;refine ah (λ t=>∃ j:Nat,t=(L,(j:Int),Mp+1,0,0,[])/\eq L j (Mp+1) true l8/\L.drop j=l8) (ae Z ?_) ?_
         ·
          refine ah _ (iw hL M' _ h3 hz) ?_;exact rJ
         rintro _ ⟨j,rfl,h3,h4⟩;rcases bf hy3 with ⟨e,hz2,hee⟩ | ⟨d,l9,hz2,hee⟩
         ·cases hee
          refine ah _ KP ?_;rintro ⟨z1,z2⟩ ⟨he,I,h2,To,TC⟩
          cases h2
          exact IL
         ·cases hee
       ·rw [if_neg (λ h=>hk (Vb.2 h))] at hy2; cases hy2
      rintro _ ⟨he,ks,I,rfl,hks,To,TC⟩;refine ah (λ t=>∃ ks:List ad,t=(ks,L,I,Mp+1,e.1,e.2,[])) (aj (false,L,I,Mp+1,e.1,e.2,[]) lw (af mv (aa ⟨_,rfl⟩))) ?_;rintro _ ⟨ks,rfl⟩;exact HG
     ·
      have gl7:Gl l7/\l7.length<=l6.length:=by
       by_cases hk:k=13
       ·rw [if_pos hk] at hy2;rcases bf hy2 with ⟨e,hz,hee⟩ | ⟨u,l8,hz,hy3⟩
        ·cases hee
        rcases bf hy3 with ⟨e,hz2,hee⟩ | ⟨d,l9,hz2,hee⟩
        ·cases hee
        cases hee
        have f8:=cZ (b:=true) (s:=[61,62]) f6.2.2 _ hz;have f9:=(fct f).e true _ f8.2.2 _ hz2;exact ⟨f9.2.2,(f9.2.1.trans ((tlS true _).trans (f8.2.1.trans (tlS true _)))).length_le⟩
       ·rw [if_neg hk] at hy2; cases hy2; exact ⟨f6.2.2,bx _⟩
      refine ah (λ t=>∃ j:Nat,t=(ks,L,(j:Int),Mp+1,0,0,[])/\ks.length<=3/\eq L j (Mp+1) true l7) ?_ ?_
      ·
       refine av (λ hk=>?_) (λ hk=>?_)
       ·
        rw [if_pos (Vb.1 hk)] at hy2;rcases bf hy2 with ⟨e,hz,hee⟩ | ⟨u,l8,hz,hy3⟩
        ·cases hee
        ·
         have f8:=cZ (b:=true) (s:=[61,62]) f6.2.2 _ hz;have bl8:=(f8.2.1.trans (tlS true _)).length_le;refine ah (λ t=>∃ j:Nat,t=(L,(j:Int),Mp+1,0,0,[])/\eq L j (Mp+1) true l8/\L.drop j=l8) (ae Z ?_) ?_
         ·
          refine ah _ (iw hL M' _ h3 hz) ?_;exact rJ
         rintro _ ⟨j,rfl,h3,h4⟩;rcases bf hy3 with ⟨e,hz2,hee⟩ | ⟨d,l9,hz2,hee⟩
         ·cases hee
         ·
          refine bF KP λ j h3=>?_;refine ag cu ?_
          cases hee
          exact aa ⟨j,Z,by simp,h3⟩
       ·rw [if_neg (λ h=>hk (Vb.2 h))] at hy2; cases hy2;exact aa ⟨j,rfl,by simp,h3⟩
      rintro _ ⟨j,rfl,hks,h3⟩;have bl7:=gl7.2;rcases bf hq with ⟨e,hy4,rfl⟩ | ⟨ks2,l8,hy4,hq⟩
      ·
       refine ah (λ t=>e.1≠0/\∃ (ks:List ad) (I:Int),t=(ks,L,I,Mp+1,e.1,e.2,[])/\0<=I/\I<=1000000000+(l.length:Int)) ?_ ?_
       ·
        refine ah (λ t=>∃ j:Nat,t=(wdB true l7 [105,102],L,(j:Int),Mp+1,0,0,[])/\RAt L j (Mp+1) true l7) (ae Z ?_) ?_
        ·
         exact w5
        rintro _ ⟨j,rfl,ha⟩;have hj:=ha.1.1;by_cases hc:wdB true l7 [105,102]=true
        ·
         rw [if_pos hc] at hy4;have hn:=ha.next hL (wd6 hc);have bt7:=(tlS true l7).length_le;refine ae hc ?_;refine ag fO ?_;rcases bf hy4 with ⟨e,hz,hee⟩ | ⟨d,l9,hz,hee⟩
         ·cases hee
          refine ah _ Kf ?_;rintro ⟨z1,z2⟩ ⟨he,I,h2,To,TC⟩
          cases h2
          refine ag cu ?_;exact AR
         ·cases hee
        ·
         rw [if_neg hc] at hy4; cases hy4
       rintro _ ⟨he,ks,I,rfl,To,TC⟩;exact HG
      ·
       refine ah (λ t=>∃ j:Nat,t=(ks2,L,(j:Int),Mp+1,0,0,[])/\eq L j (Mp+1) true l8) ?_ ?_
       ·
        refine ah (λ t=>∃ j:Nat,t=(wdB true l7 [105,102],L,(j:Int),Mp+1,0,0,[])/\RAt L j (Mp+1) true l7) (ae Z ?_) ?_
        ·
         exact w5
        rintro _ ⟨j,rfl,ha⟩;have hj:=ha.1.1;by_cases hc:wdB true l7 [105,102]=true
        ·
         rw [if_pos hc] at hy4;have hn:=ha.next hL (wd6 hc);have bt7:=(tlS true l7).length_le;refine ae hc ?_;refine ag fO ?_;rcases bf hy4 with ⟨e,hz,hee⟩ | ⟨d,l9,hz,hee⟩
         ·cases hee
         ·
          refine bF Kf λ j h3=>?_;refine ag cu ?_
          cases hee
          exact ku
        ·
         rw [if_neg hc] at hy4; cases hy4;exact af hc (aa ⟨j,rfl,ha.1⟩)
       rintro _ ⟨j,rfl,h3⟩;rcases bf hq with ⟨e,hx5,rfl⟩ | ⟨u,l9,hx5,hq⟩
       ·
        refine ah (λ t=>e.1≠0/\∃ I:Int,t=(L,I,Mp+1,e.1,e.2,[])/\0<=I/\I<=1000000000) (ae Z ?_) ?_
        ·
         refine ah _ (iw hL M' _ h3 hx5) ?_;rintro _ ⟨he,I,rfl,To,TC⟩;exact nz
        rintro _ ⟨he,I,rfl,To,TC⟩;refine ag mu ?_;exact aa ⟨he,I,by show ai.mk L I (Mp+1 - 1) (eD e)=_; rw [Int.add_sub_cancel],by omega,by omega⟩
       ·
        refine ah (λ t=>∃ j:Nat,t=(L,(j:Int),Mp+1,0,0,[])/\eq L j (Mp+1) true l9/\L.drop j=l9) (ae Z ?_) ?_
        ·
         refine ah _ (iw hL M' _ h3 hx5) ?_;exact rJ
        exact Ij
end Go.Ab.R06
end
section
namespace Go.Ab.R06
open Go.Ab Go.Ab.RB Go.Lib
section
variable {p:Prop}
theorem HX (h:p:=by
 exact i2 (s.length - r'.length) _ y (by show (s.length:Int) - (r'.length:Int) - 1+1=_; omega) O (by rw [hsd]; exact h)):p:=h
theorem wA (h:p:=by
 have:=EI hl
 exact af O (aa (.inl Z))):p:=h
theorem GT (h:p:=by
 exact ae (by decide) (aa (by unfold um; rw [if_neg (by decide)]; rfl))):p:=h
theorem wU (h:p:=by
 cases y with
 | none =>
  rintro r (rfl | rfl)
  ·exact aa Z
  ·rfl
 | some r'=>rintro r rfl; rfl):p:=h
theorem G5 (h:p:=by
 exact i1 d (i+1) (ci+1) di y O O O (by rw [g3]; omega) O (by rw [g3]; exact h)):p:=h
theorem IB (h:p:=by
 have hlr:r.length=s.length - (i+1):=by rw [<- g3,ld]
 refine ae O (aa ?_);show Sum.inr ci=Sum.inr _
 congr 1; omega):p:=h
theorem GA (h:p:=by
 exact i1 (d+1) (i+1) (ci+1) (di+1) y O O O (by rw [g3]; omega) O (by rw [g3]; exact h)):p:=h
theorem G0 (h:p:=by
 exact i1 (d - 1) (i+1) (ci+1) (di - 1) y O O O (by rw [g3]; omega) O (by rw [g3]; exact h)):p:=h
theorem Cq (h:p:=by exact bv (by show _<=(s.length:Int) - (r'.length:Int) - 1+1; omega) (by show (s.length:Int) - (r'.length:Int) - 1+1<=_; omega)):p:=h
theorem KG (h:p:=by exact ag (bv (by (try simp only []); omega) (by (try simp only []); omega)) (aa Z)):p:=h
theorem B8 (h:p:=by exact bv (by show _<=ci+1; omega) (by show ci+1<=_; omega)):p:=h
theorem Ao (h:p:=by rw [List.length_take]; omega):p:=h
theorem tZ (h:p:=by exact ax (nw _ _) hp):p:=h
end
theorem qH {s:Bytes}{i:Nat}{b:UInt8}{r:Bytes}(h:s.drop i=b::r):s.getD i 0=b/\i < s.length/\s.drop (i+1)=r:=by
 have hi:i < s.length:=by
  rcases Nat.lt_or_ge i s.length with q | q
  ·exact q
  ·rw [List.drop_eq_nil_of_le q] at h; cases h
 rw [List.drop_eq_getElem_cons hi] at h
 injection h with h1 h2
 refine ⟨?_,hi,h2⟩;rw [<- h1]; simp [hi]
theorem EI {s:Bytes}{i:Nat}(h:s.drop i=[]):s.length<=i:=List.drop_eq_nil_iff.1 h
theorem oT (s:Bytes)(i k:Nat):s.drop (i+k)=(s.drop i).drop k:=by rw [List.drop_drop]
theorem Et {s r:Bytes}(h:r <:+ s):s.drop (s.length - r.length)=r:=(List.suffix_iff_eq_drop.1 h).symm
theorem nw (l p:Bytes):strings_HasPrefix l p=some (hasPrefix l p):=rfl
def CO (s:Bytes)(y:Option Bytes)(r:Unit⊕Int):Prop:=match y with
 | none=>r=.inl ()\/r=.inr (-1)
 | some r'=>r=.inr ((s.length:Int) - (r'.length:Int) - 1)
def G7 (s:Bytes):Option Bytes->Int
 | none=>-1
 | some r'=>(s.length:Int) - (r'.length:Int) - 1
theorem C2 {s:Bytes}{i:Int}{y:Option Bytes}(h:Ev2 (λ n m=>dG (fS n) s m i 1) (CO s y)):Ev2 (λ n _=>dF n s i) (·=G7 s y):=by
 refine aP ?_;simp only [dF];refine cj (aQ (aN (f:=λ n m=>dG (fS n) s m i 1) h) ?_);exact wU
theorem MQ {s:Bytes}{i:Int}{y:Option Bytes}(h:Ev2 (λ n m=>ef (dF n) s m i) (CO s y)):Ev2 (λ n _=>fS n s i) (·=G7 s y):=by
 refine aP ?_;simp only [fS];refine cj (aQ (aN (f:=λ n m=>ef (dF n) s m i) h) ?_);exact wU
theorem GX {s:Bytes}(hs:s.length<=1000000000):∀ (f:Nat),
  (∀ (d i:Nat) (ci di:Int) (y:Option Bytes),ci=i->di=d->1<=d->d+(s.drop i).length<=2000000000->i<=1000000010->fZ f d (s.drop i)=some y->Ev2 (λ n m=>dG (fS n) s m ci di) (CO s y)) /\
  (∀ (i:Nat) (ci:Int) (y:Option Bytes),ci=i->i<=1000000010->ix f (s.drop i)=some y->Ev2 (λ n m=>ef (dF n) s m ci) (CO s y))
 | 0=>⟨λ d i ci di y _ _ _ _ _ h=>(by rw [fZ] at h; cases h),λ i ci y _ _ h=>(by rw [ix] at h; cases h)⟩
 | f+1=>by
  obtain ⟨i1,i2⟩:=GX hs f;constructor
  ·intro d i ci di y hci hdi h1 hd hi h;refine aw ?_;simp only [dG]
   cases hl:s.drop i with
   | nil =>
    rw [hl,fZ] at h; cases h;exact wA
   | cons b r =>
    obtain ⟨g1,g2,g3⟩:=qH hl;have hb:byt s ci=(b.toNat:Int):=by rw [hci,cD,g1]
    rw [hl,fZ] at h;rw [hl,aq] at hd;refine ae O (ag O ?_);rw [hb];refine cj ?_;by_cases h123:b.toNat=123
    ·rw [if_pos h123] at h;refine ae O (ag aB (aa (ag B8 ?_)));exact GA
    rw [if_neg h123] at h;refine af O ?_;by_cases h125:b.toNat=125
    ·rw [if_pos h125] at h;refine ae O (ag aB ?_);by_cases hd1:d=1
     ·rw [if_pos hd1] at h; cases h;exact IB
     ·rw [if_neg hd1] at h;refine af O (aa (ag B8 ?_));exact G0
    rw [if_neg h125] at h;refine af O ?_;by_cases h34:b.toNat=34
    ·rw [if_pos h34] at h;refine ae O (ag aB ?_)
     cases hq:ix f r with
     | none=>rw [hq] at h; cases h
     | some z =>
      rw [hq] at h;refine aj _ (MQ (i2 (i+1) (ci+1) z O O  (by rw [g3]; exact hq))) ?_
      cases z with
      | none=>cases h; exact ae (show (-1:Int) < 0 by decide) (aa (.inr rfl))
      | some r' =>
       have hsf:=(iK f).2 _ _ hq;have Sk:=hsf.1.length_le;have hrl:r.length=s.length - (i+1):=by rw [<- g3,ld]
       have hrs:r' <:+ s:=by rw [<- g3] at hsf; exact hsf.1.trans (List.drop_suffix _ _)
       have hsd:=Et hrs;refine af (by show ¬ (s.length:Int) - (r'.length:Int) - 1 < 0; omega) (aa (ag Cq ?_));exact i1 d (s.length - r'.length) _ di y (by show (s.length:Int) - (r'.length:Int) - 1+1=_; omega) hdi h1 (by rw [hsd]; omega) O (by rw [hsd]; exact h)
    ·rw [if_neg h34] at h;refine af O (aa (ag B8 ?_));exact G5
  ·intro i ci y hci hi h;refine aw ?_;simp only [ef]
   cases hl:s.drop i with
   | nil =>
    rw [hl,ix] at h; cases h;exact wA
   | cons b r =>
    obtain ⟨g1,g2,g3⟩:=qH hl;have hb:byt s ci=(b.toNat:Int):=by rw [hci,cD,g1]
    have hsub:sub s ci (s.length:Int)=b::r:=by rw [jQ,hci,Int.toNat_natCast,hl]
    rw [hl,ix] at h;refine ae O ?_;rw [hb,hsub];refine cj (ag O ?_);by_cases h34:b.toNat=34
    ·rw [if_pos h34] at h; cases h;exact IB
    rw [if_neg h34] at h;refine af O (ag O ?_);by_cases h92:b.toNat=92
    ·rw [if_pos h92] at h;refine ae O (ag aB (aa (ag aB ?_)));exact i2 (i+1+1) (ci+1+1) y O O  (by rw [oT s (i+1) 1,g3]; exact h)
    rw [if_neg h92] at h;refine af O (ag O (aj _ (ax (nw _ _) rfl) ?_));by_cases hp3:hasPrefix (b::r) [36,36,123]=true
    ·rw [if_pos hp3] at h;refine ae hp3 (ag aB (aa (ag aB ?_)));exact i2 (i+3) (ci+2+1) y O O  (by rw [oT s i 3,hl]; exact h)
    rw [if_neg hp3] at h;refine af hp3 (ag O (aj _ (ax (nw _ _) rfl) ?_));by_cases hp2:hasPrefix (b::r) [36,123]=true
    ·rw [if_pos hp2] at h;refine ae hp2 (ag aB ?_)
     cases hq:fZ f 1 ((b::r).drop 2) with
     | none=>rw [hq] at h; cases h
     | some z =>
      rw [hq] at h;have e2:s.drop (i+2)=(b::r).drop 2:=by rw [oT s i 2,hl]
      refine aj _ (C2 (i1 1 (i+2) (ci+2) 1 z O rfl (by decide) iR O (by rw [e2]; exact hq))) ?_
      cases z with
      | none=>cases h; exact ae (show (-1:Int) < 0 by decide) (aa (.inr rfl))
      | some r' =>
       have hsf:=(iK f).1 _ _ _ hq;have Sk:=hsf.1.length_le;have hrl:((b::r).drop 2).length=s.length - (i+2):=by rw [<- e2,ld]
       have hrs:r' <:+ s:=by rw [<- e2] at hsf; exact hsf.1.trans (List.drop_suffix _ _)
       have hsd:=Et hrs;refine af (by show ¬ (s.length:Int) - (r'.length:Int) - 1 < 0; omega) (aa (ag Cq ?_));exact HX
    ·rw [if_neg hp2] at h;refine af hp2 (aa (ag aB ?_));exact i2 (i+1) (ci+1) y O O  (by rw [g3]; exact h)
theorem sT:∀ (k:Nat) (l:Bytes) (a:Nat) (x:Bytes),(bN k l a).2 < l.length->bN k (l.take ((bN k l a).2+1)++x) a=bN k l a
 | 0,l,a,x,_=>by rw [bN,bN]
 | k+1,[],a,x,h=>by simp at h
 | k+1,b::r,a,x,h=>by
  have e:bN (k+1) (b::r) a=match pd b with
   | some d=>((bN k r (16*a+d)).1,(bN k r (16*a+d)).2+1)
   | none=>(a,0):=by rw [bN]; cases pd b <;> rfl
  cases hd:pd b with
  | none =>
   rw [hd] at e;rw [e];show bN (k+1) (b::x) a=_;rw [bN,hd]
  | some d =>
   rw [hd] at e;simp only at e;rw [e] at h ⊢;have ih:=sT k r (16*a+d) x (by simp only [aq] at h; omega);show bN (k+1) (b::(r.take ((bN k r (16*a+d)).2+1)++x)) a=_;rw [bN,hd];simp only [ih]
theorem C6 (b:UInt8):strings_IndexByte ([48,49,50,51,52,53,54,55,56,57,97,98,99,100,101,102]:Bytes) (b.toNat:Int)=some (indexByte EK b)/\decide (0<=indexByte EK b)=(pd b).isSome:=by
 constructor
 ·exact HK
 ·rw [wi]
  cases pd b with
  | none=>rfl
  | some d=>simp
theorem LV (s:Bytes)(_hs:s.length<=1000000000):∀ (k i a:Nat),i+k=6->i<=s.length->Ev2 (λ _ m=>b8 s m (i:Int)) (·=((i+(bN k (s.drop i) a).2:Nat):Int)):=by
 intro k
 induction k with
 | zero =>
  intro i a hi hl;refine aw ?_;simp only [b8];refine aj false (av (λ _=>af O (aa rfl)) (λ _=>aa rfl)) (af mv (aa ?_));rw [bN]; rfl
 | succ k ih =>
  intro i a hi hl;refine aw ?_;simp only [b8]
  cases hd:s.drop i with
  | nil =>
   have:=EI hd;refine aj false oO (af mv (aa ?_));rw [bN]; rfl
  | cons b r =>
   obtain ⟨g1,g2,g3⟩:=qH hd;have hb:byt s (i:Int)=(b.toNat:Int):=by rw [cD,g1]
   refine aj (pd b).isSome ?_ ?_
   ·refine ae O (ae O (ag O ?_));rw [hb];exact aj _ (ax (C6 b).1 Z) (aa (C6 b).2)
   ·rw [bN]
    cases hx:pd b with
    | none=>exact af mv (aa Z)
    | some d =>
     refine ae rfl (ag aB ?_);have:=rj (P:=λ j=>Ev2 (λ _ m=>b8 s m j) _) (ih (i+1) (16*a+d) O O);refine aQ this ?_;rintro _ rfl;rw [g3]; congr 1; simp only []; omega
theorem LR (s:Bytes)(hs:s.length<=1000000000):Ev2 (λ n _=>gS n s) (·=((bN 6 s 0).2:Int)):=by
 simp only [gS];refine aj _ (aN (f:=λ _ m=>b8 s m 0) (LV s hs 6 0 0 rfl (rg _))) (aa ?_);rw [List.drop_zero,Nat.zero_add]
theorem Bt (b:UInt8)(r:Bytes)(h:b.toNat < 128):decodeL (b::r)=(b.toNat,1):=by
 have e:=wc b h;have h2:=Dm (b.toNat:Int) (by unfold gr; omega) r;rw [e] at h2;simpa using h2
theorem ND (r:Bytes):(decodeL (92::r)).1=92:=by
 have:=Bt (92:UInt8) r (by decide);rw [this]; rfl
theorem MB (x:Bytes):((cW (x++[34])).2.2=0->(cW (x++[34])).2.1=(x.length:Int)->(JE (34::92::(x++[34]))).1=encodeRune (cW (x++[34])).1/\(JE (34::92::(x++[34]))).2.2=0)/\((cW (x++[34])).2.2≠0->(JE (34::92::(x++[34]))).2.2≠0):=by
 have h34:(34:UInt8).toNat=34:=rfl;rw [vH,if_pos h34,pS,if_neg (show ¬ (92:UInt8).toNat=34 by decide),if_pos (ND _)];constructor
 ·intro h0 h1;rw [if_pos h0,h1,Int.toNat_natCast,List.drop_left];have hn:(92::(x++[34])).length=(x.length+1)+1:=by simp
  rw [hn,pS,if_pos h34];have hr:=(og (x++[34])).2.2.1 h0;have hle:=lM _ hr.1;simp only [List.nil_append];rw [if_neg O,if_neg O];exact ⟨rfl,rfl⟩
 ·intro h0;rw [if_neg h0];exact h0
theorem Nh {c:UInt8}(h:c.toNat≠117)(t t':Bytes):cW (c::t)=cW (c::t')/\((cW (c::t)).2.2=0->(cW (c::t)).2.1=1)/\((cW (c::t)).2.2≠0->(cW (c::t)).2.2=2):=by
 have e:∀ t:Bytes,cW (c::t)=if c.toNat=110 then (10,1,0) else if c.toNat=114 then (13,1,0) else if c.toNat=116 then (9,1,0) else if c.toNat=34\/c.toNat=92 then ((c.toNat:Int),1,0) else (0,0,2):=λ t=>by
  rw [pQ];simp only [if_neg h]
 rw [e t,e t'];refine ⟨rfl,?_⟩;by_cases h1:c.toNat=110
 ·rw [if_pos h1]; simp
 rw [if_neg h1];by_cases h2:c.toNat=114
 ·rw [if_pos h2]; simp
 rw [if_neg h2];by_cases h3:c.toNat=116
 ·rw [if_pos h3]; simp
 rw [if_neg h3];by_cases h4:c.toNat=34\/c.toNat=92
 ·rw [if_pos h4]; simp
 rw [if_neg h4]; simp
theorem CM (d:UInt8)(u:Bytes):cW (117::d::u)=if d.toNat=123 then ((fx u).1,(fx u).2.1+2,(fx u).2.2) else (0,0,2):=by
 rw [pQ]; rfl
theorem Ec (u:Bytes)(h:(bN 6 u 0).2 < u.length):fx (u.take ((bN 6 u 0).2+1)++[34])=fx u/\((fx u).2.2=0->(fx u).2.1=(((bN 6 u 0).2+1:Nat):Int))/\((fx u).2.2≠0->(fx u).2.2=2):=by
 have e:=sT 6 u 0 [34] h;unfold fx;rw [e];generalize bN 6 u 0=H at h ⊢;obtain ⟨v,c⟩:=H;simp only at h ⊢
 have l1:¬ c=(u.take (c+1)++[34]).length:=by
  rw [ph,List.length_take,List.length_singleton]; omega
 have g1:∀ k,k<=c->(u.take (c+1)++[34]).getD k 0=u.getD k 0:=by
  intro k hk;rw [List.getD_eq_getElem?_getD,List.getD_eq_getElem?_getD,List.getElem?_append_left Ao,List.getElem?_take_of_lt O]
 rw [if_neg l1,if_neg (show ¬ c=u.length by omega),g1 c (bx _),g1 0 (rg _)];refine ⟨rfl,?_⟩;split
 ·simp
 ·simp
def um (r:Bytes):Bytes×Int×Int:=if (cW r).2.2=0 then (encodeRune (cW r).1,(cW r).2.1+1,0) else ([],0,(cW r).2.2)
theorem Dq {s x:Bytes}{k:Int}(_hs:s.length<=1000000000)(hxs:x.length<=100)(hk:k=((x.length+1:Nat):Int))(hx:s.take (x.length+1)=92::x){q:Bytes×Int×Int}(h0:(cW (x++[34])).2.2=0->(cW (x++[34])).2.1=(x.length:Int)/\q=(encodeRune (cW (x++[34])).1,k,0))(h1:(cW (x++[34])).2.2≠0->q=([],0,2)) :
  Ev2 (λ n _=>if (s.length:Int) < k then some (([]:Bytes),(0:Int),(40:Int)) else
   ck ((0:Int)<=0/\0<=k/\k<=(s.length:Int)) <|
   ck (([34]:Bytes).length+(sub s 0 k).length<=9223372036854775807) <|
   ck ((([34]:Bytes)++(sub s 0 k)).length+([34]:Bytes).length<=9223372036854775807) <|
   (hQ n ((([34]:Bytes)++(sub s 0 k))++([34]:Bytes))).bind λ Ub =>
   if Ub.2.2=0 then some (Ub.1,k,0) else some (([]:Bytes),0,2)) (·=q):=by
 have hl:(92::x).length=x.length+1:=rfl
 have hxl:x.length+1<=s.length:=by
  have:=congrArg List.length hx;rw [List.length_take,hl] at this; omega
 have hsub:sub s 0 k=92::x:=by
  subst hk;show (s.take _).drop 0=_;rw [List.drop_zero,Int.toNat_natCast,hx]
 rw [hsub];refine af O (ag O (ag nc (ag kw ?_)));have SQ:((([34]:Bytes)++(92::x))++([34]:Bytes)).length<=1000000000:=by simp only [ph,aq,n8]; omega
 refine aj _ (Ot _ SQ) ?_;have e:(([34]:Bytes)++(92::x))++([34]:Bytes)=34::92::(x++[34]):=rfl;rw [e];obtain ⟨u1,u2⟩:=MB x;by_cases hz:(cW (x++[34])).2.2=0
 ·obtain ⟨z1,z2⟩:=h0 hz;obtain ⟨w1,w2⟩:=u1 hz z1;exact ae w2 (aa (by rw [w1,z2]))
 ·exact af (u2 hz) (aa (h1 hz).symm)
theorem Ny {r:Bytes}(hs:(92::r:Bytes).length<=1000000000):Ev2 (λ n _=>lh n (92::r)) (·=um r):=by
 simp only [lh];have hl0:(92::r:Bytes).length=r.length+1:=rfl
 cases r with
 | nil =>
  refine ey 2 (aj false (ax (nw _ _) (by decide)) sc) ?_;exact GT
 | cons c t =>
  by_cases hc:c.toNat=117
  ·have hc':c=117:=(pn (by decide)).1 hc;subst hc';have hp:hasPrefix (92::117::t) [92,117]=true:=by simp [hasPrefix]
   cases t with
   | nil =>
    refine ey 4 (aj true tZ (ae Z (aj false Af (af mv Af)))) ?_;exact GT
   | cons d u =>
    have hl:(92::117::d::u:Bytes).length=u.length+3:=rfl;have hb:byt (92::117::d::u) 2=(d.toNat:Int):=rfl;have e:=CM d u;by_cases hd:d.toNat=123
    ·rw [if_pos hd] at e;have hd':d=123:=(pn (by decide)).1 hd
     have h6:Ev2 (λ _ _=>(if (2:Int) < ((92::117::d::u:Bytes).length:Int) then ck ((0:Int)<=2/\(2:Int) < ((92::117::d::u:Bytes).length:Int)) <| some (!decide (byt (92::117::d::u) 2=123)) else some false:Option Bool)) (·=false):=by
      refine ae O (ag O (aa ?_));rw [hb,hd]; rfl
     cases u with
     | nil =>
      refine ey 4 (aj true tZ (ae Z (aj false h6 (af mv oz)))) ?_;refine ae G (aa ?_);have hx:(fx []).2.2=40:=by decide
      unfold um;rw [e];show _=if (fx []).2.2=0 then _ else ([],0,(fx []).2.2);rw [hx]; rfl
     | cons v w =>
      have hlv:(v::w).length=w.length+1:=rfl;have hsub:sub (92::117::d::v::w) 3 ((92::117::d::v::w:Bytes).length:Int)=v::w:=by rw [jQ]; rfl
      have hrun:=nO 6 (v::w) 0;refine ey (4+((bN 6 (v::w) 0).2:Int)) (aj true tZ (ae Z (aj false h6 (af mv (ae O (ag O ?_)))))) ?_
      ·rw [hsub];exact aj _ (LR _ O) qm
      by_cases hc:(bN 6 (v::w) 0).2=(v::w).length
      ·refine ae O (aa ?_);have hx:(fx (v::w)).2.2=40:=by unfold fx; simp only [hc,if_true]
       unfold um;rw [e];show _=if (fx (v::w)).2.2=0 then _ else ([],0,(fx (v::w)).2.2);rw [hx]; rfl
      ·obtain ⟨x1,x2,x3⟩:=Ec (v::w) O;have hlt:((v::w).take ((bN 6 (v::w) 0).2+1)).length=(bN 6 (v::w) 0).2+1:=by rw [List.length_take]; omega
       have ex:cW ((117::d::(v::w).take ((bN 6 (v::w) 0).2+1))++[34])=cW (117::d::v::w):=by
        show cW (117::d::((v::w).take ((bN 6 (v::w) 0).2+1)++[34]))=_;rw [CM,if_pos hd,x1,e]
       refine Dq (x:=117::d::(v::w).take ((bN 6 (v::w) 0).2+1)) hs (by simp only [aq,hlt]; omega) (by simp only [aq,hlt]; omega) ?_ ?_ ?_
       ·simp only [aq,hlt]; rfl
       ·rw [ex];intro hz;have hz':(fx (v::w)).2.2=0:=by rw [e] at hz; exact hz
        refine ⟨?_,?_⟩
        ·rw [e]; show (fx (v::w)).2.1+2=_; rw [x2 hz']; simp only [aq,hlt]; omega
        ·unfold um; rw [if_pos hz];refine Prod.ext Z (Prod.ext ?_ Z);rw [e]; show (fx (v::w)).2.1+2+1=4+((bN 6 (v::w) 0).2:Int); rw [x2 hz']; omega
       ·rw [ex];intro hz;have hz':(fx (v::w)).2.2≠0:=by rw [e] at hz; exact hz
        unfold um; rw [if_neg hz];rw [e]; show ([],0,(fx (v::w)).2.2)=_; rw [x3 hz']
    ·rw [if_neg hd] at e;refine iC ([],0,2) (aj true tZ (ae rfl (aj true (ae O (ag O (aa ?_))) u3))) ?_
     ·rw [hb]; simp; omega
     ·unfold um; rw [e]; rfl
  ·have hp:hasPrefix (92::c::t) [92,117]=false:=by
    have:¬ c=117:=λ h=>hc (by rw [h]; rfl);unfold hasPrefix;simp only [List.isPrefixOf,beq_self_eq_true,Bool.true_and];rw [beq_eq_false_iff_ne.2 (λ h=>this h.symm)]; rfl
   obtain ⟨o1,o2,o3⟩:=Nh hc t [34];refine ey 2 (aj false tZ sc) ?_;refine Dq (x:=[c]) hs G rfl rfl ?_ ?_
   ·intro hz;have hz:(cW (c::[34])).2.2=0:=hz;rw [<- o1] at hz;refine ⟨?_,?_⟩
    ·show (cW (c::[34])).2.1=_; rw [<- o1,o2 hz]; rfl
    ·unfold um; rw [if_pos hz,o2 hz];show _=(encodeRune (cW (c::[34])).1,_,_);rw [<- o1]; rfl
   ·intro hz;have hz:(cW (c::[34])).2.2≠0:=hz;rw [<- o1] at hz;unfold um; rw [if_neg hz,o3 hz]
theorem Hi (s:Bytes)(a i fr:Int)(text:Bytes)(parts:List ad)(Tb:Bool)(h:inR (a+fr)):dH (.mk s a i fr text parts Tb)=some (if 4096 < text.length then ao.mk 3 (a+fr) [] else dOk,.mk s a i fr text parts Tb):=by
 unfold dH;by_cases hl:4096 < text.length
 ·rw [if_pos (by show (4096:Int) < (text.length:Int); omega),if_pos hl];exact bC h
 ·rw [if_neg (by show ¬ (4096:Int) < (text.length:Int); omega),if_neg hl]; rfl
def ItO (s:Bytes)(a i fr:Int)(text:Bytes)(parts:List ad)(Tb:Bool)(q:Int⊕(Bytes×Nat))(r:ao×ar):Prop:=match q with
 | .inl k=>r.1=ao.mk k (a+i) []
 | .inr (t,n)=>if 4096 < text.length+t.length then r.1=ao.mk 3 (a+fr) [] else r=(dOk,.mk s a (i+n) fr (text++t) parts Tb)
theorem PF {s:Bytes}(hs:s.length<=1000000000){a fr:Int}{i:Nat}(ha:0<=a)(ha2:a<=1000000000)(hf:0<=fr)(hf2:fr<=1000000000)(text:Bytes)(ht:text.length<=4096)(parts:List ad)(Tb:Bool){b:UInt8}{r:Bytes}(hl:s.drop i=b::r) :
  Ev2 (λ n _=>gm n (.mk s a (i:Int) fr text parts Tb)) (ItO s a i fr text parts Tb (iG (b::r))):=by
 obtain ⟨g1,g2,g3⟩:=qH hl;have hsub:sub s (i:Int) (s.length:Int)=b::r:=by rw [jQ,Int.toNat_natCast,hl]
 have M':(b::r).length=s.length - i:=by rw [<- hl,ld]
 have hb0:byt (b::r) 0=(b.toNat:Int):=rfl;have hlc:(b::r).length=r.length+1:=rfl
 have fin:∀ (t:Bytes) (n:Nat),iG (b::r)=.inr (t,n)->n<=1000000000->t.length<=1000000000->Ev2 (λ _ _=>(dH (ar.mk s a ((i:Int)+(n:Int)) fr (text++t) parts Tb)).bind λ TR=>some (TR.1,(ar.mk TR.2.fs TR.2.fat TR.2.fi TR.2.D' TR.2.F' TR.2.BY TR.2.IN))) (ItO s a i fr text parts Tb (iG (b::r))):=by
  intro t n hi _ _;refine aj _ (ax (Hi s a _ fr _ parts Tb aB) rfl) (aa ?_);rw [hi];unfold ItO;simp only [ph];by_cases hl:4096 < text.length+t.length
  ·rw [if_pos hl,if_pos hl]
  ·rw [if_neg hl,if_neg hl]
 simp only [gm];rw [hsub];refine ag O ?_;by_cases h92:b.toNat=92
 ·have hb':b=92:=(pn (by decide)).1 h92;have hle:=og r;have hi:iG (b::r)=if (cW r).2.2=0 then .inr (encodeRune (cW r).1,(cW r).2.1.toNat+1) else .inl (cW r).2.2:=by rw [iG,if_pos h92]
  subst hb';by_cases hz:(cW r).2.2=0
  ·rw [if_pos hz] at hi;obtain ⟨e1,e2⟩:=hle.2.2.1 hz;have hel:=lM _ e1;refine ey ((i:Int)+(((cW r).2.1.toNat+1:Nat):Int),text++encodeRune (cW r).1) (ag O (ae (by rw [hb0]; rfl) (aj _ (Ny O) ?_))) (fin _ _ hi O O);unfold um; rw [if_pos hz];refine ae rfl (ag Qc (ag Ae (aa ?_)));simp only [];congr 2; omega
  ·rw [if_neg hz] at hi;refine iC (ao.mk (cW r).2.2 (a+(i:Int)) [],ar.mk s a (i:Int) fr text parts Tb) (ag O (ae (by rw [hb0]; rfl) (aj _ (Ny O) ?_))) ?_
   ·unfold um; rw [if_neg hz];exact af hz KG
   ·rw [hi]; rfl
 ·have hd:bm (b::r)=some (((decodeL (b::r)).1:Int),((decodeL (b::r)).2:Int)):=by
   exact AG
  have hdf:=iB (b::r) G
  have hq:(decodeL (b::r)).1=34↔b.toNat=34:=by
   by_cases h128:b.toNat < 128
   ·rw [Bt b r h128]
   ·have:=Bu b r O; omega
  have hi:iG (b::r)=if jz (decodeL (b::r))\/b.toNat=34 then .inl 2 else .inr ((b::r).take (decodeL (b::r)).2,(decodeL (b::r)).2):=by rw [iG,if_neg h92]
  have hsb:∀ w:Nat,sub (b::r) 0 (w:Int)=(b::r).take w:=λ w=>by show ((b::r).take _).drop 0=_; rw [List.drop_zero,Int.toNat_natCast]
  generalize decodeL (b::r)=D at hd hdf hq hi;obtain ⟨c,w⟩:=D;simp only at hd hdf hq
  have hbad:Ev2 (λ _ _=>(if (c:Int)=65533 then if (w:Int)=1 then some true else if (c:Int) < 32 then some true else if (c:Int)=127 then some true else some (decide ((c:Int)=34)) else if (c:Int) < 32 then some true else if (c:Int)=127 then some true else some (decide ((c:Int)=34)):Option Bool)) (·=decide (jz (c,w)\/b.toNat=34)):=by
   have mk:∀ x:Bool,(x=true↔(((c=65533/\w=1)\/c < 32\/c=127)\/c=34))->x=decide (jz (c,w)\/b.toNat=34):=by
    intro x hx;refine eqB ?_;rw [hx,decide_eq_true_eq,<- hq]
    rfl
   refine av (λ h1=>av (λ h2=>aa (mk _ ?_)) (λ h2=>av (λ h3=>aa (mk _ ?_)) (λ h3=>av (λ h4=>aa (mk _ ?_)) (λ h4=>aa (mk _ ?_))))) (λ h1=>av (λ h3=>aa (mk _ ?_)) (λ h3=>av (λ h4=>aa (mk _ ?_)) (λ h4=>aa (mk _ ?_))))
   all_goals (try rw [decide_eq_true_eq])
   all_goals (try simp only [true_iff])
   all_goals omega
  by_cases hx:jz (c,w)\/b.toNat=34
  ·rw [if_pos hx] at hi;refine iC (ao.mk 2 (a+(i:Int)) [],ar.mk s a (i:Int) fr text parts Tb) (ag O (af (by rw [hb0]; omega) (aj _ (ax hd rfl) (aj _ hbad (ae (decide_eq_true hx) KG))))) ?_;rw [hi]; rfl
  ·rw [if_neg hx] at hi;have hw2:=hdf.2.1;refine ey ((i:Int)+(w:Int),text++(b::r).take w) (ag O (af (by rw [hb0]; omega) (aj _ (ax hd rfl) (aj _ hbad (af (by simpa using hx) ?_))))) (fin _ _ hi O Ao);simp only [hsb];exact ag O (ag Ao qm)
end Go.Ab.R06
end
section
namespace Go.Ab.R06
open Go.Ab Go.Ab.RB Go.Lib
section
variable {p:Prop}
theorem F7 (h:p:=by
 rw [show (i:Int)+2=((i+2:Nat):Int) by omega,xP,List.drop_take,e2]
 congr 1; omega):p:=h
theorem JQ (h:p:=by
 exact aj true (ax (nw _ _) hp3) (ae Z (ag (by simp only [aq,n8]; omega) (ag (bv O O) (aj _ (ax hlong Z) (aa Z)))))):p:=h
theorem AY (h:p:=by
 exact aj _ (G4 hz) (aa Z)):p:=h
theorem Jg (h:p:=by
 rintro _ ⟨j,rfl⟩
 exact aa ⟨(by decide:(2:Int)≠0),Z⟩):p:=h
theorem F1 (h:p:=by
 by_cases h:chk e=0
 ·exact ae h (aa (by unfold pY; simp only [h,if_true]; rfl))
 ·exact af h (aa (by unfold pY; simp only [h,if_false]; rfl))):p:=h
theorem Kb (h:p:=by exact bv (by show _<=a+(i:Int); omega) (by show a+(i:Int)<=_; omega)):p:=h
theorem rK (h:p:=by exact ax (nw _ _) (by simpa using hp3)):p:=h
theorem AK (h:p:=by exact ax (nw _ _) (by simpa using hp2)):p:=h
theorem BA (h:p:=by exact bv (by show _<=(i:Int)+2; omega) (by show (i:Int)+2<=_; omega)):p:=h
theorem Je (h:p:=by exact aN (f:=λ n m=>b7 n (aM n) m s a 0 0 [] [] false) hread):p:=h
end
theorem DO {src:Bytes->SE⊕Bytes}{l:Bytes}(hs:∀ r e n,r.length<=l.length->src r=.inl e->e.2=some n->n<=l.length){e:SE}{n:Nat}(h:j2 src l=.inl e)(hn:e.2=some n):n<=l.length:=by
 cases l with
 | nil=>cases h; cases hn; exact rg _
 | cons b r =>
  rw [kC] at h;split at h
  ·split at h
   ·cases h; cases hn; exact bx _
   ·cases h
  split at h
  ·cases h
  split at h
  ·cases h
  split at h
  ·split at h
   ·rename_i e' he
    cases h
    exact hs r e n (Nat.le_succ _) he hn
   ·cases h
  split at h
  ·cases h; cases hn; exact bx _
  ·cases h
theorem JH:∀ (f k:Nat),(∀ l e n,fy f k l=.inl e->e.2=some n->n<=l.length)/\(∀ d l e n,jq f k d l=.inl e->e.2=some n->n<=l.length)
 | 0,k=>⟨λ l e n h hn=>(by rw [fy] at h; cases h; cases hn),λ d l e n h hn=>(by rw [jq] at h; cases h; cases hn)⟩
 | f+1,k=>by
  have ih:=JH f;constructor
  ·intro l e n h hn
   cases l with
   | nil=>rw [fy] at h; cases h; cases hn
   | cons b r =>
    rw [nQ] at h;split at h
    ·cases h
    split at h
    ·have:=(ih k).1 _ e n h hn;rw [ld] at this; omega
    split at h
    ·split at h
     ·cases h; cases hn; exact bx _
     ·split at h
      ·rename_i e' he
       cases h
       have:=(ih (k+1)).2 _ _ e n he hn;rw [ld] at this; omega
      ·rename_i l' he;have h1:=((gO f (k+1)).2 _ _ _ he).2;have:=(ih k).1 _ e n h hn;rw [ld] at h1; omega
    ·have hX:(if b.toNat=92 then r else b::r).length<=(b::r).length:=by split <;> simp
     generalize (if b.toNat=92 then r else b::r)=X at h hX
     cases X with
     | nil=>cases h; cases hn
     | cons c t =>
      simp only at h;split at h
      ·cases h; cases hn; exact hX
      ·have:=(ih k).1 _ e n h hn;rw [ld] at this; omega
  ·intro d l e n h hn;rw [nJ] at h;have hk:=u0 false l
   cases hsk:fC false l with
   | nil=>rw [hsk,H9] at h; cases h; cases hn
   | cons b r =>
    rw [hsk] at hk;rw [hsk,nS] at h
    cases ht:j2 (fy f k) (b::r) with
    | inl e' =>
     rw [ht,qK] at h; cases h;exact Nat.le_trans (DO (λ x y m hx hxy hm=>Nat.le_trans ((ih k).1 x y m hxy hm) hx) ht hn) hk
    | inr z =>
     obtain ⟨c,t,l'⟩:=z;have h1:=(kZ (λ x y _ hxy=>(gO f k).1 x y hxy) ht).2;rw [ht,pf] at h;split at h
     ·split at h
      ·cases h
      ·have:=(ih k).2 _ _ e n h hn; omega
     split at h
     ·have:=(ih k).2 _ _ e n h hn; omega
     ·have:=(ih k).2 _ _ e n h hn; omega
theorem yz:∀ (f c:Nat) (l:Bytes) (e:SE) (n:Nat),kf f c l=.inl e->e.2=some n->n<=l.length
 | 0,c,l,e,n,h,hn=>by rw [kf] at h; cases h; cases hn
 | f+1,c,l,e,n,h,hn=>by
  rw [mg] at h;have hk:=u0 true l
  cases hsk:fC true l with
  | nil =>
   rw [hsk,nP] at h;split at h
   ·cases h; cases hn; exact rg _
   ·cases h
  | cons b r =>
   rw [hsk] at hk;rw [hsk,mw] at h;split at h
   ·cases h; cases hn; exact hk
   split at h
   ·cases h; cases hn; exact hk
   cases ht:j2 (fy f 0) (b::r) with
   | inl e' =>
    rw [ht] at h; cases h
    cases he:e'.2 with
    | none=>unfold LM at hn; rw [he] at hn; cases hn; exact hk
    | some m =>
     unfold LM at hn; rw [he] at hn; cases hn;exact Nat.le_trans (DO (λ x y m hx hxy hm=>Nat.le_trans ((JH f 0).1 x y m hxy hm) hx) ht he) hk
   | inr z =>
    obtain ⟨k,t,l'⟩:=z;have h1:=(kZ (λ x y _ hxy=>(gO f 0).1 x y hxy) ht).2;rw [ht,nU] at h
    cases hs:kf f (c+1) l' with
    | inl e' =>
     rw [hs] at h; cases h;have:=yz f (c+1) l' e n hs hn;omega
    | inr ts'=>rw [hs] at h; cases h
theorem C9 (s:Bytes):0<=(eG s).2.fAt/\(eG s).2.fAt<=(s.length:Int):=by
 unfold eG;split
 ·exact ⟨Int.le_refl _,by show (0:Int)<=_; omega⟩
 ·cases hs:kf (s.length+1) 0 s with
  | inr ts=>exact ⟨Int.le_refl _,by show (0:Int)<=_; omega⟩
  | inl e =>
   show 0<=(rz s 0 e).fAt/\(rz s 0 e).fAt<=_;unfold rz
   cases he:e.2 with
   | none=>exact ⟨Int.le_refl _,by show (0:Int)<=_; omega⟩
   | some n =>
    have:=yz _ _ _ e n hs he;exact ⟨by show 0<=(s.length:Int) - (n:Int); omega,by show (s.length:Int) - (n:Int)<=_; omega⟩
theorem RR {f:Nat}(ih:Fol f):∀ (s:Bytes) (a:Int) q,0<=a->a+(s.length:Int)<=1000000000->gi (f+1) s a=some q->Ev2 (λ n _=>ip n s a) (OC q):=by
 intro s a q h0 h1 hq;rw [gi] at hq;refine aP ?_;simp only [ip];refine aj _ (M7 s) ?_;by_cases hk:(eG s).2.Ar=0
 ·rw [if_neg (by simpa using hk)] at hq;refine ae hk ?_;have hg:=tz h0 h1 hk;have M':(eG s).1.length<=65537:=(q9 h0 h1 hk).2.2;have hL:=hg.1;have hL1:(eG s).1.length<=1000000000:=by omega
  generalize hLL:(eG s).1=L at hq hL M' hL1
  have Ta:0 < L.length:=by
   have:=wt hL;rcases Nat.eq_zero_or_pos L.length with q | q
   ·rw [List.length_eq_zero_iff.1 q] at this; exact absurd rfl this
   ·exact q
  have hpos:Pos L a 0 1 true (L.map (mvT a)):=⟨Ta,by decide,by omega,Z,Z⟩
  cases hx:gg f true (L.map (mvT a)) with
  | none=>rw [hx] at hq; cases hq
  | some y =>
   rw [hx] at hq;have hr:=ih.e true _ L a hL hL1 0 1 y hpos hx;rcases y with e | ⟨x,l⟩
   ·cases hq
    refine ah _ hr ?_;rintro ⟨z1,z2⟩ ⟨he,j,l',h2,h3⟩
    cases h2
    refine ah (λ t=>∃ j:Nat,t=(L,(j:Int),1,a,e.1,e.2,[])) (ah _ (gB hL hL1 h3) ?_) ?_
    ·rintro ⟨z1,z2⟩ ⟨h1,j,h2,h3,h4,h5⟩;replace h1:z1=_:=h1; subst h1; cases h2;exact av (λ _=>aa ⟨j,rfl⟩) (λ _=>aj _ (ax (xa he _ _ _ _) rfl) (aa ⟨j,rfl⟩))
    ·rintro _ ⟨j,rfl⟩;exact aa ⟨he,rfl⟩
   ·refine ah _ hr ?_;rintro ⟨z1,z2⟩ ⟨hz,j,h2,h3⟩;replace hz:z1=_:=hz; subst hz; cases h2;have hq:(if (hd true l).Ar=6 then some (.inr z1) else some (.inl (2,(hd true l).fAt)))=some q:=hq;by_cases k6:(hd true l).Ar=6
    ·rw [if_pos k6] at hq; cases hq;refine ah (λ t=>∃ j:Nat,t=(L,(j:Int),1,a,0,0,[])) (ah _ (gB hL hL1 h3) ?_) ?_
     ·rintro ⟨y1,y2⟩ ⟨h1,j,h2,h3,h4,h5⟩;replace h1:y1=_:=h1; subst h1; cases h2;exact ae k6 (aa ⟨j,rfl⟩)
     ·rintro _ ⟨j,rfl⟩;exact aa rfl
    ·rw [if_neg k6] at hq; cases hq;refine ah (λ t=>∃ j:Nat,t=(L,(j:Int),1,a,2,(hd true l).fAt,[])) (ah _ (gB hL hL1 h3) ?_) ?_
     ·rintro ⟨y1,y2⟩ ⟨h1,j,h2,h3,h4,h5⟩;replace h1:y1=_:=h1; subst h1; cases h2;exact af k6 (aj _ wN (aa ⟨j,rfl⟩))
     ·exact Jg
 ·rw [if_pos hk] at hq; cases hq;have:=C9 s;refine af hk (ag aB (aa ⟨hk,rfl⟩))
theorem C1 {s:Bytes}{a:Int}{i fr:Nat}(text:Bytes)(parts:List ad)(Tb:Bool)(ha:0<=a)(h1:a+(s.length:Int)<=1000000000)(hi:i<=s.length)(hf:fr<=i)(hp:parts.length<=2*i) :
  ep (.mk s a (i:Int) (fr:Int) text parts Tb)=some (.mk s a (i:Int) (fr:Int) [] (flS (a+(fr:Int)) (a+(i:Int)) text parts) Tb):=by
 unfold ep flS;by_cases h:fr < i
 ·rw [if_pos (by show (fr:Int) < (i:Int); omega),if_pos O];show ((ck (inR (a+(fr:Int))) <| ck ((parts.length+1)*160<=140737488355328) <| some (parts++[x7 text (a+(fr:Int))]):Option (List ad)).bind λ f6=>some (ar.mk s a (i:Int) (fr:Int) ([]:Bytes) f6 Tb))=_;rw [bC aB,bC O]; rfl
 ·rw [if_neg (by show ¬ (fr:Int) < (i:Int); omega),if_neg O]; rfl
theorem G4 {e:ad}(hb:Sz e):Ev2 (λ n _=>iJ n e dOk) (·=sf (pY (.inr e))):=by
 simp only [iJ];refine ae rfl (aj _ (Lt hb) ?_);exact F1
theorem Qo {f:Nat}(ih:Fol f):∀ (s:Bytes) (a:Int) q,0<=a->a+(s.length:Int)<=1000000000->jT (f+1) s a=some q->Ev2 (λ n _=>iA n s a) (·=sf q):=by
 intro s a q h0 h1 hq;rw [jT] at hq;refine aP ?_;simp only [iA]
 cases hr:eF f a a [] [] false s with
 | none=>rw [hr] at hq; cases hq
 | some y =>
  rw [hr] at hq;have SQ:=(fct f).r a a [] [] false s (2*s.length) h0 h1 (by decide) (λ y hy=>by cases hy) G y hr;have hread:=ih.r s a 0 0 [] [] false y h0 h1 (rg _) (bx _) (by decide) (by decide) (by simpa using hr);rcases y with e | ⟨frm,pos,text,parts,Tb⟩
  ·cases hq
   refine ah (λ r=>e.1≠0/\r.1=eD e) (aP ?_) ?_
   ·simp only [gh];refine cj (aQ Je ?_);rintro r ⟨he,t,rfl⟩;exact ⟨he,rfl⟩
   ·rintro ⟨r1,r2⟩ ⟨he,hz⟩
    cases hz
    exact af he (aa Z)
  ·have hq:some (pY (.inr (qG a (frm,pos,text,parts,Tb))))=some q:=hq
   cases hq
   refine ah (λ r=>∃ (i fr:Nat),frm=a+(fr:Int)/\pos=a+(i:Int)/\fr<=i/\i<=s.length/\parts.length<=2*i/\r=(dOk,.mk s a (i:Int) (fr:Int) text parts Tb)) (aP ?_) ?_
   ·simp only [gh];refine cj (aQ Je ?_);rintro r ⟨i,fr,g1,g2,g3,g4,g5,rfl⟩;exact aa ⟨i,fr,g1,g2,g3,g4,g5,rfl⟩
   ·rintro _ ⟨i,fr,rfl,rfl,g3,g4,g5,rfl⟩;have hz:Sz (qG a (a+(fr:Int),a+(i:Int),text,parts,Tb)):=uY O SQ;refine ae rfl (aj _ oN ?_)
    cases Tb with
    | true =>
     refine aj (2,0,[],[],0,0,[],[],[],flS (a+(fr:Int)) (a+(i:Int)) text parts,a) (ae Z (aj _ (ax (C1 text parts true h0 h1 g4 g3 g5) Z) (aa Z))) ?_;exact AY
    | false =>
     refine aj (1,0,[],[],3,0,text,[],[],[],a) sc ?_;exact AY
theorem R8 {f:Nat}(ih:Fol f):∀ (s:Bytes) (a:Int) (i fr:Nat) (text:Bytes) (parts:List ad) (Tb:Bool) q,0<=a->a+(s.length:Int)<=1000000000->i<=s.length->fr<=i->text.length<=4096->parts.length<=2*i->eF (f+1) (a+(fr:Int)) (a+(i:Int)) text parts Tb (s.drop i)=some q ->
  Ev2 (λ n m=>b7 n (aM n) m s a (i:Int) (fr:Int) text parts Tb) (RdO s a q):=by
 intro s a i fr text parts Tb q h0 h1 hi hf ht hp hq;refine aw ?_;simp only [b7]
 cases hl:s.drop i with
 | nil =>
  rw [hl,eF] at hq; cases hq;have:=EI hl;exact af O (aa ⟨i,fr,rfl,rfl,hf,hi,hp,rfl⟩)
 | cons b r =>
  obtain ⟨g1,g2,g3⟩:=qH hl;have hsub:sub s (i:Int) (s.length:Int)=b::r:=by rw [jQ,Int.toNat_natCast,hl]
  have M':(b::r).length=s.length - i:=by rw [<- hl,ld]
  rw [hl,eF] at hq;refine ae O (ag O ?_);rw [hsub];by_cases hp3:hasPrefix (b::r) [36,36,123]=true
  ·rw [if_pos hp3] at hq;have hpl:=lI hp3;simp only [aq,n8] at hpl M';have hlong:=Hi s a ((i:Int)+3) (fr:Int) (text++[36,123]) parts Tb aB;have htl:(text++[36,123]).length=text.length+2:=by simp
   rw [htl] at hlong;by_cases hlg:4096 < text.length+2
   ·rw [if_pos hlg] at hq hlong; cases hq;refine aj (3,a+(fr:Int),[],s,a,(i:Int)+3,(fr:Int),text++[36,123],parts,Tb) ?_ (af (show ¬ (3:Int)=0 by decide) (aa ⟨(by decide:(3:Int)≠0),_,rfl⟩));exact JQ
   ·rw [if_neg hlg] at hq hlong;refine aj (0,0,[],s,a,(i:Int)+3,(fr:Int),text++[36,123],parts,Tb) ?_ (ae rfl ?_)
    ·exact JQ
    ·have e3:s.drop (i+3)=(b::r).drop 3:=by rw [oT s i 3,hl]
     have:=ih.r s a (i+3) fr (text++[36,123]) parts Tb q h0 h1 O O O O  (by
      rw [e3,show a+((i+3:Nat):Int)=a+(i:Int)+3 by omega]; exact hq)
     rw [show ((i+3:Nat):Int)=(i:Int)+3 by omega] at this;exact this
  rw [if_neg hp3] at hq;by_cases hp2:hasPrefix (b::r) [36,123]=true
  ·rw [if_pos hp2] at hq;have hpl:=lI hp2;simp only [aq,n8] at hpl M';have e2:s.drop (i+2)=(b::r).drop 2:=by rw [oT s i 2,hl]
   have hfl:=C1 text parts Tb h0 h1 hi hf hp;have hflen:(flS (a+(fr:Int)) (a+(i:Int)) text parts).length<=parts.length+1:=by unfold flS; split <;> simp
   cases hc:fZ f 1 ((b::r).drop 2) with
   | none=>rw [hc] at hq; cases hq
   | some y =>
    rw [hc] at hq;have hcl:=C2 ((GX (s:=s) O f).1 1 (i+2) ((i:Int)+2) 1 y O rfl (by decide) iR O (by rw [e2]; exact hc));have pre:∀ {P:ao×ar->Prop},Ev2 (λ n _=>(aM (n+1) (ar.mk s a (i:Int) (fr:Int) text parts Tb))) P->Ev2 (λ n _=>(aM n (ar.mk s a (i:Int) (fr:Int) text parts Tb))) P:=λ h=>aP h
    cases y with
    | none =>
     cases hq
     refine aj (40,a+(i:Int),[],s,a,(i:Int),(fr:Int),[],flS (a+(fr:Int)) (a+(i:Int)) text parts,true) ?_ (af (show ¬ (40:Int)=0 by decide) (aa ⟨(by decide:(40:Int)≠0),_,Z⟩));refine aj false rK (af mv (aj true (ax (nw _ _) hp2) (ae Z ?_)));refine aj (ao.mk 40 (a+(i:Int)) [],ar.mk s a (i:Int) (fr:Int) [] (flS (a+(fr:Int)) (a+(i:Int)) text parts) true) (pre ?_) (aa Z);simp only [aM];exact aj _ (ax hfl Z) (ag BA (aj _ hcl (ae (by show (-1:Int) < 0; decide) (ag Kb (aa Z)))))
    | some r' =>
     simp only at hq;have hsf:=(iK f).1 _ _ _ hc;have Sk:=hsf.2;have hd2:((b::r).drop 2).length=s.length - (i+2):=by rw [<- e2,ld]
     have hrs:r' <:+ s:=by rw [<- e2] at hsf; exact hsf.1.trans (List.drop_suffix _ _)
     have hsd:=Et hrs;have hcp:G7 s (some r')=((s.length - r'.length - 1:Nat):Int):=by show (s.length:Int) - (r'.length:Int) - 1=_; omega
     rw [hcp] at hcl
     have hsub2:sub s ((i:Int)+2) ((s.length - r'.length - 1:Nat):Int)=((b::r).drop 2).take (((b::r).drop 2).length - r'.length - 1):=by
      exact F7
     generalize hX:((b::r).drop 2).take (((b::r).drop 2).length - r'.length - 1)=X at hq hsub2;have hXl:X.length<=((b::r).drop 2).length:=by rw [<- hX,List.length_take]; omega
     cases hw:gi f X (a+(i:Int)+2) with
     | none=>rw [hw] at hq; cases hq
     | some z =>
      rw [hw] at hq;have hwh:=ih.w X (a+(i:Int)+2) z O O  hw
      have lead:∀ {P:ao×ar->Prop},Ev2 (λ n _=>(ip n X (a+(i:Int)+2)).bind λ Tt=>if Tt.2.Ar=0 then ck (((flS (a+(fr:Int)) (a+(i:Int)) text parts).length+1)*160<=140737488355328) <| ck (inR (((s.length - r'.length - 1:Nat):Int)+1)) <| some (ao.mk 0 0 ([]:Bytes),ar.mk s a (((s.length - r'.length - 1:Nat):Int)+1) (((s.length - r'.length - 1:Nat):Int)+1) [] (flS (a+(fr:Int)) (a+(i:Int)) text parts++[Tt.1]) true) else some (Tt.2,ar.mk s a (i:Int) (fr:Int) [] (flS (a+(fr:Int)) (a+(i:Int)) text parts) true)) P ->
        Ev2 (λ n _=>(aM n (ar.mk s a (i:Int) (fr:Int) text parts Tb))) P:=by
       intro P hP;refine pre ?_;simp only [aM];refine aj _ (ax hfl rfl) (ag BA (aj _ hcl (af O (ag BA (ag ⟨by show (0:Int)<=(i:Int)+2; omega,by show (i:Int)+2<=_; omega,by show _<=(s.length:Int); omega⟩ (ag Kb (ag (bv (by show _<=a+(i:Int)+2; omega) (by show a+(i:Int)+2<=_; omega)) ?_)))))));simp only [hsub2];exact hP
      rcases z with e | e
      ·cases hq
       have he:=(fct f).w X (a+(i:Int)+2) O O  _ hw;refine aj (e.1,e.2,[],s,a,(i:Int),(fr:Int),[],flS (a+(fr:Int)) (a+(i:Int)) text parts,true) ?_ (af he (aa ⟨he,_,rfl⟩));refine aj false rK (af mv (aj true (ax (nw _ _) hp2) (ae rfl ?_)));refine aj (eD e,ar.mk s a (i:Int) (fr:Int) [] (flS (a+(fr:Int)) (a+(i:Int)) text parts) true) (lead (ah _ hwh ?_)) (aa rfl);rintro ⟨w1,w2⟩ ⟨_,hz⟩
       cases hz
       exact af he (aa Z)
      ·have hq:eF f (a+(i:Int)+(((b::r).length - r'.length:Nat):Int)) (a+(i:Int)+(((b::r).length - r'.length:Nat):Int)) [] (flS (a+(fr:Int)) (a+(i:Int)) text parts++[e]) true r'=some q:=hq
       have hpos:a+(i:Int)+(((b::r).length - r'.length:Nat):Int)=a+((s.length - r'.length:Nat):Int):=by
        have:=hsf.1.length_le;simp only [aq] at hd2 ⊢; omega
       rw [hpos] at hq;have hi2:((s.length - r'.length - 1:Nat):Int)+1=((s.length - r'.length:Nat):Int):=by omega
       refine aj (0,0,[],s,a,((s.length - r'.length:Nat):Int),((s.length - r'.length:Nat):Int),[],flS (a+(fr:Int)) (a+(i:Int)) text parts++[e],true) ?_ (ae Z ?_)
       ·refine aj false rK (af mv (aj true (ax (nw _ _) hp2) (ae rfl ?_)));refine aj (dOk,ar.mk s a ((s.length - r'.length:Nat):Int) ((s.length - r'.length:Nat):Int) [] (flS (a+(fr:Int)) (a+(i:Int)) text parts++[e]) true) (lead (ah _ hwh ?_)) (aa rfl);rintro _ rfl;refine ae rfl (ag O (ag aB (aa ?_)));rw [hi2]; rfl
       ·exact ih.r s a (s.length - r'.length) (s.length - r'.length) [] _ true q h0 h1 O (bx _) (by decide) w6 (by rw [hsd]; exact hq)
  rw [if_neg hp2] at hq;have hit:=PF (s:=s) O (a:=a) (fr:=(fr:Int)) (i:=i) h0 O O O text ht parts Tb hl
  cases hi':iG (b::r) with
  | inl k =>
   rw [hi'] at hq hit; cases hq;have hk:=DV hi';refine ah (λ t=>t.1=k/\t.2.1=a+(i:Int)/\t.2.2.1=[]) ?_ ?_
   ·refine aj false rK (af mv (aj false AK (af mv ?_)));refine ah _ hit ?_;rintro ⟨z1,z2⟩ hz;have hz:z1=ao.mk k (a+(i:Int)) []:=hz;subst hz;exact aa ⟨rfl,rfl,rfl⟩
   ·rintro ⟨t1,t2,t3,t4⟩ ⟨k1,k2,k3⟩;simp only at k1 k2 k3;subst k1 k2 k3;exact af hk (aa ⟨hk,_,rfl⟩)
  | inr tn =>
   obtain ⟨t,n⟩:=tn;rw [hi'] at hq hit;have hq:(if 4096 < text.length+t.length then some (.inl (3,a+(fr:Int))) else eF f (a+(fr:Int)) (a+(i:Int)+(n:Int)) (text++t) parts Tb ((b::r).drop n))=some q:=hq;have hn:=q8 hi';by_cases hlg:4096 < text.length+t.length
   ·rw [if_pos hlg] at hq; cases hq;refine ah (λ t=>t.1=3/\t.2.1=a+(fr:Int)/\t.2.2.1=[]) ?_ ?_
    ·refine aj false rK (af mv (aj false AK (af mv ?_)));refine ah _ hit ?_;rintro ⟨z1,z2⟩ hz;unfold ItO at hz;simp only [if_pos hlg] at hz;subst hz;exact aa ⟨rfl,rfl,rfl⟩
    ·rintro ⟨t1,t2,t3,t4⟩ ⟨k1,k2,k3⟩;simp only at k1 k2 k3;subst k1 k2 k3;exact af (show ¬ (3:Int)=0 by decide) (aa ⟨(by decide:(3:Int)≠0),_,rfl⟩)
   ·rw [if_neg hlg] at hq;refine aj (0,0,[],s,a,(i:Int)+(n:Int),(fr:Int),text++t,parts,Tb) ?_ (ae rfl ?_)
    ·refine aj false rK (af mv (aj false AK (af mv ?_)));refine ah _ hit ?_;rintro ⟨z1,z2⟩ hz;unfold ItO at hz;simp only [if_neg hlg] at hz
     cases hz
     exact aa Z
    ·have e3:s.drop (i+n)=(b::r).drop n:=by rw [oT s i n,hl]
     have:=ih.r s a (i+n) fr (text++t) parts Tb q h0 h1 O O  vh O (by
      rw [e3,show a+((i+n:Nat):Int)=a+(i:Int)+(n:Int) by omega]; exact hq)
     rw [show ((i+n:Nat):Int)=(i:Int)+(n:Int) by omega] at this;exact this
theorem fol:∀ f,Fol f:=by
 intro f
 induction f with
 | zero =>
  constructor
  ·intro b l L base hL M' i Mp q h hq; rw [gg] at hq; cases hq
  ·intro SP li b l _ _ L base hL M' i Mp q h hq; rw [nX] at hq; cases hq
  ·intro SP li b l x r5 _ _ _ L base hL M' i Mp q h hq; rw [oW] at hq; cases hq
  ·intro b l L base hL M' i Mp q h hq; rw [unS] at hq; cases hq
  ·intro b l x r1 _ L base hL M' i Mp q h hq; rw [jM] at hq; cases hq
  ·intro b l L base hL M' i Mp q h hq; rw [lF] at hq; cases hq
  ·intro b l _ L base hL M' i Mp q h hq; rw [qz] at hq; cases hq
  ·intro b l _ L base hL M' i Mp q h hq; rw [mN] at hq; cases hq
  ·intro en l out _ _ L base hL M' i Mp q h hq; rw [ir] at hq; cases hq
  ·intro l out _ _ L base hL M' i Mp q h hq; rw [pA] at hq; cases hq
  ·intro l L base hL M' i Mp q h hq; rw [nb] at hq; cases hq
  ·intro a k l _ _ L base hL M' i Mp b q _ _ h hq; rw [lD] at hq; cases hq
  ·intro s a q _ _ hq; rw [jT] at hq; cases hq
  ·intro s a i fr text parts Tb q _ _ _ _ _ _ hq; rw [eF] at hq; cases hq
  ·intro s a q _ _ hq; rw [gi] at hq; cases hq
 | succ f ih=>exact ⟨Ru ih,Sd ih,OP ih,SB ih,N0 ih,Sq ih,Ro ih,Sb ih,RL ih,RD ih,R9 ih,Og ih,Qo ih,R8 ih,RR ih⟩
end Go.Ab.R06
end
