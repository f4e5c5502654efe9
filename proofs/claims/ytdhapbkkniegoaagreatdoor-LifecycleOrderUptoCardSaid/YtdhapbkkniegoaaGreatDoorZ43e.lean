/- Texts of the proof, one behind the other. No statement is proved here. -/
import Derived.Test.YtdhapbkkniegoaaGreatDoorZ43a
import Derived.Test.YtdhapbkkniegoaaGreatDoorZ43b
import Derived.Test.YtdhapbkkniegoaaGreatDoorZ43c
import Derived.Test.YtdhapbkkniegoaaGreatDoorZ43d
section
set_option linter.unusedVariables false
set_option linter.unusedSimpArgs false
set_option linter.unnecessarySimpa false
namespace Go.Ab.R06
open Go.Ab Go.Ab.RB Go.Lib
theorem t31:(List.range 256).all (λ n=>bz .u8 (n:Int) 31 == ((n % 32:Nat):Int))=true:=by kernel_rfl
theorem t15:(List.range 256).all (λ n=>bz .u8 (n:Int) 15 == ((n % 16:Nat):Int))=true:=by kernel_rfl
theorem t7:(List.range 256).all (λ n=>bz .u8 (n:Int) 7 == ((n % 8:Nat):Int))=true:=by kernel_rfl
theorem or64 (a b:Nat)(ha:a < 4611686018427387904)(hb:b < 4611686018427387904):iOr .i64 (a:Int) (b:Int)=((a ||| b:Nat):Int):=by
 have hlt:a ||| b < 4611686018427387904:=Nat.or_lt_two_pow (n:=62) ha hb
 have e1:(BitVec.ofInt 64 (a:Int)).toNat=a:=by
  rw [BitVec.toNat_ofInt]; omega
 have e2:(BitVec.ofInt 64 (b:Int)).toNat=b:=by
  rw [BitVec.toNat_ofInt]; omega
 show IntKind.wrap .i64 (((BitVec.ofInt 64 (a:Int)) ||| (BitVec.ofInt 64 (b:Int))).toNat:Nat)=_
 rw [BitVec.toNat_or,e1,e2]
 simp [IntKind.wrap,IntKind.bits,IntKind.signed]
 omega
theorem uR (a b k:Nat)(ha:a*2 ^ k < 4611686018427387904)(hb:b < 2 ^ k)(hk:k≤20):iOr .i64 ((a*2 ^ k:Nat):Int) (b:Int)=((a*2 ^ k+b:Nat):Int):=by
 have hp:2 ^ k≤2 ^ 20:=Nat.pow_le_pow_right (by decide) hk
 have h20:(2:Nat) ^ 20=1048576:=rfl
 rw [or64 _ _ ha (by omega)]
 have:=Nat.shiftLeft_add_eq_or_of_lt hb a
 rw [Nat.shiftLeft_eq] at this
 rw [← this]
theorem uT (a k:Nat)(hk:k≤20)(ha:a*2 ^ k < 4611686018427387904):iY .i64 (a:Int) (k:Int)=((a*2 ^ k:Nat):Int):=by
 have:min (k:Int).toNat IntKind.i64.bits=k:=by
  have:IntKind.i64.bits=64:=rfl
  rw [this]; omega
 unfold iY
 rw [this]
 have e:(a:Int)*2 ^ k=((a*2 ^ k:Nat):Int):=by push_cast; rfl
 rw [e]
 generalize a*2 ^ k=v at ha
 simp [IntKind.wrap,IntKind.bits,IntKind.signed]
 omega
def CW (l:Bytes):Int×Int:=if (decodeL l).1=65533∧(decodeL l).2=1 then (0,0) else (((decodeL l).1:Int),((decodeL l).2:Int))
theorem Dc (s:Bytes)(j:Nat)(lo hi:Int):ea s (j:Int) lo hi=some (decide (j < s.length∧lo≤((s.getD j 0).toNat:Int)∧((s.getD j 0).toNat:Int)≤hi)):=by
 unfold ea
 have hb:byt s (j:Int)=((s.getD j 0).toNat:Int):=dM s j
 rw [hb]
 by_cases h:j < s.length
 ·rw [if_pos (by omega),bI (by omega)]
  by_cases h2:lo≤((s.getD j 0).toNat:Int)
  ·rw [if_pos h2,bI (by omega)]
   refine congrArg some (eqB ?_)
   rw [decide_eq_true_eq,decide_eq_true_eq]
   exact ⟨λ q=>⟨h,h2,q⟩,λ q=>q.2.2⟩
  ·rw [if_neg h2,Option.bind_some]
   symm; rw [Option.some.injEq,decide_eq_false_iff_not]
   exact λ q=>h2 q.2.1
 ·rw [if_neg (by omega)]; simp [h]
set_option maxHeartbeats 8000000 in
theorem tj (s:Bytes)(i:Nat)(hi:i < s.length)(hs:s.length≤1000000000):g9 s (i:Int)=some (CW (s.drop i)):=by
 have hg:∀ k,(s.drop i).getD k 0=s.getD (i+k) 0:=λ k=>by
  rw [List.getD_eq_getElem?_getD,List.getElem?_drop,List.getD_eq_getElem?_getD]
 unfold g9 CW
 rw [decodeL_N,hg,hg,hg,hg,Nat.add_zero,List.length_drop]
 have b:∀ k:Nat,byt s ((i:Int)+k)=((s.getD (i+k) 0).toNat:Int):=λ k=>by
  rw [show (i:Int)+(k:Int)=((i+k:Nat):Int) by omega]; exact dM s (i+k)
 have c:∀ (k:Nat) lo hi,ea s ((i:Int)+k) lo hi=some (decide (k < s.length - i∧lo≤((s.getD (i+k) 0).toNat:Int)∧((s.getD (i+k) 0).toNat:Int)≤hi)):=λ k lo hi=>by
  rw [show (i:Int)+(k:Int)=((i+k:Nat):Int) by omega,Dc]
  refine congrArg some (eqB ?_)
  rw [decide_eq_true_eq,decide_eq_true_eq]
  constructor
  ·rintro ⟨h1,h2⟩; exact ⟨by omega,h2⟩
  ·rintro ⟨h1,h2⟩; exact ⟨by omega,h2⟩
 have b0:byt s (i:Int)=((s.getD i 0).toNat:Int):=dM s i
 have b1:byt s ((i:Int)+1)=((s.getD (i+1) 0).toNat:Int):=b 1
 have b2:byt s ((i:Int)+2)=((s.getD (i+2) 0).toNat:Int):=b 2
 have b3:byt s ((i:Int)+3)=((s.getD (i+3) 0).toNat:Int):=b 3
 have c1:∀ lo hi,ea s ((i:Int)+1) lo hi=_:=c 1
 have c2:∀ lo hi,ea s ((i:Int)+2) lo hi=_:=c 2
 have c3:∀ lo hi,ea s ((i:Int)+3) lo hi=_:=c 3
 simp only [b0,b1,b2,b3,c1,c2,c3]
 obtain ⟨n,hn⟩:∃ n,s.length=i+n:=⟨s.length - i,by omega⟩
 have hn1:s.length - i=n:=by omega
 have hlen:(s.length:Int)=(i:Int)+n:=by omega
 rw [hn1,hlen]
 have l0:=(s.getD i 0).toNat_lt
 have l1:=(s.getD (i+1) 0).toNat_lt
 have l2:=(s.getD (i+2) 0).toNat_lt
 have l3:=(s.getD (i+3) 0).toNat_lt
 generalize (s.getD i 0).toNat=B0 at l0 ⊢
 generalize (s.getD (i+1) 0).toNat=B1 at l1 ⊢
 generalize (s.getD (i+2) 0).toNat=B2 at l2 ⊢
 generalize (s.getD (i+3) 0).toNat=B3 at l3 ⊢
 have hnp:0 < n:=by omega
 have hnb:n≤1000000000:=by omega
 have hib:i≤1000000000:=by omega
 clear hg b c b0 b1 b2 b3 c1 c2 c3 hn1 hlen hn hi hs
 have a31:bz .u8 (B0:Int) 31=((B0 % 32:Nat):Int):=tab t31 B0 (by omega)
 have a15:bz .u8 (B0:Int) 15=((B0 % 16:Nat):Int):=tab t15 B0 (by omega)
 have a7:bz .u8 (B0:Int) 7=((B0 % 8:Nat):Int):=tab t7 B0 (by omega)
 have a1:bz .u8 (B1:Int) 63=((B1 % 64:Nat):Int):=tab t63 B1 (by omega)
 have a2:bz .u8 (B2:Int) 63=((B2 % 64:Nat):Int):=tab t63 B2 (by omega)
 have a3:bz .u8 (B3:Int) 63=((B3 % 64:Nat):Int):=tab t63 B3 (by omega)
 have two:iOr .i64 (iY .i64 ((B0 % 32:Nat):Int) 6) ((B1 % 64:Nat):Int)=((B0 % 32*64+B1 % 64:Nat):Int):=by
  have h1:iY .i64 ((B0 % 32:Nat):Int) 6=((B0 % 32*2 ^ 6:Nat):Int):=uT _ 6 (by decide) (by omega)
  rw [h1]
  exact uR _ _ 6 (by omega) (by omega) (by decide)
 have three:iOr .i64 (iOr .i64 (iY .i64 ((B0 % 16:Nat):Int) 12) (iY .i64 ((B1 % 64:Nat):Int) 6)) ((B2 % 64:Nat):Int)=((B0 % 16*4096+B1 % 64*64+B2 % 64:Nat):Int):=by
  have h1:iY .i64 ((B0 % 16:Nat):Int) 12=((B0 % 16*2 ^ 12:Nat):Int):=uT _ 12 (by decide) (by omega)
  have h2:iY .i64 ((B1 % 64:Nat):Int) 6=((B1 % 64*2 ^ 6:Nat):Int):=uT _ 6 (by decide) (by omega)
  have h3:=uR (B0 % 16) (B1 % 64*2 ^ 6) 12 (by omega) (by omega) (by decide)
  have h4:=uR (B0 % 16*64+B1 % 64) (B2 % 64) 6 (by omega) (by omega) (by decide)
  rw [h1,h2,h3,show B0 % 16*2 ^ 12+B1 % 64*2 ^ 6=(B0 % 16*64+B1 % 64)*2 ^ 6 by omega,h4]
 have four:iOr .i64 (iOr .i64 (iOr .i64 (iY .i64 ((B0 % 8:Nat):Int) 18) (iY .i64 ((B1 % 64:Nat):Int) 12)) (iY .i64 ((B2 % 64:Nat):Int) 6)) ((B3 % 64:Nat):Int)=((B0 % 8*262144+B1 % 64*4096+B2 % 64*64+B3 % 64:Nat):Int):=by
  have h1:iY .i64 ((B0 % 8:Nat):Int) 18=((B0 % 8*2 ^ 18:Nat):Int):=uT _ 18 (by decide) (by omega)
  have h2:iY .i64 ((B1 % 64:Nat):Int) 12=((B1 % 64*2 ^ 12:Nat):Int):=uT _ 12 (by decide) (by omega)
  have h2':iY .i64 ((B2 % 64:Nat):Int) 6=((B2 % 64*2 ^ 6:Nat):Int):=uT _ 6 (by decide) (by omega)
  have h3:=uR (B0 % 8) (B1 % 64*2 ^ 12) 18 (by omega) (by omega) (by decide)
  have h4:=uR (B0 % 8*64+B1 % 64) (B2 % 64*2 ^ 6) 12 (by omega) (by omega) (by decide)
  have h5:=uR (B0 % 8*4096+B1 % 64*64+B2 % 64) (B3 % 64) 6 (by omega) (by omega) (by decide)
  rw [h1,h2,h2',h3,show B0 % 8*2 ^ 18+B1 % 64*2 ^ 12=(B0 % 8*64+B1 % 64)*2 ^ 12 by omega,h4,show (B0 % 8*64+B1 % 64)*2 ^ 12+B2 % 64*2 ^ 6=(B0 % 8*4096+B1 % 64*64+B2 % 64)*2 ^ 6 by omega,h5]
 rw [a31,a15,a7,a1,a2,a3,two,three,four]
 have i1:inR ((i:Int)+1):=aF (by omega) (by omega)
 have i2:inR ((i:Int)+2):=aF (by omega) (by omega)
 have i3:inR ((i:Int)+3):=aF (by omega) (by omega)
 have e0:((if (i:Int) < 0 then some true else some (decide ((i:Int)+n≤i))):Option Bool)=some false:=by
  rw [if_neg (by omega)]; simp; omega
 rw [e0,Option.bind_some,if_neg (by simp),bI (by omega)]
 unfold decodeN
 by_cases h0:B0 < 128
 ·rw [if_pos (show (B0:Int) < 128 by omega),bI (aF (by omega) (by omega)),if_pos h0]
  simp only
  rw [if_neg (by omega)]; rfl
 rw [if_neg (show ¬ (B0:Int) < 128 by omega),if_neg h0]
 have e12:((if 194≤(B0:Int) then if (B0:Int)≤223 then ck (inR ((i:Int)+1)) <| (some (decide (1 < n∧(128:Int)≤(B1:Int)∧(B1:Int)≤191))).bind λ r10=>some r10 else some false else some false):Option Bool)=some (decide (194≤B0∧B0≤223∧1 < n∧128≤B1∧B1≤191)):=by
  by_cases q1:194≤B0
  ·rw [if_pos (by omega)]
   by_cases q2:B0≤223
   ·rw [if_pos (by omega),bI i1,Option.bind_some]
    refine congrArg some (eqB ?_)
    rw [decide_eq_true_eq,decide_eq_true_eq]; omega
   ·rw [if_neg (by omega)]; simp; omega
  ·rw [if_neg (by omega)]; simp; omega
 rw [e12,Option.bind_some]
 by_cases h12:194≤B0∧B0≤223∧1 < n∧128≤B1∧B1≤191
 ·rw [if_pos (by simp only [decide_eq_true_eq]; exact h12),bI (aF (by omega) (by omega)),bI (by omega),bI i1,bI (by omega),bI (aF (by omega) (by omega))]
  rw [if_pos (show B0 / 32=6∧1 < n∧B1 / 64=2 by omega),if_pos (show B0 % 32*64+B1 % 64 ≥ 128 by omega)]
  show some _=some (if B0 % 32*64+B1 % 64=65533∧_ then _ else _)
  rw [if_neg (by omega)]; rfl
 rw [if_neg (by simp only [decide_eq_true_eq]; exact h12)]
 have hlo:((if (B0:Int)=224 then some 160 else some 128):Option Int)=some (if B0=224 then 160 else 128):=by
  by_cases q:B0=224
  ·rw [if_pos (by omega),if_pos q]
  ·rw [if_neg (by omega),if_neg q]
 have hhi:((if (B0:Int)=237 then some 159 else some 191):Option Int)=some (if B0=237 then 159 else 191):=by
  by_cases q:B0=237
  ·rw [if_pos (by omega),if_pos q]
  ·rw [if_neg (by omega),if_neg q]
 have hlo4:((if (B0:Int)=240 then some 144 else some 128):Option Int)=some (if B0=240 then 144 else 128):=by
  by_cases q:B0=240
  ·rw [if_pos (by omega),if_pos q]
  ·rw [if_neg (by omega),if_neg q]
 have hhi4:((if (B0:Int)=244 then some 143 else some 191):Option Int)=some (if B0=244 then 143 else 191):=by
  by_cases q:B0=244
  ·rw [if_pos (by omega),if_pos q]
  ·rw [if_neg (by omega),if_neg q]
 rw [hlo,Option.bind_some,hhi,Option.bind_some]
 have e32:∀ lo hi:Int,((if 224≤(B0:Int) then if (B0:Int)≤239 then ck (inR ((i:Int)+1)) <| (some (decide (1 < n∧lo≤(B1:Int)∧(B1:Int)≤hi))).bind λ r26=>if r26=true then ck (inR ((i:Int)+2)) <| (some (decide (2 < n∧(128:Int)≤(B2:Int)∧(B2:Int)≤191))).bind λ r30=>some r30 else some false else some false else some false):Option Bool)
   = some (decide (224≤B0∧B0≤239∧(1 < n∧lo≤(B1:Int)∧(B1:Int)≤hi)∧2 < n∧128≤B2∧B2≤191)):=by
  intro lo hi
  by_cases q1:224≤B0
  ·rw [if_pos (by omega)]
   by_cases q2:B0≤239
   ·rw [if_pos (by omega),bI i1,Option.bind_some]
    by_cases q3:1 < n∧lo≤(B1:Int)∧(B1:Int)≤hi
    ·rw [if_pos (by simp only [decide_eq_true_eq]; exact q3),bI i2,Option.bind_some]
     refine congrArg some (eqB ?_)
     rw [decide_eq_true_eq,decide_eq_true_eq]
     constructor
     ·intro q; exact ⟨q1,q2,q3,by omega⟩
     ·intro q; have:=q.2.2.2; omega
    ·rw [if_neg (by simp only [decide_eq_true_eq]; exact q3)]
     symm; rw [Option.some.injEq,decide_eq_false_iff_not]
     intro q; exact q3 q.2.2.1
   ·rw [if_neg (by omega)]
    symm; rw [Option.some.injEq,decide_eq_false_iff_not]
    intro q; exact q2 q.2.1
  ·rw [if_neg (by omega)]
   symm; rw [Option.some.injEq,decide_eq_false_iff_not]
   intro q; exact q1 q.1
 rw [e32,Option.bind_some]
 by_cases h32:224≤B0∧B0≤239∧(1 < n∧(if B0=224 then 160 else 128)≤(B1:Int)∧(B1:Int)≤(if B0=237 then 159 else 191))∧2 < n∧128≤B2∧B2≤191
 ·rw [if_pos (by simp only [decide_eq_true_eq]; exact h32)]
  obtain ⟨k1,k2,⟨k3,k4,k5⟩,k6,k7,k8⟩:=h32
  have k4':128≤B1∧(B0=224→160≤B1):=by split at k4 <;> omega
  have k5':B1≤191∧(B0=237→B1≤159):=by split at k5 <;> omega
  clear k4 k5
  repeat rw [bI (by first | exact i1 | exact i2 | omega | exact aF (by omega) (by omega))]
  rw [if_neg (show ¬ (B0 / 32=6∧1 < n∧B1 / 64=2) by omega),if_pos (show B0 / 16=14∧(1 < n∧B1 / 64=2)∧2 < n∧B2 / 64=2 by omega),if_pos (show B0 % 16*4096+B1 % 64*64+B2 % 64 ≥ 2048∧(B0 % 16*4096+B1 % 64*64+B2 % 64 < 55296∨57344≤B0 % 16*4096+B1 % 64*64+B2 % 64∧B0 % 16*4096+B1 % 64*64+B2 % 64≤1114111) by omega)]
  show some _=some (if B0 % 16*4096+B1 % 64*64+B2 % 64=65533∧(3:Nat)=1 then _ else _)
  rw [if_neg (by omega)]; rfl
 rw [if_neg (by simp only [decide_eq_true_eq]; exact h32)]
 rw [hlo4,Option.bind_some,hhi4,Option.bind_some]
 have h32':¬ (224≤B0∧B0≤239∧1 < n∧(B0=224→160≤B1)∧128≤B1∧B1≤191∧(B0=237→B1≤159)∧2 < n∧128≤B2∧B2≤191):=by
  rintro ⟨k1,k2,k3,k4,k5,k6,k7,k8⟩
  exact h32 ⟨k1,k2,⟨k3,by split <;> omega,by split <;> omega⟩,k8⟩
 clear h32 e32
 have e60:∀ lo hi:Int,((if 240≤(B0:Int) then if (B0:Int)≤244 then ck (inR ((i:Int)+1)) <| (some (decide (1 < n∧lo≤(B1:Int)∧(B1:Int)≤hi))).bind λ r50=>if r50=true then ck (inR ((i:Int)+2)) <| (some (decide (2 < n∧(128:Int)≤(B2:Int)∧(B2:Int)≤191))).bind λ r54=>if r54=true then ck (inR ((i:Int)+3)) <| (some (decide (3 < n∧(128:Int)≤(B3:Int)∧(B3:Int)≤191))).bind λ r58=>some r58 else some false else some false else some false else some false):Option Bool)
   = some (decide (240≤B0∧B0≤244∧(1 < n∧lo≤(B1:Int)∧(B1:Int)≤hi)∧(2 < n∧128≤B2∧B2≤191)∧3 < n∧128≤B3∧B3≤191)):=by
  intro lo hi
  by_cases q1:240≤B0
  ·rw [if_pos (by omega)]
   by_cases q2:B0≤244
   ·rw [if_pos (by omega),bI i1,Option.bind_some]
    by_cases q3:1 < n∧lo≤(B1:Int)∧(B1:Int)≤hi
    ·rw [if_pos (by simp only [decide_eq_true_eq]; exact q3),bI i2,Option.bind_some]
     by_cases q4:2 < n∧128≤B2∧B2≤191
     ·rw [if_pos (by simp only [decide_eq_true_eq]; omega),bI i3,Option.bind_some]
      refine congrArg some (eqB ?_)
      rw [decide_eq_true_eq,decide_eq_true_eq]
      constructor
      ·intro q; exact ⟨q1,q2,q3,q4,by omega⟩
      ·intro q; have:=q.2.2.2.2; omega
     ·rw [if_neg (by simp only [decide_eq_true_eq]; omega)]
      symm; rw [Option.some.injEq,decide_eq_false_iff_not]
      intro q; exact q4 q.2.2.2.1
    ·rw [if_neg (by simp only [decide_eq_true_eq]; exact q3)]
     symm; rw [Option.some.injEq,decide_eq_false_iff_not]
     intro q; exact q3 q.2.2.1
   ·rw [if_neg (by omega)]
    symm; rw [Option.some.injEq,decide_eq_false_iff_not]
    intro q; exact q2 q.2.1
  ·rw [if_neg (by omega)]
   symm; rw [Option.some.injEq,decide_eq_false_iff_not]
   intro q; exact q1 q.1
 rw [e60,Option.bind_some]
 by_cases h60:240≤B0∧B0≤244∧(1 < n∧(if B0=240 then 144 else 128)≤(B1:Int)∧(B1:Int)≤(if B0=244 then 143 else 191))∧(2 < n∧128≤B2∧B2≤191)∧3 < n∧128≤B3∧B3≤191
 ·rw [if_pos (by simp only [decide_eq_true_eq]; exact h60)]
  obtain ⟨k1,k2,⟨k3,k4,k5⟩,⟨k6,k7,k8⟩,k9,k10,k11⟩:=h60
  have k4':128≤B1∧(B0=240→144≤B1):=by split at k4 <;> omega
  have k5':B1≤191∧(B0=244→B1≤143):=by split at k5 <;> omega
  clear k4 k5
  repeat rw [bI (by first | exact i1 | exact i2 | exact i3 | omega | exact aF (by omega) (by omega))]
  rw [if_neg (show ¬ (B0 / 32=6∧1 < n∧B1 / 64=2) by omega),if_neg (show ¬ (B0 / 16=14∧(1 < n∧B1 / 64=2)∧2 < n∧B2 / 64=2) by omega),if_pos (show B0 / 8=30∧(1 < n∧B1 / 64=2)∧(2 < n∧B2 / 64=2)∧3 < n∧B3 / 64=2 by omega)]
  generalize hv:B0 % 8*262144+B1 % 64*4096+B2 % 64*64+B3 % 64=v
  rw [if_pos (show v ≥ 65536∧(v < 55296∨57344≤v∧v≤1114111) by omega)]
  show some _=some (if v=65533∧(4:Nat)=1 then _ else _)
  rw [if_neg (by omega)]; rfl
 rw [if_neg (by simp only [decide_eq_true_eq]; exact h60)]
 have h60':¬ (240≤B0∧B0≤244∧1 < n∧(B0=240→144≤B1)∧128≤B1∧B1≤191∧(B0=244→B1≤143)∧2 < n∧128≤B2∧B2≤191∧3 < n∧128≤B3∧B3≤191):=by
  rintro ⟨k1,k2,k3,k4,k5,k6,k7,k8,k9,k10,k11⟩
  exact h60 ⟨k1,k2,⟨k3,by split <;> omega,by split <;> omega⟩,⟨k8,k9,k10⟩,k11⟩
 clear h60 e60
 symm
 refine congrArg some (if_pos ?_)
 repeat' split
 all_goals first | exact ⟨rfl,rfl⟩ | (exfalso; omega)
theorem y3 (s:Bytes)(hs:s.length≤1000000000):∀ (k i:Nat),s.length - i < k→i≤s.length→Ev2 (λ _ m=>fh s m (i:Int)) (·=if validD (s.drop i)=true then .inl () else .inr false):=by
 intro k
 induction k with
 | zero=>intro i h; omega
 | succ k ih =>
  intro i hk hi
  refine ap ?_
  simp only [fh]
  by_cases h:i < s.length
  ·have hne:s.drop i≠[]:=by intro q; have:=congrArg List.length q; rw [List.length_drop] at this; simp at this; omega
   refine al (by omega) (ai _ (aR (tj s i h hs) rfl) ?_)
   have hv:=sJ _ hne
   have hdf:=kB _ hne
   rw [List.length_drop] at hdf
   unfold CW
   by_cases q:(decodeL (s.drop i)).1=65533∧(decodeL (s.drop i)).2=1
   ·rw [if_pos q]
    refine al rfl (ab ?_)
    rw [if_neg (λ z=>((hv.1 z).1 q))]
   ·rw [if_neg q]
    refine am (by simp only; omega) (ag (aF (by simp only; omega) (by simp only; omega)) ?_)
    have:=ih (i+(decodeL (s.drop i)).2) (by omega) (by omega)
    rw [Int.natCast_add] at this
    refine dZ this λ r hr=>?_
    rw [hr,← List.drop_drop]
    by_cases z:validD ((s.drop i).drop (decodeL (s.drop i)).2)=true
    ·rw [if_pos z,if_pos (hv.2 ⟨q,z⟩)]
    ·rw [if_neg z,if_neg (λ y=>z (hv.1 y).2)]
  ·refine am (by omega) (ab ?_)
   rw [List.drop_of_length_le (by omega),if_pos validD_nil]
theorem zZ (s:Bytes)(hs:s.length≤1000000000):Ev2 (λ n _=>kc n s) (·=(decide (s.length≤4096)&&validD s)):=by
 simp only [kc]
 refine ar (λ h=>ab ?_) (λ h=>?_)
 ·have:¬ s.length≤4096:=by omega
  simp [this]
 ·have h':s.length≤4096:=by omega
  have l:=y3 s hs (s.length+1) 0 (by omega) (by omega)
  rw [List.drop_zero] at l
  cases hv:validD s with
  | true=>rw [hv] at l; exact dF () (aH l) (ab (by simp [h']))
  | false=>rw [hv] at l; exact fW false (aH l) (by simp)
theorem xb:∀ (k u:Nat),u < 10 ^ (k+1)→u≤9007199254740992→Ev2 (λ n _=>dN n (u:Int)) (·=decDigits u):=by
 intro k
 induction k with
 | zero =>
  intro u h _
  have h:u < 10:=by simpa using h
  refine mY ?_
  simp only [dN]
  have hw:IntKind.wrap .u8 (48+(u:Int))=((48+u:Nat):Int):=by rw [qg]; omega
  rw [hw]
  refine ai true (al (by omega) (ab (by simp; omega))) (al rfl (ag (aF (by omega) (by omega)) (ag (by omega) (ab ?_))))
  rw [decDigits,dif_pos h]
  rfl
 | succ k ih =>
  intro u h hm
  refine mY ?_
  simp only [dN]
  have hw:u < 10→IntKind.wrap .u8 (48+(u:Int))=((48+u:Nat):Int):=λ _=>by rw [qg]; omega
  by_cases h10:u < 10
  ·rw [hw h10]
   refine ai true (al (by omega) (ab (by simp; omega))) (al rfl (ag (aF (by omega) (by omega)) (ag (by omega) (ab ?_))))
   rw [decDigits,dif_pos h10]
   rfl
  ·have hd:IntKind.wrap .i64 ((u:Int).tdiv 10)=((u / 10:Nat):Int):=by
    have:(u:Int).tdiv 10=((u / 10:Nat):Int):=by
     rw [Int.tdiv_eq_ediv_of_nonneg (by omega)]; omega
    rw [this]
    simp [IntKind.wrap,IntKind.bits,IntKind.signed]
    omega
   have hmod:(u:Int).tmod 10=((u % 10:Nat):Int):=by
    rw [Int.tmod_eq_emod_of_nonneg (by omega)]; omega
   refine ai false (al (by omega) (ab (by simp; omega))) (am (by simp) ?_)
   refine ai false (am (by omega) (ab rfl)) (am (by simp) (am (by omega) (ag (by decide) ?_)))
   rw [hd,hmod]
   have i1:=ih (u / 10) (by rw [Nat.pow_succ] at h; omega) (by omega)
   have i2:=ih (u % 10) (by have:10 ^ 1≤10 ^ (k+1):=Nat.pow_le_pow_right (by decide) (by omega); omega) (by omega)
   have e2:decDigits (u % 10)=[UInt8.ofNat (48+u % 10)]:=by rw [decDigits,dif_pos (by omega)]
   have hl:(decDigits (u / 10)).length≤u / 10+1:=by
    have:∀ n v:Nat,v < n→(decDigits v).length≤v+1:=by
     intro n
     induction n with
     | zero=>intro v h; omega
     | succ n ihn =>
      intro v hv
      rw [decDigits]
      split
      ·simp
      ·have:=ihn (v / 10) (by omega)
       rw [List.length_append]; simp; omega
    exact this (u / 10+1) _ (by omega)
   refine ai _ i1 (ag (by decide) (ai _ i2 (ag ?_ (ab ?_))))
   ·rw [e2]; simp only [List.length_cons,List.length_nil]; omega
   ·conv=>rhs; rw [decDigits,dif_neg h10]
    rw [e2]
theorem Cd {v:Int}(h0:0≤v)(h1:v≤io):Ev2 (λ n _=>dN n v) (·=itoa v):=by
 obtain ⟨u,rfl⟩:∃ u:Nat,v=u:=⟨v.toNat,by omega⟩
 have e:itoa (u:Int)=decDigits u:=by unfold itoa; rw [if_neg (by omega)]; simp
 rw [e]
 have:u≤9007199254740992:=by unfold io at h1; omega
 exact xb 15 u (by omega) this
theorem yF:∀ n:Fin 16,sub CZ ((n.1:Nat):Int) (((n.1:Nat):Int)+1)=[hexDigit n.1]:=by decide
theorem xU (u:Nat)(h:u < 256):Ev2 (λ n _=>fM n (u:Int)) (·=dA u):=by
 have one:∀ v:Nat,v < 16→Ev2 (λ n _=>fM n (v:Int)) (·=[hexDigit v]):=by
  intro v hv
  refine mY ?_
  simp only [fM]
  have hm:(v:Int).tmod 16=(v:Int):=by rw [Int.tmod_eq_emod_of_nonneg (by omega)]; omega
  rw [hm]
  refine ag (by decide) (ag (by decide) (ag (aF (by omega) (by omega)) (ag (by simp; omega) (al (by omega) (ab ?_)))))
  exact yF ⟨v,hv⟩
 by_cases h1:u < 16
 ·have e:dA u=[hexDigit u]:=if_pos h1
  rw [e]; exact one u h1
 ·have e:dA u=[hexDigit (u / 16),hexDigit (u % 16)]:=if_neg h1
  rw [e]
  refine mY ?_
  simp only [fM]
  have hm:(u:Int).tmod 16=((u % 16:Nat):Int):=by rw [Int.tmod_eq_emod_of_nonneg (by omega)]; omega
  have hd:IntKind.wrap .i64 ((u:Int).tdiv 16)=((u / 16:Nat):Int):=by
   have:(u:Int).tdiv 16=((u / 16:Nat):Int):=by rw [Int.tdiv_eq_ediv_of_nonneg (by omega)]; omega
   rw [this]
   simp [IntKind.wrap,IntKind.bits,IntKind.signed]
   omega
  rw [hm,hd]
  have es:sub ([48,49,50,51,52,53,54,55,56,57,97,98,99,100,101,102]:Bytes) ((u % 16:Nat):Int) (((u % 16:Nat):Int)+1)=[hexDigit (u % 16)]:=yF ⟨u % 16,by omega⟩
  rw [es]
  refine ag (by decide) (ag (by decide) (ag (aF (by omega) (by omega)) (ag (by simp; omega) (am (by omega) (ag (by decide) (ai _ (one _ (by omega)) (ag (by simp) (ab rfl))))))))
theorem Dx (b:UInt8):Ev2 (λ n _=>iz n (b.toNat:Int)) (·=fJ b):=by
 have hb:=b.toNat_lt
 simp only [iz]
 refine ar (λ h=>ab (x8 (by omega)).symm) (λ h1=>ar (λ h=>ab (yI (by omega)).symm) (λ h2=>ar (λ h=>ab (ym (by omega)).symm) (λ h3=>ar (λ h=>ab ?_) (λ h4=>ar (λ h=>ab ?_) (λ h5=>?_)))))
 ·have e:b=34:=(kW (n:=34) (by decide)).1 (by omega)
  rw [e]; rfl
 ·have e:b=92:=(kW (n:=92) (by decide)).1 (by omega)
  rw [e]; rfl
 ·refine ai (decide (b.toNat < 32∨b.toNat=127)) ?_ ?_
  ·by_cases h:b.toNat < 32
   ·exact al (by omega) (ab (by simp [h]))
   ·exact am (by omega) (ab (eqB (by rw [decide_eq_true_eq,decide_eq_true_eq]; omega)))
  ·by_cases h6:b.toNat < 32∨b.toNat=127
   ·rw [yv (by omega) (by omega) (by omega) h6]
    have hl:=nE b.toNat
    exact al (by simp [h6]) (ag (aF (by omega) (by omega)) (ai _ (xU b.toNat (by omega)) (ag (by simp only [List.length_cons,List.length_nil]; omega) (ag (by simp only [List.length_append,List.length_cons,List.length_nil]; omega) (ab rfl)))))
   ·rw [wd (by omega) (by omega) h6]
    refine am (by simp only [decide_eq_true_eq]; exact h6) (ag (by omega) (ab ?_))
    rw [Ax]
theorem zC (s:Bytes)(hs:s.length≤1000000000):∀ (k i:Nat) (f:Bytes),i+k=s.length→f.length≤6*i+1→Ev2 (λ n m=>eF n s m f (i:Int)) (·=f++(s.drop i).flatMap fJ):=by
 intro k
 induction k with
 | zero =>
  intro i f hi hf
  refine ap ?_
  simp only [eF]
  refine am (by omega) (ab ?_)
  rw [List.drop_of_length_le (by omega)]; simp
 | succ k ih =>
  intro i f hi hf
  refine ap ?_
  simp only [eF]
  refine al (by omega) (ag (by omega) ?_)
  have hb:byt s i=((s.getD i 0).toNat:Int):=dM s i
  rw [hb]
  have hd:s.drop i=s.getD i 0::s.drop (i+1):=by
   rw [List.getD_eq_getElem?_getD,List.getElem?_eq_getElem (by omega),Option.getD_some]
   exact List.drop_eq_getElem_cons (by omega)
  rw [hd,List.flatMap_cons]
  have he:=pW (s.getD i 0)
  generalize s.getD i 0=b at he ⊢
  refine ai _ (Dx b) (ag (by omega) (ag (aF (by omega) (by omega)) ?_))
  have:=ih (i+1) (f++fJ b) (by omega) (by rw [List.length_append]; omega)
  rw [Int.natCast_add,Int.natCast_one] at this
  simpa using this
theorem uH (s:Bytes)(hs:s.length≤1000000000):Ev2 (λ n _=>iR n s) (·=dI s):=by
 simp only [iR]
 have hf:=sy s
 have l:=zC s hs s.length 0 [34] (by omega) (by simp)
 rw [List.drop_zero] at l
 refine ai _ (aH l) (ag (by simp only [List.length_append,List.length_cons,List.length_nil]; omega) (ab ?_))
 simp [dI]
theorem E1:(List.range 256).all (λ n=>kI (n:Int) == some (match qK (UInt8.ofNat n) with | some d=>(d:Int) | none=>-1))=true:=by kernel_rfl
theorem Eg (b:UInt8):kI (b.toNat:Int)=some (match qK b with | some d=>(d:Int) | none=>-1):=by
 have:=eq_of_beq (List.all_eq_true.1 E1 b.toNat (List.mem_range.2 b.toNat_lt))
 simpa using this
theorem getD_drop (s:Bytes)(j i:Nat):(s.drop j).getD i 0=s.getD (j+i) 0:=by
 rw [List.getD_eq_getElem?_getD,List.getElem?_drop,List.getD_eq_getElem?_getD]
theorem tJ (s:Bytes)(j i:Nat):byt s ((j:Int)+(i:Int))=((s.getD (j+i) 0).toNat:Int):=by
 rw [show (j:Int)+(i:Int)=((j+i:Nat):Int) by omega]; exact dM s (j+i)
theorem drop_at (s:Bytes){i:Nat}(h:i < s.length):s.drop i=s.getD i 0::s.drop (i+1):=by
 rw [List.getD_eq_getElem?_getD,List.getElem?_eq_getElem h,Option.getD_some]
 exact List.drop_eq_getElem_cons h
theorem zS (s:Bytes)(hs:s.length≤1000000000)(j:Nat)(hj:j≤s.length):∀ (k i a:Nat),i+k=6→j+i≤s.length→a < 16 ^ i→Ev2 (λ _ m=>eq s (j:Int) m (a:Int) (i:Int))
  (·=(((di k (s.drop (j+i)) a).1:Int),((i+(di k (s.drop (j+i)) a).2:Nat):Int))):=by
 intro k
 induction k with
 | zero =>
  intro i a hi hl ha
  refine ap ?_
  simp only [eq]
  refine ai false ?_ (am (by simp) (ab (by simp [di])))
  exact ag (aF (by omega) (by omega)) (ar (λ h=>am (by omega) (ab rfl)) (λ h=>ab rfl))
 | succ k ih =>
  intro i a hi hl ha
  refine ap ?_
  simp only [eq]
  rw [tJ]
  have hin:inR ((j:Int)+(i:Int)):=aF (by omega) (by omega)
  by_cases h:j+i < s.length
  ·rw [drop_at s h]
   generalize s.getD (j+i) 0=b
   unfold di
   cases hh:qK b with
   | none =>
    refine ai false (ag hin (al (by omega) (al (by omega) (ag hin (ag (by omega) (ai _ (aR (Eg b) rfl) (ab ?_))))))) (am (by simp) (ab (by simp)))
    rw [hh]; rfl
   | some d =>
    have hlt:=yK hh
    have hp:16 ^ i≤16 ^ 5:=Nat.pow_le_pow_right (by decide) (by omega)
    have hp5:(16:Nat) ^ 5=1048576:=rfl
    refine ai true (ag hin (al (by omega) (al (by omega) (ag hin (ag (by omega) (ai _ (aR (Eg b) rfl) (ab ?_))))))) ?_
    ·rw [hh]; simp
    refine al rfl (ag (aF (by omega) (by omega)) (ag hin (ag (by omega) (ai _ (aR (Eg b) rfl) ?_))))
    rw [hh]
    simp only
    refine ag (aF (by omega) (by omega)) (ag (aF (by omega) (by omega)) ?_)
    have:=ih (i+1) (16*a+d) (by omega) (by omega) (by rw [Nat.pow_succ]; omega)
    rw [show (((i+1:Nat)):Int)=(i:Int)+1 by omega,show ((16*a+d:Nat):Int)=16*(a:Int)+(d:Int) by omega,← Nat.add_assoc] at this
    refine dZ this λ r hr=>?_
    rw [hr]
    refine Prod.ext rfl ?_
    show ((i+1+_:Nat):Int)=((i+(_+1):Nat):Int)
    omega
  ·refine ai false (ag hin (am (by omega) (ab rfl))) (am (by simp) (ab ?_))
   rw [List.drop_of_length_le (by omega)]
   simp [di]
def shP (j:Int)(p:Int×Int×Int):Int×Int×Int:=if p.2.2=0 then (p.1,j+p.2.1,0) else (0,0,p.2.2)
theorem z6 (s:Bytes)(hs:s.length≤1000000000)(j:Nat)(hj:j≤s.length):Ev2 (λ n _=>j2 n s (j:Int)) (·=shP (j:Int) (ja (s.drop j))):=by
 simp only [j2]
 have l:=zS s hs j hj 6 0 0 rfl (by omega) (by decide)
 rw [Nat.add_zero,Nat.zero_add] at l
 have hle:=oB 6 (s.drop j) 0
 refine ai _ (aH l) ?_
 obtain ⟨v,c,hh⟩:∃ v c,di 6 (s.drop j) 0=(v,c):=⟨_,_,rfl⟩
 have hP:=sk hh
 rw [hh] at hle ⊢
 rw [List.length_drop] at hle hP
 simp only at hle ⊢
 have hin:inR ((j:Int)+(c:Int)):=aF (by omega) (by omega)
 refine ag hin ?_
 refine ar (λ h=>ab ?_) (λ h=>?_)
 ·rw [hP,if_pos (by omega)]; rfl
 rw [if_neg (show ¬ c=s.length - j by omega),getD_drop,getD_drop,Nat.add_zero] at hP
 have hb0:byt s (j:Int)=((s.getD j 0).toNat:Int):=dM s j
 have h125:(s.getD (j+c) 0).toNat=125↔s.getD (j+c) 0=125:=kW (by decide)
 have h48:(s.getD j 0).toNat=48↔s.getD j 0=48:=kW (by decide)
 rw [tJ,hb0]
 have hvr:validRune (v:Int)=false↔1114111 < (v:Int)∨(55296≤(v:Int)∧(v:Int)≤57343):=by
  simp only [validRune,decide_eq_false_iff_not]; omega
 have tail:Ev2 (λ _ _=>(if 1114111 < (v:Int) then some true else if 55296≤(v:Int) then some (decide ((v:Int)≤57343)) else some false:Option Bool)) (·=decide (validRune (v:Int)=false)):=by
  refine ar (λ h1=>ab ?_) (λ h1=>ar (λ h2=>ab (eqB ?_)) (λ h2=>ab ?_))
  ·symm; rw [decide_eq_true_eq,hvr]; exact .inl h1
  ·rw [decide_eq_true_eq,decide_eq_true_eq,hvr]; omega
  ·symm; rw [decide_eq_false_iff_not,hvr]; omega
 refine ai (decide (s.getD (j+c) 0≠125∨c=0∨(1 < c∧s.getD j 0=48)∨validRune (v:Int)=false)) ?_ ?_
 ·refine ar (λ h1=>ab ?_) (λ h1=>ag hin (ag (by omega) ?_))
  ·symm; rw [decide_eq_true_eq]; right; left; omega
  refine ar (λ h2=>?_) (λ h2=>ab ?_)
  ·have q1:¬ s.getD (j+c) 0≠125:=λ q=>q (h125.1 (by omega))
   have q0:¬ c=0:=by omega
   refine ar (λ h3=>ag (by omega) (ar (λ h4=>ab ?_) (λ h4=>?_))) (λ h3=>?_)
   ·symm; rw [decide_eq_true_eq]; right; right; left; exact ⟨by omega,h48.1 (by omega)⟩
   ·have q2:¬ (1 < c∧s.getD j 0=48):=λ q=>h4 (by have:=h48.2 q.2; omega)
    refine dZ tail λ r hr=>?_
    rw [hr]; simp only [q1,q0,q2,false_or]
   ·have q2:¬ (1 < c∧s.getD j 0=48):=λ q=>h3 (by omega)
    refine dZ tail λ r hr=>?_
    rw [hr]; simp only [q1,q0,q2,false_or]
  ·symm; rw [decide_eq_true_eq]; left; intro q; exact h2 (by have:=h125.2 q; omega)
 ·refine ar (λ h1=>ab ?_) (λ h1=>ag hin (ag (aF (by omega) (by omega)) (ab ?_)))
  ·rw [hP,if_pos (of_decide_eq_true h1)]; rfl
  ·rw [hP,if_neg (λ q=>h1 (decide_eq_true q))]
   unfold shP
   rw [if_pos rfl]
   refine Prod.ext rfl (Prod.ext ?_ rfl)
   show (j:Int)+(c:Int)+1=(j:Int)+((c+1:Nat):Int)
   omega
theorem u192:(List.range 32).all (λ n=>iOr .i64 192 (n:Int) == ((192+n:Nat):Int))=true:=by kernel_rfl
theorem D9:(List.range 64).all (λ n=>iOr .i64 128 (n:Int) == ((128+n:Nat):Int))=true:=by kernel_rfl
theorem u224:(List.range 16).all (λ n=>iOr .i64 224 (n:Int) == ((224+n:Nat):Int))=true:=by kernel_rfl
theorem u240:(List.range 8).all (λ n=>iOr .i64 240 (n:Int) == ((240+n:Nat):Int))=true:=by kernel_rfl
theorem w3 (u:Nat)(h:u < 4611686018427387904):bz .i64 (u:Int) 63=((u % 64:Nat):Int):=by
 have e1:(BitVec.ofInt 64 (u:Int)).toNat=u:=by rw [BitVec.toNat_ofInt]; omega
 have e2:(BitVec.ofInt 64 (63:Int)).toNat=63:=by rw [BitVec.toNat_ofInt]; omega
 show IntKind.wrap .i64 (((BitVec.ofInt 64 (u:Int)) &&& (BitVec.ofInt 64 (63:Int))).toNat:Nat)=_
 rw [BitVec.toNat_and,e1,e2]
 have:=Nat.and_two_pow_sub_one_eq_mod u 6
 rw [show (2:Nat) ^ 6 - 1=63 from rfl,show (2:Nat) ^ 6=64 from rfl] at this
 rw [this]
 simp [IntKind.wrap,IntKind.bits,IntKind.signed]
 omega
theorem shw (u k:Nat)(hk:k < 64):cK .i64 (u:Int) (k:Int)=((u / 2 ^ k:Nat):Int):=by
 show (u:Int).fdiv (2 ^ (min (k:Int).toNat IntKind.i64.bits))=_
 have:min (k:Int).toNat IntKind.i64.bits=k:=by
  have:IntKind.i64.bits=64:=rfl
  rw [this]; omega
 rw [this,Int.fdiv_eq_ediv_of_nonneg _ (by exact Int.le_of_lt (Int.pow_pos (by decide)))]
 push_cast; rfl
theorem Df (u:Nat)(h:fw (u:Int)):jl (u:Int)=some (encodeRune (u:Int)):=by
 have h0:(u:Int)≤1114111:=by unfold fw at h; omega
 unfold jl
 have s6:cK .i64 (u:Int) 6=((u / 64:Nat):Int):=shw u 6 (by decide)
 have s12:cK .i64 (u:Int) 12=((u / 4096:Nat):Int):=shw u 12 (by decide)
 have s18:cK .i64 (u:Int) 18=((u / 262144:Nat):Int):=shw u 18 (by decide)
 rw [s6,s12,s18,w3 u (by omega),w3 (u / 64) (by omega),w3 (u / 4096) (by omega)]
 have o1:iOr .i64 128 ((u % 64:Nat):Int)=((128+u % 64:Nat):Int):=tab D9 _ (by omega)
 have o2:iOr .i64 128 ((u / 64 % 64:Nat):Int)=((128+u / 64 % 64:Nat):Int):=tab D9 _ (by omega)
 have o3:iOr .i64 128 ((u / 4096 % 64:Nat):Int)=((128+u / 4096 % 64:Nat):Int):=tab D9 _ (by omega)
 rw [o1,o2,o3]
 have w8:∀ v:Nat,v < 256→IntKind.wrap .u8 (v:Int)=(v:Int):=λ v hv=>by rw [qg]; omega
 have eu:∀ (v:Nat) (w:Int),(v:Int)=w→u8 (v:Int)=w.toNat.toUInt8:=λ v w q=>by rw [← q]; rfl
 by_cases h1:u < 128
 ·rw [if_pos (by omega),w8 u (by omega),bI (by omega)]
  simp only [encodeRune,encodeRuneZ,if_pos (show 0≤(u:Int)∧(u:Int)≤127 by omega),List.map_cons,List.map_nil,u8]
 rw [if_neg (by omega)]
 have n1:¬ (0≤(u:Int)∧(u:Int)≤127):=by omega
 by_cases h2:u < 2048
 ·have p1:iOr .i64 192 ((u / 64:Nat):Int)=((192+u / 64:Nat):Int):=tab u192 _ (by omega)
  rw [if_pos (by omega),p1,w8 _ (by omega),w8 _ (by omega),bI (by omega),bI (by omega),bI (by omega)]
  simp only [encodeRune,encodeRuneZ,if_neg n1,if_pos (show 128≤(u:Int)∧(u:Int)≤2047 by omega),List.map_cons,List.map_nil]
  rw [eu _ (192+(u:Int) / 64) (by omega),eu _ (128+(u:Int) % 64) (by omega)]
 rw [if_neg (by omega)]
 have n2:¬ (128≤(u:Int)∧(u:Int)≤2047):=by omega
 by_cases h3:u < 65536
 ·have p1:iOr .i64 224 ((u / 4096:Nat):Int)=((224+u / 4096:Nat):Int):=tab u224 _ (by omega)
  rw [if_pos (by omega),p1,w8 _ (by omega),w8 _ (by omega),w8 _ (by omega)]
  repeat rw [bI (by omega)]
  simp only [encodeRune,encodeRuneZ,if_neg n1,if_neg n2,if_pos (show (2048≤(u:Int)∧(u:Int) < 55296)∨(57343 < (u:Int)∧(u:Int)≤65535) by unfold fw at h; omega),List.map_cons,List.map_nil]
  rw [eu _ (224+(u:Int) / 4096) (by omega),eu _ (128+(u:Int) / 64 % 64) (by omega),eu _ (128+(u:Int) % 64) (by omega)]
 ·have p1:iOr .i64 240 ((u / 262144:Nat):Int)=((240+u / 262144:Nat):Int):=tab u240 _ (by omega)
  rw [if_neg (by omega),p1,w8 _ (by omega),w8 _ (by omega),w8 _ (by omega),w8 _ (by omega)]
  repeat rw [bI (by omega)]
  simp only [encodeRune,encodeRuneZ,if_neg n1,if_neg n2,if_neg (show ¬ ((2048≤(u:Int)∧(u:Int) < 55296)∨(57343 < (u:Int)∧(u:Int)≤65535)) by omega),if_pos (show 65536≤(u:Int)∧(u:Int)≤1114111 by omega),List.map_cons,List.map_nil]
  rw [eu _ (240+(u:Int) / 262144) (by omega),eu _ (128+(u:Int) / 4096 % 64) (by omega),eu _ (128+(u:Int) / 64 % 64) (by omega),eu _ (128+(u:Int) % 64) (by omega)]
theorem oj (s:Bytes)(a w:Nat):sub s (a:Int) ((a:Int)+(w:Int))=(s.drop a).take w:=by
 show (s.take ((a:Int)+(w:Int)).toNat).drop (a:Int).toNat=_
 rw [show ((a:Int)+(w:Int)).toNat=a+w by omega,Int.toNat_natCast,List.drop_take,Nat.add_sub_cancel_left]
def shE (j:Int)(p:Int×Int×Int):Bytes×Int×Int:=if p.2.2=0 then (encodeRune p.1,j+p.2.1,0) else ([],0,p.2.2)
theorem lT (j v c:Int):shE j (v,c,0)=(encodeRune v,j+c,0):=if_pos rfl
theorem yC (j v c e:Int)(h:e≠0):shE j (v,c,e)=([],0,e):=if_neg h
theorem wQ (s:Bytes)(hs:s.length≤1000000000)(i:Nat)(hi:i < s.length):Ev2 (λ n _=>iw n s (i:Int)) (·=shE ((i:Int)+1) (jK (s.drop (i+1)))):=by
 simp only [iw]
 have i1:inR ((i:Int)+1):=aF (by omega) (by omega)
 have i2:inR ((i:Int)+2):=aF (by omega) (by omega)
 have i3:inR ((i:Int)+3):=aF (by omega) (by omega)
 refine ag i1 ?_
 by_cases h1:i+1 < s.length
 ·have hb:byt s ((i:Int)+1)=((s.getD (i+1) 0).toNat:Int):=tJ s i 1
  have hb2:byt s ((i:Int)+2)=((s.getD (i+2) 0).toNat:Int):=tJ s i 2
  have hsub:sub s ((i:Int)+1) ((i:Int)+2)=[s.getD (i+1) 0]:=by
   have:=oj s (i+1) 1
   rw [show ((i+1:Nat):Int)=(i:Int)+1 by omega,show (i:Int)+1+((1:Nat):Int)=(i:Int)+2 by omega] at this
   rw [this,drop_at s h1]; rfl
  have hd2:s.drop (i+1+1)=s.drop (i+2):=rfl
  rw [hb,hb2,hsub,drop_at s h1,hd2]
  generalize s.getD (i+1) 0=b
  have hbl:=b.toNat_lt
  have hP:=ol b (s.drop (i+2))
  refine am (by omega) (ag i1 (ag (by omega) ?_))
  have two:(i:Int)+2=(i:Int)+1+1:=by omega
  refine ar (λ h=>ag i2 (ab ?_)) (λ h1=>?_)
  ·rw [hP,if_pos (by omega),lT,two]; rfl
  rw [if_neg (show ¬ b.toNat=110 by omega)] at hP
  refine ar (λ h=>ag i2 (ab ?_)) (λ h2=>?_)
  ·rw [hP,if_pos (by omega),lT,two]; rfl
  rw [if_neg (show ¬ b.toNat=114 by omega)] at hP
  refine ar (λ h=>ag i2 (ab ?_)) (λ h3=>?_)
  ·rw [hP,if_pos (by omega),lT,two]; rfl
  rw [if_neg (show ¬ b.toNat=116 by omega)] at hP
  refine ai (decide (b.toNat=34∨b.toNat=92)) ?_ ?_
  ·by_cases h:b.toNat=34
   ·exact al (by omega) (ab (by simp [h]))
   ·exact am (by omega) (ab (eqB (by rw [decide_eq_true_eq,decide_eq_true_eq]; omega)))
  by_cases h4:b.toNat=34∨b.toNat=92
  ·rw [if_pos h4] at hP
   rw [hP,lT,qZ b (by omega)]
   exact al (by simp [h4]) (ag i1 (ag i2 (ag (by omega) (ag i2 (ab (by rw [two]))))))
  rw [if_neg h4] at hP
  refine am (by simp only [decide_eq_true_eq]; exact h4) ?_
  refine ar (λ h5=>?_) (λ h5=>ab (by rw [hP,if_neg (by omega)]; rfl))
  rw [if_pos (show b.toNat=117 by omega)] at hP
  rw [hP]
  refine ag i2 ?_
  by_cases h6:i+2 < s.length
  ·rw [drop_at s h6]
   have hd3:s.drop (i+2+1)=s.drop (i+3):=rfl
   rw [hd3]
   refine am (by omega) (ag i2 (ag (by omega) ?_))
   generalize s.getD (i+2) 0=c
   show Ev2 _ (·=shE ((i:Int)+1) (if c.toNat=123 then ((ja (s.drop (i+3))).1,(ja (s.drop (i+3))).2.1+2,(ja (s.drop (i+3))).2.2) else ((0,0,2):Int×Int×Int)))
   refine ar (λ h7=>ag i3 ?_) (λ h7=>ab (by rw [if_neg (by omega)]; rfl))
   rw [if_pos (show c.toNat=123 by omega)]
   have hpt:=z6 s hs (i+3) (by omega)
   rw [show ((i+3:Nat):Int)=(i:Int)+3 by omega] at hpt
   have hle:=vz (s.drop (i+3))
   generalize ja (s.drop (i+3))=p at hpt hle ⊢
   obtain ⟨v,w,e⟩:=p
   simp only at hle ⊢
   refine ai _ hpt ?_
   by_cases he:e=0
   ·subst he
    have hr:=hle.2.2.1 rfl
    obtain ⟨u,rfl⟩:∃ u:Nat,v=u:=⟨v.toNat,by unfold fw at hr; omega⟩
    rw [show shP ((i:Int)+3) ((u:Int),w,0)=((u:Int),(i:Int)+3+w,0) from if_pos rfl,lT]
    refine al rfl (ai _ (aR (Df u hr) rfl) (ab ?_))
    refine Prod.ext rfl (Prod.ext ?_ rfl)
    show (i:Int)+3+w=(i:Int)+1+(w+2)
    omega
   ·rw [show shP ((i:Int)+3) (v,w,e)=(0,0,e) from if_neg he,yC _ _ _ _ he]
    exact am he (ab rfl)
  ·rw [List.drop_of_length_le (show s.length≤i+2 by omega)]
   exact al (by omega) (ab rfl)
 ·rw [List.drop_of_length_le (by omega)]
  exact al (by omega) (ab rfl)
theorem Em (b:UInt8)(r:Bytes)(h:128≤b.toNat):128≤(decodeL (b::r)).1:=by
 have hN:=Dv (b::r).length ((b::r).getD 0 0).toNat ((b::r).getD 1 0).toNat ((b::r).getD 2 0).toNat ((b::r).getD 3 0).toNat (by simp) (UInt8.toNat_lt _)
 rw [← decodeL_N] at hN
 rcases Nat.lt_or_ge (decodeL (b::r)).1 128 with q | q
 ·have:=(hN.2.2.2.1 q).2
  have hb0:((b::r).getD 0 0).toNat=b.toNat:=rfl
  omega
 ·exact q
def EF (i:Int)(b:UInt8)(r:Bytes):Bytes×Int×Int :=
 if (decodeL (b::r)).1=92 then shE (i+1) (jK r)
 else if pF (decodeL (b::r)) then ([],0,2)
 else (encodeRune ((decodeL (b::r)).1:Int),i+((decodeL (b::r)).2:Int),0)
theorem Da (s:Bytes)(hs:s.length≤1000000000)(i:Nat)(b:UInt8)(r:Bytes)(hl:s.drop i=b::r)(hi:i+r.length+1=s.length):Ev2 (λ n _=>lU n s (i:Int)) (·=EF (i:Int) b r):=by
 simp only [lU]
 have hil:i < s.length:=by omega
 have hd:=drop_at s hil
 rw [hl] at hd
 have hb:byt s i=(b.toNat:Int):=by rw [dM,← (List.cons.inj hd).1]
 have hr:s.drop (i+1)=r:=(List.cons.inj hd).2.symm
 rw [hb]
 have hbl:=b.toNat_lt
 unfold EF
 refine ag (by omega) ?_
 by_cases h92:b.toNat=92
 ·have e:decodeL (b::r)=(b.toNat,1):=decodeL_ascii b r (by omega)
  rw [e,if_pos h92]
  have:=wQ s hs i hil
  rw [hr] at this
  exact al (by omega) (ai _ this (ab rfl))
 ·have hdec:=tj s i hil hs
  rw [hl] at hdec
  have hdf:=kB (b::r) (by simp)
  have hc:((decodeL (b::r)).1=b.toNat∧(decodeL (b::r)).2=1∧b.toNat < 128)∨(128≤(decodeL (b::r)).1∧128≤b.toNat):=by
   rcases Nat.lt_or_ge b.toNat 128 with q | q
   ·left; rw [decodeL_ascii b r q]; exact ⟨rfl,rfl,q⟩
   ·right; exact ⟨Em b r q,q⟩
  refine am (by omega) (ai _ (aR hdec rfl) ?_)
  unfold CW
  generalize hD:decodeL (b::r)=D at hdf hc ⊢
  obtain ⟨c,w⟩:=D
  simp only at hdf hc ⊢
  rw [if_neg (show ¬ c=92 by omega)]
  simp only [List.length_cons] at hdf
  by_cases hbad:c=65533∧w=1
  ·rw [if_pos hbad,if_pos (show pF (c,w) from .inl hbad)]
   exact ai true (al rfl (ab rfl)) (al rfl (ab rfl))
  ·rw [if_neg hbad]
   have hgood:=hdf.2.2 hbad
   refine ai (decide (pF (c,w))) ?_ ?_
   ·refine am (by simp only; omega) (ag (by omega) (ar (λ h=>ab ?_) (λ h=>ag (by omega) (ab (eqB ?_)))))
    ·symm; rw [decide_eq_true_eq]; unfold pF; simp only; omega
    ·rw [decide_eq_true_eq,decide_eq_true_eq]; unfold pF; simp only; omega
   ·refine ar (λ h=>ab (by rw [if_pos (of_decide_eq_true h)])) (λ h=>?_)
    rw [if_neg (λ q=>h (decide_eq_true q))]
    have hin:inR ((i:Int)+(w:Int)):=aF (by omega) (by omega)
    refine ag hin (ag (by simp only; omega) (ag hin (ab ?_)))
    simp only
    rw [oj,hl,hgood.2]
def C8 (s:Bytes):(Int×Bytes)⊕(Bytes×Int×Int)→Unit⊕(Bytes×Int×Int)
 | .inl q=>if q.1=(s.length:Int) then .inl () else .inr (if 4096 < q.2.length then ([],0,3) else (q.2,q.1+1,0))
 | .inr e=>.inr e
theorem Ds (s:Bytes)(hs:s.length≤1000000000):∀ (k:Nat) (l:Bytes) (i:Nat) (f:Bytes),l.length < k→s.drop i=l→i+l.length=s.length→f.length≤4*i→Ev2 (λ n m=>em n s m f (i:Int)) (·=C8 s (kr k l i f)):=by
 intro k
 induction k with
 | zero=>intro l i f h; omega
 | succ k ih =>
  intro l i f hk hl hi hf
  refine ap ?_
  simp only [em]
  cases l with
  | nil =>
   simp only [List.length_nil] at hi
   refine am (by omega) (ab ?_)
   rw [kr]
   show _=(if (i:Int)=(s.length:Int) then _ else _)
   rw [if_pos (by omega)]
  | cons b r =>
   have hil:i < s.length:=by simp only [List.length_cons] at hi; omega
   have hd:=drop_at s hil
   rw [hl] at hd
   have hb:byt s i=(b.toNat:Int):=by rw [dM,← (List.cons.inj hd).1]
   have hr:s.drop (i+1)=r:=(List.cons.inj hd).2.symm
   have hlr:r.length+i+1=s.length:=by simp only [List.length_cons] at hi; omega
   have hU:=iQ k b r i f
   have h1:=Da s hs i b r hl (by omega)
   rw [hb]
   refine al (by omega) (ag (by omega) ?_)
   by_cases h34:b.toNat=34
   ·rw [if_pos h34] at hU
    have hO:C8 s (.inl ((i:Int),f))=.inr (if 4096 < f.length then ([],0,3) else (f,(i:Int)+1,0)):=if_neg (by simp only; omega)
    rw [hU,hO]
    refine al (by omega) (ar (λ h=>ab (by rw [if_pos (by omega)])) (λ h=>ag (aF (by omega) (by omega)) (ab (by rw [if_neg (by omega)]))))
   rw [if_neg h34] at hU
   refine am (by omega) (ai _ h1 ?_)
   unfold EF
   have hdf:=kB (b::r) (by simp)
   generalize hD:decodeL (b::r)=D at hU hdf ⊢
   obtain ⟨c,w⟩:=D
   simp only at hU hdf ⊢
   by_cases h92:c=92
   ·rw [if_pos h92] at hU ⊢
    have hes:=vh r
    generalize jK r=E at hU hes ⊢
    obtain ⟨x,y,z⟩:=E
    simp only at hU hes
    by_cases hz:z=0
    ·subst hz
     rw [if_pos rfl] at hU
     rw [lT]
     obtain ⟨e1,e2⟩:=hes.2.2.1 rfl
     obtain ⟨y',rfl⟩:∃ y':Nat,y=y':=⟨y.toNat,by omega⟩
     rw [Int.toNat_natCast] at hU
     have hle:=lD x e1
     refine al rfl (ag (by dsimp only; omega) ?_)
     have:=ih (r.drop y') (i+(y'+1)) (f++encodeRune x) (by rw [List.length_drop]; simp only [List.length_cons] at hk; omega) (by rw [← hr,List.drop_drop]; congr 1; omega) (by rw [List.length_drop]; omega) (by rw [List.length_append]; omega)
     rw [← hU] at this
     rw [show ((i+(y'+1):Nat):Int)=(i:Int)+1+(y':Int) by omega] at this
     exact this
    ·rw [if_neg hz] at hU
     rw [yC _ _ _ _ hz]
     exact am hz (ab (by rw [hU]; rfl))
   ·rw [if_neg h92] at hU ⊢
    by_cases hbd:pF (c,w)
    ·rw [if_pos hbd] at hU ⊢
     exact am (by simp) (ab (by rw [hU]; rfl))
    ·rw [if_neg hbd] at hU ⊢
     have hgood:=hdf.2.2 (λ q=>hbd (.inl q))
     have hle:=lD c hgood.1
     have hw:w≤r.length+1:=by simpa using hdf.2.1
     have hw1:=hdf.1
     refine al rfl (ag (by dsimp only; omega) ?_)
     have:=ih ((b::r).drop w) (i+w) (f++encodeRune (c:Int)) (by rw [List.length_drop]; simp only [List.length_cons] at hk ⊢; omega) (by rw [← hl,List.drop_drop]) (by rw [List.length_drop]; simp only [List.length_cons]; omega) (by rw [List.length_append]; omega)
     rw [← hU] at this
     rw [show ((i+w:Nat):Int)=(i:Int)+(w:Int) by omega] at this
     exact this
theorem CJ (s:Bytes)(hs:s.length≤1000000000):Ev2 (λ n _=>iy n s) (·=jF s):=by
 simp only [iy]
 cases s with
 | nil=>exact al rfl (ab rfl)
 | cons b r =>
  have hl:((b::r).length:Int)=(r.length:Int)+1:=by simp
  have hln:(b::r).length=r.length+1:=by simp
  refine am (by omega) (ag (by omega) ?_)
  have hb:byt (b::r) 0=(b.toNat:Int):=rfl
  rw [hb,l9]
  refine ar (λ h=>?_) (λ h=>ab (by rw [if_neg (show ¬ b.toNat=34 by omega)]))
  have l:=Ds (b::r) hs (r.length+1) r 1 [] (by omega) rfl (by omega) (by simp)
  rw [if_pos (show b.toNat=34 by omega)]
  generalize kr (r.length+1) r 1 []=U at l ⊢
  cases U with
  | inr e=>exact fW e (aH l) rfl
  | inl q =>
   obtain ⟨a,g⟩:=q
   by_cases ha:a=((r.length+1:Nat):Int)
   ·have e:C8 (b::r) (.inl (a,g))=.inl ():=if_pos (by simp only; omega)
    rw [e] at l
    refine dF () (aH l) (ab ?_)
    show _=(if a=((r.length+1:Nat):Int) then _ else _)
    rw [if_pos ha]
   ·have e:C8 (b::r) (.inl (a,g))=.inr (if 4096 < g.length then ([],0,3) else (g,a+1,0)):=if_neg (by simp only; omega)
    rw [e] at l
    refine fW _ (aH l) ?_
    show _=(if a=((r.length+1:Nat):Int) then _ else if 4096 < g.length then _ else (g,a+1,0))
    rw [if_neg ha]
theorem CK (s:Bytes)(hs:s.length≤1000000000):∀ (k i:Nat),i+k=s.length→Ev2 (λ _ m=>ef s m (i:Int)) (·=if lK (λ j=>dv (s.getD j 0)) i k then .inl () else .inr false):=by
 intro k
 induction k with
 | zero =>
  intro i hi
  refine ap ?_
  simp only [ef]
  exact am (by omega) (ab rfl)
 | succ k ih =>
  intro i hi
  refine ap ?_
  simp only [ef]
  have hb:byt s i=((s.getD i 0).toNat:Int):=dM s i
  rw [hb]
  refine al (by omega) (ai (!dv (s.getD i 0)) ?_ ?_)
  ·have h:=ix (s.getD i 0)
   generalize s.getD i 0=b at h ⊢
   refine ag (by omega) (ar (λ h1=>ab ?_) (λ h1=>ag (by omega) (ab ?_)))
   ·have:dv b=false:=by rw [← Bool.not_eq_true,h]; omega
    simp [this]
   ·refine eqB ?_
    rw [decide_eq_true_eq,Bool.not_eq_true',← Bool.not_eq_true,h]
    omega
  ·cases hk:dv (s.getD i 0) with
   | false=>exact al rfl (ab (by simp only [lK,hk,Bool.false_and]; rfl))
   | true =>
    refine am (by simp) (ag (aF (by omega) (by omega)) ?_)
    have:=ih (i+1) (by omega)
    rw [Int.natCast_add,Int.natCast_one] at this
    simp only [lK,hk,Bool.true_and]
    exact this
theorem CP (s:Bytes)(hs:s.length≤1000000000):Ev2 (λ n _=>jr n s) (·=pr s):=by
 simp only [jr]
 have l:=CK s hs s.length 0 (by omega)
 rw [sB] at l
 have hc:=jw s
 have hb:byt s 0=((s.getD 0 0).toNat:Int):=dM s 0
 have h48:(s.getD 0 0).toNat=48↔s.getD 0 0=48:=kW (by decide)
 cases ha:s.all dv with
 | false =>
  rw [ha] at l hc
  refine fW false (aH l) (eqB ?_)
  rw [hc]; simp
 | true =>
  rw [ha] at l hc
  refine dF () (aH l) (dw (·=pr s) ?_ (λ x hx=>ab hx))
  refine ar (λ h=>ab (eqB ?_)) (λ h0=>ar (λ h=>ab (eqB ?_)) (λ h=>ag ?_ (ab (eqB ?_))))
  ·rw [hc,h]; simp
  ·rw [hc]; simp [h]
  ·have:=List.length_pos_iff.2 h; omega
  ·rw [hb,hc,Bool.not_eq_true',decide_eq_false_iff_not]
   constructor
   ·intro q; exact ⟨h,rfl,.inl λ z=>q (by have:=h48.2 z; omega)⟩
   ·rintro ⟨_,_,q | q⟩
    ·intro z; exact q (h48.1 (by omega))
    ·intro z
     obtain ⟨b,hb1⟩:=List.length_eq_one_iff.1 q
     have h3:=h48.1 (by omega)
     rw [hb1] at h3
     exact h0 (by rw [hb1]; exact congrArg (λ x=>[x]) h3)
def tZ (l:Bytes):Int×Int:=if pr l=true then (if l.length≤16∧fv 0 l≤9007199254740992 then ((fv 0 l:Int),0) else (0,5)) else (0,2)
theorem vo:∀ (l:Bytes) (a:Nat),l.all dv=true→fv a l < (a+1)*10 ^ l.length
 | [],a,_=>by simp [md]
 | b::r,a,h=>by
  have hb:=jO h (b:=b) List.mem_cons_self
  have hr:r.all dv=true:=by
   rw [List.all_eq_true] at h ⊢
   exact λ x hx=>h x (List.mem_cons_of_mem _ hx)
  have:=vo r (a*10+(b.toNat - 48)) hr
  rw [oo,List.length_cons,Nat.pow_succ]
  have h2:a*10+(b.toNat - 48)+1≤(a+1)*10:=by omega
  have h3:=Nat.mul_le_mul_right (10 ^ r.length) h2
  have h4:(a+1)*10*10 ^ r.length=(a+1)*(10 ^ r.length*10):=by rw [Nat.mul_assoc,Nat.mul_comm 10]
  omega
theorem Dh (s:Bytes)(hs:s.length≤16)(hd:s.all dv=true):∀ (k i:Nat),i+k=s.length→Ev2 (λ _ m=>eJ s m (fv 0 (s.take i):Int) (i:Int)) (·=(fv 0 s:Int)):=by
 intro k
 induction k with
 | zero =>
  intro i hi
  refine ap ?_
  simp only [eJ]
  refine am (by omega) (ab ?_)
  rw [List.take_of_length_le (by omega)]
 | succ k ih =>
  intro i hi
  refine ap ?_
  simp only [eJ]
  have hil:i < s.length:=by omega
  have hb:byt s i=((s.getD i 0).toNat:Int):=dM s i
  have hm:s.getD i 0∈s:=by
   rw [List.getD_eq_getElem?_getD,List.getElem?_eq_getElem hil,Option.getD_some]; exact List.getElem_mem hil
  have hdig:=jO hd hm
  have ht:s.take (i+1)=s.take i++[s.getD i 0]:=by
   rw [List.take_add_one,List.getElem?_eq_getElem hil,List.getD_eq_getElem?_getD,List.getElem?_eq_getElem hil]; rfl
  have hall:(s.take i).all dv=true:=by
   rw [List.all_eq_true] at hd ⊢
   exact λ x hx=>hd x (List.mem_of_mem_take hx)
  have hlt:=vo (s.take i) 0 hall
  rw [List.length_take] at hlt
  have hp:10 ^ min i s.length≤10 ^ 15:=Nat.pow_le_pow_right (by decide) (by omega)
  have hp15:(10:Nat) ^ 15=1000000000000000:=rfl
  have:=ih (i+1) (by omega)
  rw [ht,qL] at this
  rw [hb]
  generalize s.getD i 0=b at hdig this
  generalize fv 0 (s.take i)=v at hlt this
  have hw:IntKind.wrap .u8 ((b.toNat:Int) - 48)=((b.toNat - 48:Nat):Int):=by rw [qg]; omega
  rw [hw]
  refine al (by omega) (ag (aF (by omega) (by omega)) (ag (by omega) (ag (aF (by omega) (by omega)) (ag (aF (by omega) (by omega)) (ag (aF (by omega) (by omega)) ?_)))))
  rw [show ((v*10+(b.toNat - 48):Nat):Int)=10*(v:Int)+((b.toNat - 48:Nat):Int) by omega,show ((i+1:Nat):Int)=(i:Int)+1 by omega] at this
  exact this
theorem CS (s:Bytes)(hs:s.length≤1000000000)(hd:s.all dv=true):Ev2 (λ n _=>jV n s) (·=tZ s):=by
 simp only [jV]
 have hneg:¬ (0 < s.length∧byt s 0=45):=by
  rintro ⟨h1,h2⟩
  have hb:byt s 0=((s.getD 0 0).toNat:Int):=dM s 0
  have hm:s.getD 0 0∈s:=by
   rw [List.getD_eq_getElem?_getD,List.getElem?_eq_getElem h1,Option.getD_some]; exact List.getElem_mem h1
  have:=jO hd hm
  omega
 refine ai false ?_ ?_
 ·refine ar (λ h=>ag (by omega) (ab ?_)) (λ h=>ab rfl)
  rw [decide_eq_false_iff_not]; intro q; exact hneg ⟨by omega,q⟩
 refine ai s (am (by simp) (ab rfl)) ?_
 unfold tZ
 refine ai (!pr s) ?_ ?_
 ·refine ai _ (CP s hs) ?_
  cases pr s with
  | false=>exact al rfl (ab rfl)
  | true=>exact am (by simp) (am (by simp) (ab rfl))
 cases hc:pr s with
 | false=>exact al rfl (ab (by simp))
 | true =>
  refine am (by simp) ?_
  rw [if_pos rfl]
  refine ar (λ h=>ab (by rw [if_neg (by omega)])) (λ h=>?_)
  have l:=Dh s (by omega) hd s.length 0 (by omega)
  rw [List.take_zero,md] at l
  have hlt:=vo s 0 hd
  have hp:10 ^ s.length≤10 ^ 16:=Nat.pow_le_pow_right (by decide) (by omega)
  have hp16:(10:Nat) ^ 16=10000000000000000:=rfl
  refine ai _ (aH l) (ai _ (am (by simp) (ab rfl)) (ai (decide (fv 0 s≤9007199254740992)) ?_ ?_))
  ·simp only [lB]
   refine dw (·=decide (fv 0 s≤9007199254740992)) (al (by omega) (ab (eqB ?_))) (λ t ht=>ab ht)
   rw [decide_eq_true_eq,decide_eq_true_eq]; omega
  ·by_cases hv:fv 0 s≤9007199254740992
   ·exact am (by simp [hv]) (ab (by rw [if_pos ⟨by omega,hv⟩]))
   ·exact al (by simp [hv]) (ab (by rw [if_neg (λ q=>hv q.2)]))
theorem zB {v:Int}(h0:0≤v)(h1:v≤io):tZ (itoa v)=(v,0):=by
 have hl:=pY h0 h1
 obtain ⟨u,rfl⟩:∃ u:Nat,v=u:=⟨v.toNat,by omega⟩
 have e:itoa (u:Int)=decDigits u:=by unfold itoa; rw [if_neg (by omega)]; simp
 rw [e] at hl ⊢
 have hd:=u9 (u+1) u (by omega)
 unfold tZ
 rw [if_pos ((jw _).2 ⟨hd.2.2.1,hd.2.1,hd.2.2.2.1⟩),hd.1,if_pos ⟨hl,by unfold io at h1; omega⟩]
theorem z7 {l:Bytes}{v:Int}(h:tZ l=(v,0)):itoa v=l∧0≤v∧v≤io:=by
 unfold tZ at h
 split at h
 ·rename_i hc
  split at h
  ·rename_i hv
   cases h
   have hb:=(rm l.length l (Nat.le_refl _) hc).1
   refine ⟨?_,by omega,by unfold io; omega⟩
   have e:itoa ((fv 0 l:Nat):Int)=decDigits (fv 0 l):=by unfold itoa; rw [if_neg (by omega)]; simp
   rw [e,hb]
  ·cases h
 ·cases h
end Go.Ab.R06
end
section
set_option linter.unusedVariables false
set_option linter.unusedSimpArgs false
set_option linter.unnecessarySimpa false
namespace Go.Ab.R06
open Go.Ab Go.Ab.RB Go.Lib
theorem ss (k:bA)(hk:k.fStr.length≤1000000000):Ev2 (λ n _=>iT n k) (·=cw k):=by
 simp only [iT]
 unfold cw
 by_cases h1:k.fKind=1
 ·refine al h1 ?_
  rw [if_neg (show ¬ k.fKind=0 by omega),if_pos h1]
  refine dw (·=decide (0≤k.fNum∧k.fNum≤io∧k.fStr=[])) ?_ (λ t ht=>ab ht)
  refine ar (λ h2=>ar (λ h3=>ab ?_) (λ h3=>ab ?_)) (λ h2=>ab ?_)
  ·simp [h2,io,h3]
  ·symm; rw [decide_eq_false_iff_not]; intro q; exact h3 q.2.1
  ·symm; rw [decide_eq_false_iff_not]; intro q; exact h2 q.1
 ·refine am h1 ?_
  by_cases h2:k.fKind=2
  ·refine al h2 ?_
   rw [if_neg (show ¬ k.fKind=0 by omega),if_neg h1,if_pos h2]
   refine dw (·=(decide (k.fNum=0)&&(decide (k.fStr.length≤4096)&&validD k.fStr))) ?_ (λ t ht=>ab ht)
   refine ar (λ h3=>ai _ (zZ _ hk) (ab (by simp [h3]))) (λ h3=>ab (by simp [h3]))
  ·refine am h2 (ab ?_)
   by_cases h0:k.fKind=0
   ·rw [if_pos h0]; simp [h0]
   ·rw [if_neg h0,if_neg h1,if_neg h2]; simp [h0]
def vi:List Bytes:=[[109,111,100,117,108,101],[100,97,116,97],[118,97,114],[108,111,99,97,108],[111,117,116,112,117,116],[101,97,99,104],[99,111,117,110,116],[114,101,109,111,116,101],[112,97,116,104],[115,101,108,102],[99,104,97,110,103,101]]
theorem DY (s:Bytes):vi.contains s=eN s:=by
 unfold vi eN
 simp only [List.contains_cons,List.contains_nil,Bool.or_false]
 ac_rfl
theorem D7 (s:Bytes):∀ (k i:Nat),i+k=11→Ev2 (λ _ m=>cV s m (i:Int)) (·=if (vi.drop i).contains s=true then .inr true else .inl ()):=by
 intro k
 induction k with
 | zero =>
  intro i hi
  refine ap ?_
  simp only [cV]
  obtain rfl:i=11:=by omega
  exact am (by simp) (ab rfl)
 | succ k ih =>
  intro i hi
  refine ap ?_
  simp only [cV]
  have hlen:vi.length=11:=rfl
  have hil:i < vi.length:=by omega
  have:=ih (i+1) (by omega)
  rw [Int.natCast_add,Int.natCast_one] at this
  show Ev2 (λ _ m=>if (i:Int) < (vi.length:Int) then ck ((0:Int)≤i∧(i:Int) < (vi.length:Int)) <| if lat vi (i:Int)=s then some (Sum.inr true) else ck (inR ((i:Int)+1)) <| cV s m ((i:Int)+1) else some (Sum.inl ())) _
  refine al (by omega) (ag (by omega) ?_)
  rw [d7 _ _ hil,List.drop_eq_getElem_cons hil,List.contains_cons]
  refine ar (λ h=>ab ?_) (λ h=>ag (aF (by omega) (by omega)) ?_)
  ·rw [h]; simp
  ·have hb:(s == vi[i])=false:=by simp; exact λ q=>h q.symm
   rw [hb,Bool.false_or]; exact this
theorem Ap (s:Bytes):Ev2 (λ n _=>gg n s) (·=eN s):=by
 simp only [gg]
 have l:=D7 s 11 0 rfl
 rw [List.drop_zero,DY] at l
 cases h:eN s with
 | true=>rw [h] at l; exact fW true (aH l) rfl
 | false=>rw [h] at l; exact dF () (aH l) (ab rfl)
def Sk (a:ao):Prop:=a.fKey.fStr.length≤100000∧∀ x∈a.fModule,x.fKey.fStr.length≤100000
theorem zk (a:ao)(ha:Sm a)(hk:Sk a):∀ (k i:Nat),i+k=a.fModule.length→Ev2 (λ n m=>eA n a m (i:Int)) (·=if iK (a.fModule.drop i)=0 then .inl () else .inr (iK (a.fModule.drop i))):=by
 intro k
 induction k with
 | zero =>
  intro i hi
  refine ap ?_
  simp only [eA]
  refine am (by omega) (ab ?_)
  rw [List.drop_of_length_le (by omega)]; rfl
 | succ k ih =>
  intro i hi
  refine ap ?_
  simp only [eA]
  have hil:i < a.fModule.length:=by omega
  refine al (by omega) (ag (by omega) ?_)
  rw [d7 _ _ hil,List.drop_eq_getElem_cons hil]
  have hx:=ha.2.2.2 _ (List.getElem_mem hil)
  have hx2:=hk.2 _ (List.getElem_mem hil)
  have:=ih (i+1) (by omega)
  have hlen:=ha.1
  generalize a.fModule[i]=x at hx hx2 ⊢
  unfold iK
  refine ai _ (kz x.fName (by omega)) ?_
  cases h1:bR x.fName with
  | false=>exact al rfl (ab (by simp))
  | true =>
   refine am (by simp) (ag (by omega) (ai _ (ss _ (by omega)) ?_))
   cases h2:cw x.fKey with
   | false=>exact al rfl (ab (by simp))
   | true =>
    refine am (by simp) (ag (aF (by omega) (by omega)) ?_)
    rw [Int.natCast_add,Int.natCast_one] at this
    simpa using this
theorem yV (a:ao)(ha:Sm a)(hk:Sk a):Ev2 (λ n _=>kb n a) (·=nQ a):=by
 simp only [kb]
 unfold nQ
 refine ar (λ h=>ab (by rw [if_pos (by omega)])) (λ h=>?_)
 rw [if_neg (show ¬ 16 < a.fModule.length by omega)]
 have l:=zk a ha hk a.fModule.length 0 (by omega)
 rw [List.drop_zero] at l
 by_cases he:iK a.fModule=0
 ·rw [if_pos he] at l
  rw [if_neg (by simp [he])]
  refine dF () (aH l) ?_
  refine ai (decide (gN a.fType=false∨bR a.fName=false)) ?_ ?_
  ·refine ai _ (kz _ (by have:=ha.2.1; omega)) ?_
   unfold gN
   cases bR a.fType with
   | false=>exact al rfl (ab (by simp))
   | true =>
    refine am (by simp) (ai _ (Ap _) ?_)
    cases eN a.fType with
    | true=>exact al rfl (ab (by simp))
    | false =>
     refine am (by simp) (ai _ (kz _ (by have:=ha.2.2.1; omega)) (ab ?_))
     cases bR a.fName <;> simp
  ·refine ar (λ h=>ab (by rw [if_pos (of_decide_eq_true h)])) (λ h=>?_)
   rw [if_neg (λ q=>h (decide_eq_true q))]
   refine ai _ (ss _ (by have:=hk.1; omega)) ?_
   cases cw a.fKey with
   | false=>exact al rfl (ab (by simp))
   | true=>exact am (by simp) (ab (by simp))
 ·rw [if_neg he] at l
  rw [if_pos he]
  exact fW _ (aH l) rfl
theorem wn (k:bA)(hk:k.fStr.length≤1000000000):Ev2 (λ n _=>fC n k) (·=aL k):=by
 simp only [fC]
 unfold aL
 refine ai (decide (cw k=false∨k.fKind=0)) ?_ ?_
 ·refine ai _ (ss _ hk) ?_
  cases cw k with
  | false=>exact al rfl (ab (by simp))
  | true=>exact am (by simp) (ab (by simp))
 ·refine ar (λ h=>ab (by rw [if_pos (of_decide_eq_true h)])) (λ h=>?_)
  have h:=λ q=>h (decide_eq_true q)
  rw [if_neg h]
  have hko:cw k=true:=by
   cases hh:cw k with
   | true=>rfl
   | false=>exact absurd (.inl hh) h
  refine ar (λ h1=>?_) (λ h1=>?_)
  ·rw [if_pos h1]
   have hn:=mn hko h1
   have hl:=pY hn.1 hn.2.1
   refine ai _ (Cd hn.1 hn.2.1) (ag (by simp only [List.length_cons,List.length_nil]; omega) (ag (by simp only [List.length_append,List.length_cons,List.length_nil]; omega) (ab rfl)))
  ·rw [if_neg h1]
   have h2:k.fKind=2:=by
    rcases ka hko with q | q | q
    ·exact absurd (.inr q) h
    ·exact absurd q h1
    ·exact q
   have hs:=mg hko h2
   have hl:=qT k.fStr
   refine ai _ (uH _ (by omega)) (ag (by simp only [List.length_cons,List.length_nil]; omega) (ag (by simp only [List.length_append,List.length_cons,List.length_nil]; omega) (ab rfl)))
theorem y9 (l:List ae)(hm:l.length≤16)(ha:∀ x∈l,bR x.fName=true)(hk:∀ x∈l,x.fKey.fStr.length≤100000):∀ (k i:Nat) (f:Bytes),i+k=l.length→f.length≤25000*i→Ev2 (λ n m=>eM n l m f (i:Int)) (·=f++(l.drop i).flatMap bU):=by
 intro k
 induction k with
 | zero =>
  intro i f hi hf
  refine ap ?_
  simp only [eM]
  refine am (by omega) (ab ?_)
  rw [List.drop_of_length_le (by omega)]; simp
 | succ k ih =>
  intro i f hi hf
  refine ap ?_
  simp only [eM]
  have hil:i < l.length:=by omega
  refine al (by omega) (ag (by simp only [List.length_cons,List.length_nil]; omega) (ag (by omega) ?_))
  rw [d7 _ _ hil,List.drop_eq_getElem_cons hil]
  have hx:=ha _ (List.getElem_mem hil)
  have hx2:=hk _ (List.getElem_mem hil)
  generalize l[i]=x at hx hx2 ⊢
  have h1:=fT hx
  have h2:=j5 x.fKey
  have h3:=mF hx
  refine ag (by simp only [List.length_append,List.length_cons,List.length_nil]; omega) (ag (by omega) (ai _ (wn x.fKey (by omega)) ?_))
  refine ag (by simp only [List.length_append,List.length_cons,List.length_nil]; omega) (ag (by simp only [List.length_append,List.length_cons,List.length_nil]; omega) (ag (aF (by omega) (by omega)) ?_))
  have e:(((f++([109,111,100,117,108,101,46]:Bytes))++x.fName)++aL x.fKey)++([46]:Bytes)=f++bU x:=by simp [bU,iL]
  rw [e]
  have:=ih (i+1) (f++bU x) (by omega) (by rw [List.length_append]; omega)
  rw [Int.natCast_add,Int.natCast_one] at this
  simpa using this
theorem vU (a:ao)(ha:Sm a)(hk:Sk a):Ev2 (λ n _=>jp n a) (·=pK a):=by
 simp only [jp,lx]
 unfold pK
 refine ai _ (yV a ha hk) (ar (λ h=>?_) (λ h=>ab (by rw [if_neg h])))
 rw [if_pos h]
 obtain ⟨c1,c2,c3,c4,c5⟩:=(nM a).1 h
 have l:=y9 a.fModule c1 (λ x hx=>(c2 x hx).1) hk.2 a.fModule.length 0 [] (by omega) (by simp)
 have hl:=qX a.fModule (λ x hx=>(c2 x hx).1)
 rw [List.drop_zero,List.nil_append] at l
 refine ai _ (ai _ (aH l) (ab rfl)) ?_
 unfold gU
 generalize a.fModule.flatMap bU=st at hl ⊢
 have h1:=fT ((kH _).1 c3).2
 have h2:=fT c4
 have h3:=j5 a.fKey
 have hd:(if a.fData=true then bB else ([]:Bytes)).length≤5:=by split <;> simp [bB]
 refine ai (st++(if a.fData=true then bB else [])) ?_ ?_
 ·refine ar (λ h=>?_) (λ h=>ab (by rw [if_neg h]; simp))
  rw [if_pos h]
  exact ag (by simp only [List.length_cons,List.length_nil]; omega) (ab (by simp [bB]))
 ·refine ag (by simp only [List.length_append]; omega) (ag (by simp only [List.length_append,List.length_cons,List.length_nil]; omega) (ag (by simp only [List.length_append,List.length_cons,List.length_nil]; omega) (ai _ (wn a.fKey (by have:=hk.1; omega)) (ag (by simp only [List.length_append,List.length_cons,List.length_nil]; omega) (ab ?_)))))
  simp
end Go.Ab.R06
end
section
set_option linter.unusedVariables false
set_option linter.unusedSimpArgs false
set_option linter.unnecessarySimpa false
namespace Go.Ab.R06
open Go.Proofs Go.Ab Go.Ab.RB
attribute [local irreducible] awp gO aY aB cD AV.sub M dh
def g6 (s_0:Bytes)(p_1:Bytes):Option Bool :=
 (
   if (p_1.length:Int)≤(s_0.length:Int) then
    ck ((0:Int)≤0∧0≤(p_1.length:Int)∧(p_1.length:Int)≤(s_0.length:Int)) <|
    some (decide (sub s_0 0 (p_1.length:Int)=p_1))
   else
    some false
  : Option Bool).bind λ t3 =>
 some t3
set_option maxHeartbeats 4000000 in
theorem nc (s_0:Bytes)(p_1:Bytes)(r:Bool)(h0:g6 s_0 p_1=some r):aB Tryz.prog 73 [eS s_0,eS p_1] (·=.p (eB r)):=by
 unfold g6 at h0
 refine aU good Tryz.func73 rfl rfl rfl λ w0=>mP (λ v:Bool=>.p (eB v)) ?_
 refine nx 5 rfl (bd h0 λ o5 h1 h0=>?_)
 refine kN o5 (λ v6=>⟨[(4,.p (eB v6))],[]⟩) ?_ ?_
 ·exact nx 2 rfl (mQ (oi h0) rfl (sr))
 refine nx 2 rfl (oLs rfl ?_)
 refine nx 1 rfl (oLs rfl ?_)
 refine nx 2 rfl (fD [9,10] h1 rfl (λ c1 h1=>?_) λ c1 h1=>?_)
 ·refine nx 2 rfl (oLs rfl ?_)
  refine oP h1 rfl rfl rfl λ hk2 h1=>nx 1 rfl (oS rfl rfl ?_)
  exact nx 3 rfl (eX _ (oi h1).symm (gE rfl rfl))
 exact nx 9 rfl (eX _ (oi h1).symm (gE rfl rfl))
def eT (s_0:Bytes):Nat→Int→Option Int
 | 0,_=>none
 | m+1,n13 =>
 (
   if n13 < (s_0.length:Int) then
    ck ((0:Int)≤n13∧n13 < (s_0.length:Int)) <|
    (gq (byt s_0 n13)).bind λ r16 =>
    if r16=true then
     some true
    else
     ck ((0:Int)≤n13∧n13 < (s_0.length:Int)) <|
     if 48≤byt s_0 n13 then
      ck ((0:Int)≤n13∧n13 < (s_0.length:Int)) <|
      some (decide (byt s_0 n13≤57))
     else
      some false
   else
    some false
  : Option Bool).bind λ t22 =>
 if t22=true then
  ck (inR (n13+1)) <|
  eT s_0 m (n13+1)
 else
  some n13
def iM (n:Nat)(s_0:Bytes):Option (Bytes×Bytes) :=
 (eT s_0 n 0).bind λ n26 =>
 ck ((0:Int)≤0∧0≤n26∧n26≤(s_0.length:Int)) <|
 ck ((0:Int)≤n26∧n26≤(s_0.length:Int)∧(s_0.length:Int)≤(s_0.length:Int)) <|
 some (sub s_0 0 n26,sub s_0 n26 (s_0.length:Int))
set_option maxHeartbeats 4000000 in
theorem lN (n:Nat)(s_0:Bytes)(r:Bytes×Bytes)(h0:iM n s_0=some r):aB Tryz.prog 75 [eS s_0] (·=.tuple [.p (eS r.1),.p (eS r.2)]):=by
 unfold iM at h0
 refine aU good Tryz.func75 rfl rfl rfl λ w0=>mP (λ v:Bytes×Bytes=>.tuple [.p (eS v.1),.p (eS v.2)]) ?_
 refine nx 11 rfl (bd h0 λ o31 h1 h0=>?_)
 refine kE 0 o31 (λ v32=>⟨[(0,.p (eS s_0)),(4,.p (eI v32))],[]⟩) ?_ ?_
 ·refine nx 2 rfl (cc' h0 λ hk27 h0=>?_)
  refine cc' h0 λ hk28 h0=>mD [(0,.p (eS s_0)),(4,.p (eI o31))] rfl ⟨rfl,rfl,trivial⟩ rfl (dR 2 rfl ?_)
  refine dq (.p (eS (sub s_0 0 o31))) [29,30] rfl (λ _ e _ q=>af rfl (gH (a:=s_0) (l:=0) (h:=o31) rfl rfl rfl rfl rfl (e _ _ rfl) rfl (sj (e _ _ rfl)) hk27 q)) rfl (dR 2 rfl ?_)
  refine dq (.p (eS (sub s_0 o31 (s_0.length:Int)))) [32,33] rfl (λ _ e _ q=>af rfl (gH (a:=s_0) (l:=o31) (h:=(s_0.length:Int)) rfl rfl rfl rfl rfl (e _ _ rfl) (qt (e _ _ rfl)) rfl hk28 q)) rfl (dR 2 rfl ?_)
  refine dE rfl (nx 2 rfl ?_)
  exact mQ (oi h0) rfl (az ⟨sr,sr,trivial⟩)
 refine lG (λ (q33:Int)=>⟨[(0,.p (eS s_0)),(4,.p (eI q33))],[]⟩) (λ m (q33:Int)=>eT s_0 m q33) (λ _=>rfl) 0 h1 (gE rfl rfl) ?_
 rintro m n13 h1
 replace h1:eT s_0 (m+1) n13=some o31:=h1
 rw [eT] at h1
 refine nx 2 rfl (bd h1 λ o34 h2 h1=>?_)
 refine kN o34 (λ v35=>⟨[(0,.p (eS s_0)),(4,.p (eI n13)),(26,.p (eB v35))],[]⟩) ?_ ?_
 ·refine nx 1 rfl (fB [26] h1 rfl (λ c23 h1=>?_) λ c23 h1=>?_)
  ·refine nx 5 rfl (oA h1 rfl rfl λ hk24 h1=>?_)
   exact nx 2 rfl (eX (n13+1) h1 (gE rfl rfl))
  exact nx 2 rfl (eXi _ (oi h1).symm (gE rfl rfl))
 refine nx 3 rfl (oLs rfl ?_)
 refine nx 2 rfl (fD [8,9] h2 rfl (λ c14 h2=>?_) λ c14 h2=>?_)
 ·refine nx 2 rfl (oI h2 rfl λ hk15 h2=>?_)
  refine bd h2 λ r16 e17 h2=>oK (kd (byt s_0 n13) _ e17) rfl ⟨sr,trivial⟩ Tryz.call101 rfl (nx 1 rfl ?_)
  refine fB [13,14] h2 rfl (λ c18 h2=>?_) λ c18 h2=>?_
  ·exact nx 13 rfl (eX _ (oi h2).symm (gE rfl rfl))
  refine nx 2 rfl (oI h2 rfl λ hk19 h2=>?_)
  refine nx 2 rfl (fD [18,19] h2 rfl (λ c20 h2=>?_) λ c20 h2=>?_)
  ·refine nx 2 rfl (oI h2 rfl λ hk21 h2=>?_)
   exact nx 5 rfl (eX _ (oi h2).symm (gE rfl rfl))
  exact nx 8 rfl (eX _ (oi h2).symm (gE rfl rfl))
 exact nx 18 rfl (eX _ (oi h2).symm (gE rfl rfl))
def fP (s_0:Bytes):Nat→Int→Option Int
 | 0,_=>none
 | m+1,n37 =>
 (
   if n37 < (s_0.length:Int) then
    ck ((0:Int)≤n37∧n37 < (s_0.length:Int)) <|
    if 48≤byt s_0 n37 then
     ck ((0:Int)≤n37∧n37 < (s_0.length:Int)) <|
     some (decide (byt s_0 n37≤57))
    else
     some false
   else
    some false
  : Option Bool).bind λ t42 =>
 if t42=true then
  ck (inR (n37+1)) <|
  fP s_0 m (n37+1)
 else
  some n37
def kC (n:Nat)(s_0:Bytes):Option (bA×Bytes×Bool) :=
 (
   if s_0=([]:Bytes) then
    some true
   else
    ck ((0:Int)≤0∧0 < (s_0.length:Int)) <|
    some (!decide (byt s_0 0=91))
  : Option Bool).bind λ t3 =>
 if t3=true then
  some ((bA.mk 0 0 ([]:Bytes)),s_0,true)
 else
  (
    if 1 < (s_0.length:Int) then
     ck ((0:Int)≤1∧1 < (s_0.length:Int)) <|
     some (decide (byt s_0 1=34))
    else
     some false
   : Option Bool).bind λ t7 =>
  if t7=true then
   ck ((0:Int)≤1∧1≤(s_0.length:Int)∧(s_0.length:Int)≤(s_0.length:Int)) <|
   (iy n (sub s_0 1 (s_0.length:Int))).bind λ r10 =>
   (
     if r10.2.2=0 then
      ck (inR (r10.2.1+1)) <|
      if (s_0.length:Int)≤r10.2.1+1 then
       some true
      else
       ck (inR (r10.2.1+1)) <|
       ck ((0:Int)≤r10.2.1+1∧r10.2.1+1 < (s_0.length:Int)) <|
       if byt s_0 (r10.2.1+1)=93 then
        ck (inR (r10.2.1+1)) <|
        ck ((0:Int)≤1∧1≤r10.2.1+1∧r10.2.1+1≤(s_0.length:Int)) <|
        (iR n r10.1).bind λ r20 =>
        if sub s_0 1 (r10.2.1+1)=r20 then
         (iT n (bA.mk 2 0 r10.1)).bind λ r23 =>
         some (!r23)
        else
         some true
       else
        some true
     else
      some true
    : Option Bool).bind λ t25 =>
   if t25=true then
    some ((bA.mk 0 0 ([]:Bytes)),([]:Bytes),false)
   else
    ck (inR (r10.2.1+2)) <|
    ck ((0:Int)≤r10.2.1+2∧r10.2.1+2≤(s_0.length:Int)∧(s_0.length:Int)≤(s_0.length:Int)) <|
    some ((bA.mk 2 0 r10.1),sub s_0 (r10.2.1+2) (s_0.length:Int),true)
  else
   (fP s_0 n 1).bind λ n46 =>
   ck ((0:Int)≤1∧1≤n46∧n46≤(s_0.length:Int)) <|
   (jV n (sub s_0 1 n46)).bind λ r48 =>
   (
     if r48.2=0 then
      if (s_0.length:Int)≤n46 then
       some true
      else
       ck ((0:Int)≤n46∧n46 < (s_0.length:Int)) <|
       some (!decide (byt s_0 n46=93))
     else
      some true
    : Option Bool).bind λ t53 =>
   if t53=true then
    some ((bA.mk 0 0 ([]:Bytes)),([]:Bytes),false)
   else
    ck (inR (n46+1)) <|
    ck ((0:Int)≤n46+1∧n46+1≤(s_0.length:Int)∧(s_0.length:Int)≤(s_0.length:Int)) <|
    some ((bA.mk 1 r48.1 ([]:Bytes)),sub s_0 (n46+1) (s_0.length:Int),true)
set_option maxHeartbeats 4000000 in
theorem pU (n:Nat)(s_0:Bytes)(r:bA×Bytes×Bool)(h0:kC n s_0=some r):aB Tryz.prog 78 [eS s_0] (·=.tuple [.p (.agg (bA.cs r.1)),.p (eS r.2.1),.p (eB r.2.2)]):=by
 unfold kC at h0
 refine aU good Tryz.func78 rfl rfl rfl λ w0=>mP (λ v:bA×Bytes×Bool=>.tuple [.p (.agg (bA.cs v.1)),.p (eS v.2.1),.p (eB v.2.2)]) ?_
 refine nx 8 rfl (bd h0 λ o63 h1 h0=>?_)
 refine kN o63 (λ v64=>⟨[(0,.p (eS s_0)),(2,.ptr 2 0),(18,.p (eB v64))],[(2,[.p (eI 0),.p (eI 0),.p (eS ([]:Bytes))])]⟩) ?_ ?_
 ·refine nx 1 rfl (fB [18] h0 rfl (λ c4 h0=>?_) λ c4 h0=>?_)
  ·exact nx 10 rfl (mQ (oi h0) rfl (az ⟨sr,sr,sr,trivial⟩))
  refine nx 4 rfl (bd h0 λ o65 h1 h0=>?_)
  refine kN o65 (λ v66=>⟨[(0,.p (eS s_0)),(2,.ptr 2 0),(28,.p (eB v66))],[(2,[.p (eI 0),.p (eI 0),.p (eS ([]:Bytes))])]⟩) ?_ ?_
  ·refine nx 1 rfl (fB [28] h0 rfl (λ c8 h0=>?_) λ c8 h0=>?_)
   ·refine nx 4 rfl (oP h0 rfl rfl rfl λ hk9 h0=>?_)
    refine bd h0 λ r10 e11 h0=>oK (re _ (sub s_0 1 (s_0.length:Int)) _ e11) rfl ⟨sr,trivial⟩ Tryz.call102 rfl (nx 17 rfl ?_)
    refine bd h0 λ o67 h1 h0=>kN o67 (λ v68=>⟨[(0,.p (eS s_0)),(2,.ptr 2 0),(6,.p (eI r10.2.1)),(8,.ptr 8 0),(67,.p (eB v68))],[(2,[.p (eI 0),.p (eI 0),.p (eS ([]:Bytes))]),(8,[.p (eI 2),.p (eI 0),.p (eS r10.1)])]⟩) ?_ ?_
    ·refine nx 1 rfl (fB [67] h0 rfl (λ c26 h0=>?_) λ c26 h0=>?_)
     ·exact nx 9 rfl (mQ (oi h0) rfl (az ⟨sr,sr,sr,trivial⟩))
     refine nx 3 rfl (cc' h0 λ hk27 h0=>?_)
     refine cc' h0 λ hk28 h0=>mG (gE (t:=⟨[(0,.p (eS s_0)),(2,.ptr 2 0),(6,.p (eI r10.2.1)),(8,.ptr 8 0)],[(2,[.p (eI 0),.p (eI 0),.p (eS ([]:Bytes))]),(8,[.p (eI 2),.p (eI 0),.p (eS r10.1)])]⟩) rfl rfl) (mS ⟨1,[5],(λ _=>none),(λ _=>[(0,.p (eS s_0)),(2,.ptr 2 0),(6,.p (eI r10.2.1)),(8,.ptr 8 0)]),(by2 ([(2,[.p (eI 0),.p (eI 0),.p (eS ([]:Bytes))]),(8,[.p (eI 2),.p (eI 0),.p (eS r10.1)])]) ([(2,[.p (eI 2),.p (eI 0),.p (eS r10.1)]),(2,[.p (eI 0),.p (eI 0),.p (eS ([]:Bytes))]),(8,[.p (eI 2),.p (eI 0),.p (eS r10.1)])]))⟩ rfl rfl rfl ⟨rfl,rfl,rfl,rfl,trivial⟩ (lt1 ⟨rfl,rfl,rfl,rfl,trivial⟩) rfl rfl rfl rfl ?_)
     refine ay (λ _=>.p (.agg [eI 2,eI 0,eS r10.1])) rfl rfl rfl (cA rfl (λ _=>rfl)) (lt1 rfl) (aC rfl (ak [(8,_)] ⟨.inl rfl,trivial⟩ (λ sl hsl K hK=>af rfl (fA rfl rfl rfl rfl rfl (hsl _ _ rfl) rfl rfl rfl hK)) ax)) (ay (λ _=>.p (eS s_0)) rfl rfl rfl (cA rfl (λ _=>rfl)) (lt1 rfl) (ak [(0,_)] ⟨.inl rfl,trivial⟩ (λ sl hsl K hK=>af rfl (bs rfl rfl rfl (hsl _ _ rfl) hK)) (ak [(0,_)] ⟨.inl rfl,trivial⟩ (λ sl hsl K hK=>af rfl (bs rfl rfl rfl (hsl _ _ rfl) hK)) ax)) ?_)
     refine ay (λ _=>.p (eI r10.2.1)) rfl rfl rfl (cA rfl (λ _=>rfl)) (lt1 rfl) (ak [(6,_)] ⟨.inl rfl,trivial⟩ (λ sl hsl K hK=>af rfl (bs rfl rfl rfl (hsl _ _ rfl) hK)) (ak [(6,_)] ⟨.inl rfl,trivial⟩ (λ sl hsl K hK=>af rfl (bs rfl rfl rfl (hsl _ _ rfl) hK)) ax)) (ay (λ _=>.p (eI (r10.2.1+2))) rfl rfl rfl (cA rfl (λ _=>rfl)) (lt1 rfl) (ak [(71,_)] ⟨.inr ⟨2,_,rfl,rfl,rfl⟩,trivial⟩ (λ sl hsl K hK=>af rfl (iS rfl rfl rfl (hsl _ _ rfl) rfl rfl hk27 hK)) (ak [(71,_)] ⟨.inr ⟨2,_,rfl,rfl,rfl⟩,trivial⟩ (λ sl hsl K hK=>af rfl (iS rfl rfl rfl (hsl _ _ rfl) rfl rfl hk27 hK)) ax)) ?_)
     refine ay (λ _=>.p (eS (sub s_0 (r10.2.1+2) (s_0.length:Int)))) rfl rfl rfl (cA rfl (λ _=>rfl)) (lt1 rfl) (ak [(70,_),(72,_)] ⟨.inr ⟨1,_,rfl,rfl,rfl⟩,.inr ⟨3,_,rfl,rfl,rfl⟩,trivial⟩ (λ sl hsl K hK=>af rfl (gH (a:=s_0) (l:=r10.2.1+2) (h:=(s_0.length:Int)) rfl rfl rfl rfl rfl (hsl _ _ rfl) (qt (hsl _ _ rfl)) rfl hk28 hK)) (ak [(70,_),(72,_)] ⟨.inr ⟨1,_,rfl,rfl,rfl⟩,.inr ⟨3,_,rfl,rfl,rfl⟩,trivial⟩ (λ sl hsl K hK=>af rfl (gH (a:=s_0) (l:=r10.2.1+2) (h:=(s_0.length:Int)) rfl rfl rfl rfl rfl (hsl _ _ rfl) (qt (hsl _ _ rfl)) rfl hk28 hK)) ax)) (gv [(2,_),(69,_)] rfl ⟨.inl rfl,.inr ⟨0,_,rfl,rfl,rfl⟩,trivial⟩ rfl (λ sl hsl K hK=>af rfl (fg rfl rfl rfl (hsl _ _ rfl) (hsl _ _ rfl) rfl rfl rfl (Nat.le_of_ble_eq_true rfl) hK)) ?_)
     refine ay (λ _=>.p (eS (sub s_0 (r10.2.1+2) (s_0.length:Int)))) rfl rfl rfl (cA rfl (λ _=>rfl)) (lt1 rfl) (ak [(73,_)] ⟨.inr ⟨4,_,rfl,rfl,rfl⟩,trivial⟩ (λ sl hsl K hK=>af rfl (cv rfl rfl rfl (hsl _ _ rfl) hK)) (aC rfl ax)) (ay (λ _=>.p (eB true)) rfl rfl rfl (cA rfl (λ _=>rfl)) (lt1 rfl) (ak [] trivial (λ sl hsl K hK=>af rfl (cv rfl rfl rfl rfl hK)) (aC rfl ax)) ?_)
     refine kk (nx 2 rfl ?_)
     exact mQ (oi h0) rfl (az ⟨sr,sr,sr,trivial⟩)
    refine fN (p:=r10.2.2=0) [] h1 rfl (λ c12 h1=>?_) λ c12 h1=>?_
    ·refine cc' h1 λ hk13 h1=>fD (p:=(s_0.length:Int)≤r10.2.1+1) [] h1 rfl (λ c14 h1=>?_) λ c14 h1=>?_
     ·refine mD [(0,.p (eS s_0)),(2,.ptr 2 0),(5,.p (eS r10.1)),(6,.p (eI r10.2.1)),(7,.p (eI r10.2.2)),(8,.ptr 8 0)] rfl ⟨rfl,rfl,rfl,rfl,rfl,rfl,trivial⟩ rfl (dR 1 rfl ?_)
      refine dL (j7 c12) rfl (dR 2 rfl ?_)
      refine dq (.p (eI (r10.2.1+1))) [40,41] rfl (λ _ e _ q=>aA (iS rfl rfl rfl (e _ _ rfl) rfl rfl hk13 q) rfl rfl (e _ _ rfl) (rfl)) rfl (dR 1 rfl ?_)
      refine dq (.p (eI (s_0.length:Int))) [40,43] rfl (λ _ e _ q=>aA (qa rfl rfl rfl rfl rfl (e _ _ rfl) q) rfl rfl (e _ _ rfl) (rfl)) rfl (dL (dt c14) rfl ?_)
      refine dR 22 rfl (dE rfl ?_)
      exact nx 1 rfl (eX _ (oi h1).symm (gE rfl rfl))
     refine cc' h1 λ hk15 h1=>cc' h1 λ hk16 h1=>fN (p:=byt s_0 (r10.2.1+1)=93) [] h1 rfl (λ c17 h1=>?_) λ c17 h1=>?_
     ·refine cc' h1 λ hk18 h1=>cc' h1 λ hk19 h1=>bd h1 λ r20 e21 h1=>fN (p:=sub s_0 1 (r10.2.1+1)=r20) [] h1 rfl (λ c22 h1=>?_) λ c22 h1=>?_
      ·refine bd h1 λ r23 e24 h1=>mD [(0,.p (eS s_0)),(2,.ptr 2 0),(5,.p (eS r10.1)),(6,.p (eI r10.2.1)),(7,.p (eI r10.2.2)),(8,.ptr 8 0)] rfl ⟨rfl,rfl,rfl,rfl,rfl,rfl,trivial⟩ rfl (dR 1 rfl ?_)
       refine dL (j7 c12) rfl (dR 2 rfl ?_)
       refine dq (.p (eI (r10.2.1+1))) [40,41] rfl (λ _ e _ q=>aA (iS rfl rfl rfl (e _ _ rfl) rfl rfl hk13 q) rfl rfl (e _ _ rfl) (rfl)) rfl (dR 1 rfl ?_)
       refine dq (.p (eI (s_0.length:Int))) [40,43] rfl (λ _ e _ q=>aA (qa rfl rfl rfl rfl rfl (e _ _ rfl) q) rfl rfl (e _ _ rfl) (rfl)) rfl (dL (df c14) rfl ?_)
       refine dR 4 rfl (dq (.p (eI (r10.2.1+1))) [47,49] rfl (λ _ e _ q=>aA (iS rfl rfl rfl (e _ _ rfl) rfl rfl hk15 q) rfl rfl (e _ _ rfl) (rfl)) rfl ?_)
       refine dq (.p (eK .u8 (byt s_0 (r10.2.1+1)))) [47,48,50] rfl (λ _ e _ q=>aA (g8 rfl rfl rfl rfl rfl (e _ _ rfl) (e _ _ rfl) hk16 q) rfl rfl (e _ _ rfl) (rfl)) rfl (dL (j7 c17) rfl ?_)
       refine dR 4 rfl (dq (.p (eI (r10.2.1+1))) [54,56] rfl (λ _ e _ q=>aA (iS rfl rfl rfl (e _ _ rfl) rfl rfl hk18 q) rfl rfl (e _ _ rfl) (rfl)) rfl ?_)
       refine dq (.p (eS (sub s_0 1 (r10.2.1+1)))) [54,55,57] rfl (λ _ e _ q=>aA (gH (a:=s_0) (l:=1) (h:=r10.2.1+1) rfl rfl rfl rfl rfl (e _ _ rfl) rfl (sj (e _ _ rfl)) hk19 q) rfl rfl (e _ _ rfl) (rfl)) rfl (dR 1 rfl ?_)
       refine dq (.p (eS r20)) [54,59] rfl (λ _ e _ q=>aA (aJ (li _ r10.1 _ e21) rfl rfl rfl (au (e _ _ rfl) aK) ⟨sr,trivial⟩ Tryz.call81 rfl q) rfl rfl (e _ _ rfl) (rfl)) rfl (dq (.p (eB (!decide (sub s_0 1 (r10.2.1+1)=r20)))) [54,58,60] rfl (λ _ e _ q=>aA (ks rfl rfl rfl (e _ _ rfl) (e _ _ rfl) rfl q) rfl rfl (e _ _ rfl) (rfl)) rfl ?_)
       refine dL (j7 c22) rfl (dR 2 rfl ?_)
       refine dq (.p (eB r23)) [63,64] rfl (λ _ e _ q=>aA (aJ (kp _ (bA.mk 2 0 r10.1) _ e24) rfl rfl rfl (au (e _ _ rfl) aK) ⟨sr,trivial⟩ Tryz.call79 rfl q) rfl rfl (e _ _ rfl) (rfl)) rfl (dR 2 rfl ?_)
       refine dE rfl (nx 1 rfl ?_)
       exact eX _ (oi h1).symm (gE rfl rfl)
      refine mD [(0,.p (eS s_0)),(2,.ptr 2 0),(5,.p (eS r10.1)),(6,.p (eI r10.2.1)),(7,.p (eI r10.2.2)),(8,.ptr 8 0)] rfl ⟨rfl,rfl,rfl,rfl,rfl,rfl,trivial⟩ rfl (dR 1 rfl ?_)
      refine dL (j7 c12) rfl (dR 2 rfl ?_)
      refine dq (.p (eI (r10.2.1+1))) [40,41] rfl (λ _ e _ q=>aA (iS rfl rfl rfl (e _ _ rfl) rfl rfl hk13 q) rfl rfl (e _ _ rfl) (rfl)) rfl (dR 1 rfl ?_)
      refine dq (.p (eI (s_0.length:Int))) [40,43] rfl (λ _ e _ q=>aA (qa rfl rfl rfl rfl rfl (e _ _ rfl) q) rfl rfl (e _ _ rfl) (rfl)) rfl (dL (df c14) rfl ?_)
      refine dR 4 rfl (dq (.p (eI (r10.2.1+1))) [47,49] rfl (λ _ e _ q=>aA (iS rfl rfl rfl (e _ _ rfl) rfl rfl hk15 q) rfl rfl (e _ _ rfl) (rfl)) rfl ?_)
      refine dq (.p (eK .u8 (byt s_0 (r10.2.1+1)))) [47,48,50] rfl (λ _ e _ q=>aA (g8 rfl rfl rfl rfl rfl (e _ _ rfl) (e _ _ rfl) hk16 q) rfl rfl (e _ _ rfl) (rfl)) rfl (dL (j7 c17) rfl ?_)
      refine dR 4 rfl (dq (.p (eI (r10.2.1+1))) [54,56] rfl (λ _ e _ q=>aA (iS rfl rfl rfl (e _ _ rfl) rfl rfl hk18 q) rfl rfl (e _ _ rfl) (rfl)) rfl ?_)
      refine dq (.p (eS (sub s_0 1 (r10.2.1+1)))) [54,55,57] rfl (λ _ e _ q=>aA (gH (a:=s_0) (l:=1) (h:=r10.2.1+1) rfl rfl rfl rfl rfl (e _ _ rfl) rfl (sj (e _ _ rfl)) hk19 q) rfl rfl (e _ _ rfl) (rfl)) rfl (dR 1 rfl ?_)
      refine dq (.p (eS r20)) [54,59] rfl (λ _ e _ q=>aA (aJ (li _ r10.1 _ e21) rfl rfl rfl (au (e _ _ rfl) aK) ⟨sr,trivial⟩ Tryz.call81 rfl q) rfl rfl (e _ _ rfl) (rfl)) rfl (dq (.p (eB (!decide (sub s_0 1 (r10.2.1+1)=r20)))) [54,58,60] rfl (λ _ e _ q=>aA (ks rfl rfl rfl (e _ _ rfl) (e _ _ rfl) rfl q) rfl rfl (e _ _ rfl) (rfl)) rfl ?_)
      refine dL (se c22) rfl (dR 5 rfl ?_)
      refine dE rfl (nx 1 rfl ?_)
      exact eX _ (oi h1).symm (gE rfl rfl)
     refine mD [(0,.p (eS s_0)),(2,.ptr 2 0),(5,.p (eS r10.1)),(6,.p (eI r10.2.1)),(7,.p (eI r10.2.2)),(8,.ptr 8 0)] rfl ⟨rfl,rfl,rfl,rfl,rfl,rfl,trivial⟩ rfl (dR 1 rfl ?_)
     refine dL (j7 c12) rfl (dR 2 rfl ?_)
     refine dq (.p (eI (r10.2.1+1))) [40,41] rfl (λ _ e _ q=>aA (iS rfl rfl rfl (e _ _ rfl) rfl rfl hk13 q) rfl rfl (e _ _ rfl) (rfl)) rfl (dR 1 rfl ?_)
     refine dq (.p (eI (s_0.length:Int))) [40,43] rfl (λ _ e _ q=>aA (qa rfl rfl rfl rfl rfl (e _ _ rfl) q) rfl rfl (e _ _ rfl) (rfl)) rfl (dL (df c14) rfl ?_)
     refine dR 4 rfl (dq (.p (eI (r10.2.1+1))) [47,49] rfl (λ _ e _ q=>aA (iS rfl rfl rfl (e _ _ rfl) rfl rfl hk15 q) rfl rfl (e _ _ rfl) (rfl)) rfl ?_)
     refine dq (.p (eK .u8 (byt s_0 (r10.2.1+1)))) [47,48,50] rfl (λ _ e _ q=>aA (g8 rfl rfl rfl rfl rfl (e _ _ rfl) (e _ _ rfl) hk16 q) rfl rfl (e _ _ rfl) (rfl)) rfl (dL (se c17) rfl ?_)
     refine dR 15 rfl (dE rfl ?_)
     exact nx 1 rfl (eX _ (oi h1).symm (gE rfl rfl))
    refine mD [(0,.p (eS s_0)),(2,.ptr 2 0),(5,.p (eS r10.1)),(6,.p (eI r10.2.1)),(7,.p (eI r10.2.2)),(8,.ptr 8 0)] rfl ⟨rfl,rfl,rfl,rfl,rfl,rfl,trivial⟩ rfl (dR 1 rfl ?_)
    refine dL (se c12) rfl (dR 28 rfl ?_)
    refine dE rfl (nx 1 rfl ?_)
    exact eX _ (oi h1).symm (gE rfl rfl)
   refine nx 8 rfl (bd h0 λ o69 h1 h0=>?_)
   refine kE 0 o69 (λ v70=>⟨[(0,.p (eS s_0)),(2,.ptr 2 0),(9,.p (eI v70))],[(2,[.p (eI 0),.p (eI 0),.p (eS ([]:Bytes))])]⟩) ?_ ?_
   ·refine nx 5 rfl (oP h0 rfl rfl rfl λ hk47 h0=>?_)
    refine bd h0 λ r48 e49 h0=>oK (tg _ (sub s_0 1 o69) _ e49) rfl ⟨sr,trivial⟩ Tryz.call103 rfl (nx 8 rfl ?_)
    refine bd h0 λ o71 h1 h0=>kN o71 (λ v72=>⟨[(0,.p (eS s_0)),(2,.ptr 2 0),(9,.p (eI o69)),(10,.p (eI r48.1)),(112,.p (eB v72))],[(2,[.p (eI 0),.p (eI 0),.p (eS ([]:Bytes))])]⟩) ?_ ?_
    ·refine nx 1 rfl (fB [112] h0 rfl (λ c54 h0=>?_) λ c54 h0=>?_)
     ·exact nx 9 rfl (mQ (oi h0) rfl (az ⟨sr,sr,sr,trivial⟩))
     refine nx 3 rfl (cc' h0 λ hk55 h0=>?_)
     refine cc' h0 λ hk56 h0=>mG (gE (t:=⟨[(0,.p (eS s_0)),(2,.ptr 2 0),(9,.p (eI o69)),(10,.p (eI r48.1))],[(2,[.p (eI 0),.p (eI 0),.p (eS ([]:Bytes))])]⟩) rfl rfl) (mS ⟨1,[6],(λ _=>none),(λ _=>[(0,.p (eS s_0)),(2,.ptr 2 0),(9,.p (eI o69)),(10,.p (eI r48.1))]),(by2 ([(2,[.p (eI 0),.p (eI 0),.p (eS ([]:Bytes))])]) ([(2,[.p (eI 1),.p (eI r48.1),.p (eS ([]:Bytes))]),(2,[.p (eI 0),.p (eI 0),.p (eS ([]:Bytes))])]))⟩ rfl rfl rfl ⟨rfl,rfl,rfl,rfl,trivial⟩ (lt1 ⟨rfl,rfl,rfl,rfl,trivial⟩) rfl rfl rfl rfl ?_)
     refine ay (λ _=>.p (eI r48.1)) rfl rfl rfl (cA rfl (λ _=>rfl)) (lt1 rfl) (aC rfl (ak [(10,_)] ⟨.inl rfl,trivial⟩ (λ sl hsl K hK=>af rfl (bs rfl rfl rfl (hsl _ _ rfl) hK)) ax)) (ay (λ _=>.p (.agg [eI 1,eI r48.1,eS ([]:Bytes)])) rfl rfl rfl (cA rfl (λ _=>rfl)) (lt1 rfl) (aC rfl (ak [(114,_)] ⟨.inr ⟨0,_,rfl,rfl,rfl⟩,trivial⟩ (λ sl hsl K hK=>af rfl (mc rfl rfl rfl rfl rfl rfl (gW rfl (gW (hsl _ _ rfl) mb)) rfl rfl hK)) ax)) ?_)
     refine ay (λ _=>.p (eS s_0)) rfl rfl rfl (cA rfl (λ _=>rfl)) (lt1 rfl) (ak [(0,_)] ⟨.inl rfl,trivial⟩ (λ sl hsl K hK=>af rfl (bs rfl rfl rfl (hsl _ _ rfl) hK)) (ak [(0,_)] ⟨.inl rfl,trivial⟩ (λ sl hsl K hK=>af rfl (bs rfl rfl rfl (hsl _ _ rfl) hK)) ax)) (ay (λ _=>.p (eI o69)) rfl rfl rfl (cA rfl (λ _=>rfl)) (lt1 rfl) (ak [(9,_)] ⟨.inl rfl,trivial⟩ (λ sl hsl K hK=>af rfl (bs rfl rfl rfl (hsl _ _ rfl) hK)) (ak [(9,_)] ⟨.inl rfl,trivial⟩ (λ sl hsl K hK=>af rfl (bs rfl rfl rfl (hsl _ _ rfl) hK)) ax)) ?_)
     refine ay (λ _=>.p (eI (o69+1))) rfl rfl rfl (cA rfl (λ _=>rfl)) (lt1 rfl) (ak [(117,_)] ⟨.inr ⟨3,_,rfl,rfl,rfl⟩,trivial⟩ (λ sl hsl K hK=>af rfl (iS rfl rfl rfl (hsl _ _ rfl) rfl rfl hk55 hK)) (ak [(117,_)] ⟨.inr ⟨3,_,rfl,rfl,rfl⟩,trivial⟩ (λ sl hsl K hK=>af rfl (iS rfl rfl rfl (hsl _ _ rfl) rfl rfl hk55 hK)) ax)) (ay (λ _=>.p (eS (sub s_0 (o69+1) (s_0.length:Int)))) rfl rfl rfl (cA rfl (λ _=>rfl)) (lt1 rfl) (ak [(116,_),(118,_)] ⟨.inr ⟨2,_,rfl,rfl,rfl⟩,.inr ⟨4,_,rfl,rfl,rfl⟩,trivial⟩ (λ sl hsl K hK=>af rfl (gH (a:=s_0) (l:=o69+1) (h:=(s_0.length:Int)) rfl rfl rfl rfl rfl (hsl _ _ rfl) (qt (hsl _ _ rfl)) rfl hk56 hK)) (ak [(116,_),(118,_)] ⟨.inr ⟨2,_,rfl,rfl,rfl⟩,.inr ⟨4,_,rfl,rfl,rfl⟩,trivial⟩ (λ sl hsl K hK=>af rfl (gH (a:=s_0) (l:=o69+1) (h:=(s_0.length:Int)) rfl rfl rfl rfl rfl (hsl _ _ rfl) (qt (hsl _ _ rfl)) rfl hk56 hK)) ax)) ?_)
     refine gv [(2,_),(115,_)] rfl ⟨.inl rfl,.inr ⟨1,_,rfl,rfl,rfl⟩,trivial⟩ rfl (λ sl hsl K hK=>af rfl (fg rfl rfl rfl (hsl _ _ rfl) (hsl _ _ rfl) rfl rfl rfl (Nat.le_of_ble_eq_true rfl) hK)) (ay (λ _=>.p (eS (sub s_0 (o69+1) (s_0.length:Int)))) rfl rfl rfl (cA rfl (λ _=>rfl)) (lt1 rfl) (ak [(119,_)] ⟨.inr ⟨5,_,rfl,rfl,rfl⟩,trivial⟩ (λ sl hsl K hK=>af rfl (cv rfl rfl rfl (hsl _ _ rfl) hK)) (aC rfl ax)) ?_)
     refine ay (λ _=>.p (eB true)) rfl rfl rfl (cA rfl (λ _=>rfl)) (lt1 rfl) (ak [] trivial (λ sl hsl K hK=>af rfl (cv rfl rfl rfl rfl hK)) (aC rfl ax)) (kk ?_)
     exact nx 2 rfl (mQ (oi h0) rfl (az ⟨sr,sr,sr,trivial⟩))
    refine nx 4 rfl (fN [100,101] h1 rfl (λ c50 h1=>?_) λ c50 h1=>?_)
    ·refine nx 2 rfl (oLs rfl ?_)
     refine nx 3 rfl (fD [105,106,107] h1 rfl (λ c51 h1=>?_) λ c51 h1=>?_)
     ·exact nx 6 rfl (eX _ (oi h1).symm (gE rfl rfl))
     refine nx 2 rfl (oI h1 rfl λ hk52 h1=>?_)
     exact nx 3 rfl (eX _ (oi h1).symm (gE rfl rfl))
    exact nx 12 rfl (eX _ (oi h1).symm (gE rfl rfl))
   refine lG (λ (q73:Int)=>⟨[(0,.p (eS s_0)),(2,.ptr 2 0),(9,.p (eI q73))],[(2,[.p (eI 0),.p (eI 0),.p (eS ([]:Bytes))])]⟩) (λ m (q73:Int)=>fP s_0 m q73) (λ _=>rfl) 1 h1 (gE rfl rfl) ?_
   rintro m n37 h1
   replace h1:fP s_0 (m+1) n37=some o69:=h1
   rw [fP] at h1
   refine nx 2 rfl (bd h1 λ o74 h2 h1=>?_)
   refine kN o74 (λ v75=>⟨[(0,.p (eS s_0)),(2,.ptr 2 0),(9,.p (eI n37)),(89,.p (eB v75))],[(2,[.p (eI 0),.p (eI 0),.p (eS ([]:Bytes))])]⟩) ?_ ?_
   ·refine nx 1 rfl (fB [89] h1 rfl (λ c43 h1=>?_) λ c43 h1=>?_)
    ·refine nx 5 rfl (oA h1 rfl rfl λ hk44 h1=>?_)
     exact nx 2 rfl (eX (n37+1) h1 (gE rfl rfl))
    exact nx 2 rfl (eXi _ (oi h1).symm (gE rfl rfl))
   refine nx 3 rfl (oLs rfl ?_)
   refine nx 2 rfl (fD [77,78] h2 rfl (λ c38 h2=>?_) λ c38 h2=>?_)
   ·refine nx 2 rfl (oI h2 rfl λ hk39 h2=>?_)
    refine nx 3 rfl (fD [82,83,84] h2 rfl (λ c40 h2=>?_) λ c40 h2=>?_)
    ·refine nx 2 rfl (oI h2 rfl λ hk41 h2=>?_)
     exact nx 3 rfl (eX _ (oi h2).symm (gE rfl rfl))
    exact nx 6 rfl (eX _ (oi h2).symm (gE rfl rfl))
   exact nx 12 rfl (eX _ (oi h2).symm (gE rfl rfl))
  refine nx 2 rfl (oLs rfl ?_)
  refine nx 2 rfl (fD [23,24] h1 rfl (λ c5 h1=>?_) λ c5 h1=>?_)
  ·refine nx 1 rfl (oI h1 rfl λ hk6 h1=>?_)
   exact nx 3 rfl (eX _ (oi h1).symm (gE rfl rfl))
  exact nx 5 rfl (eX _ (oi h1).symm (gE rfl rfl))
 refine nx 2 rfl (oS rfl rfl ?_)
 refine nx 1 rfl (fD [13,14] h1 rfl (λ c1 h1=>?_) λ c1 h1=>?_)
 ·exact nx 5 rfl (eX _ (oi h1).symm (gE rfl rfl))
 refine nx 1 rfl (oI h1 rfl λ hk2 h1=>?_)
 exact nx 3 rfl (eX _ (oi h1).symm (gE rfl rfl))
def kO (n:Nat)(s_0:Bytes):Option (ae×Bytes×Bool) :=
 ck ((0:Int)≤7∧7≤(s_0.length:Int)∧(s_0.length:Int)≤(s_0.length:Int)) <|
 (iM n (sub s_0 7 (s_0.length:Int))).bind λ r2 =>
 (kC n r2.2).bind λ r4 =>
 (
   if r4.2.2=true then
    (cQ n r2.1).bind λ r7 =>
    some r7
   else
    some false
  : Option Bool).bind λ t9 =>
 some ((ae.mk r2.1 r4.1),r4.2.1,t9)
set_option maxHeartbeats 4000000 in
theorem uf (n:Nat)(s_0:Bytes)(r:ae×Bytes×Bool)(h0:kO n s_0=some r):aB Tryz.prog 74 [eS s_0] (·=.tuple [.p (.agg (ae.cs r.1)),.p (eS r.2.1),.p (eB r.2.2)]):=by
 unfold kO at h0
 refine aU good Tryz.func74 rfl rfl rfl λ w0=>mP (λ v:ae×Bytes×Bool=>.tuple [.p (.agg (ae.cs v.1)),.p (eS v.2.1),.p (eB v.2.2)]) ?_
 refine nx 9 rfl (oP h0 rfl rfl rfl λ hk1 h0=>?_)
 refine bd h0 λ r2 e3 h0=>oK (lN _ (sub s_0 7 (s_0.length:Int)) _ e3) rfl ⟨sr,trivial⟩ Tryz.call75 rfl (nx 9 rfl ?_)
 refine bd h0 λ r4 e5 h0=>oK (pU _ r2.2 _ e5) rfl ⟨sr,trivial⟩ Tryz.call78 rfl (nx 10 rfl ?_)
 refine bd h0 λ o11 h1 h0=>kN o11 (λ v12=>⟨[(2,.ptr 2 0),(3,.p (eS r4.2.1)),(4,.p (eB v12))],[(2,[.p (eS r2.1),.p (eI r4.1.fKind),.p (eI r4.1.fNum),.p (eS r4.1.fStr)])]⟩) ?_ ?_
 ·exact nx 2 rfl (mQ (oi h0) rfl (az ⟨sr,sr,sr,trivial⟩))
 refine fB [8,20] h1 rfl (λ c6 h1=>?_) λ c6 h1=>?_
 ·refine bd h1 λ r7 e8 h1=>mG (gE (t:=⟨[(2,.ptr 2 0),(5,.p (eS r2.1)),(6,.p (eS r4.2.1)),(7,.ptr 7 0),(8,.p (eB true))],[(2,[.p (eS ([]:Bytes)),.p (eI 0),.p (eI 0),.p (eS ([]:Bytes))]),(7,(bA.cs r4.1).map .p)]⟩) rfl rfl) (mS ⟨1,[9],(λ _=>none),(λ _=>[(2,.ptr 2 0),(5,.p (eS r2.1)),(6,.p (eS r4.2.1)),(7,.ptr 7 0),(8,.p (eB true))]),(by2 ([(2,[.p (eS ([]:Bytes)),.p (eI 0),.p (eI 0),.p (eS ([]:Bytes))]),(7,[.p (eI r4.1.fKind),.p (eI r4.1.fNum),.p (eS r4.1.fStr)])]) ([(2,[.p (eS r2.1),.p (eI r4.1.fKind),.p (eI r4.1.fNum),.p (eS r4.1.fStr)]),(2,[.p (eS ([]:Bytes)),.p (eI 0),.p (eI 0),.p (eS ([]:Bytes))]),(7,[.p (eI r4.1.fKind),.p (eI r4.1.fNum),.p (eS r4.1.fStr)])]))⟩ rfl rfl rfl ⟨rfl,rfl,rfl,rfl,rfl,trivial⟩ (lt1 ⟨rfl,rfl,rfl,rfl,rfl,trivial⟩) rfl rfl rfl rfl ?_)
  refine ay (λ _=>.p (eS r2.1)) rfl rfl rfl (cA rfl (λ _=>rfl)) (lt1 rfl) (aC rfl (ak [(5,_)] ⟨.inl rfl,trivial⟩ (λ sl hsl K hK=>af rfl (bs rfl rfl rfl (hsl _ _ rfl) hK)) ax)) (ay (λ _=>.p (.agg (bA.cs r4.1))) rfl rfl rfl (cA rfl (λ _=>rfl)) (lt1 rfl) (aC rfl (ak [(7,_)] ⟨.inl rfl,trivial⟩ (λ sl hsl K hK=>af rfl (fA rfl rfl rfl rfl rfl (hsl _ _ rfl) rfl rfl rfl hK)) ax)) ?_)
  refine ay (λ _=>.p (.agg [eS r2.1,eI r4.1.fKind,eI r4.1.fNum,eS r4.1.fStr])) rfl rfl rfl (cA rfl (λ _=>rfl)) (lt1 rfl) (aC rfl (ak [(21,_),(22,_)] ⟨.inr ⟨0,_,rfl,rfl,rfl⟩,.inr ⟨1,_,rfl,rfl,rfl⟩,trivial⟩ (λ sl hsl K hK=>af rfl (mc rfl rfl rfl rfl rfl rfl (gW (hsl _ _ rfl) (gW (hsl _ _ rfl) mb)) rfl rfl hK)) ax)) (ay (λ _=>.p (eS r4.2.1)) rfl rfl rfl (cA rfl (λ _=>rfl)) (lt1 rfl) (ak [(6,_)] ⟨.inl rfl,trivial⟩ (λ sl hsl K hK=>af rfl (bs rfl rfl rfl (hsl _ _ rfl) hK)) (ak [(6,_)] ⟨.inl rfl,trivial⟩ (λ sl hsl K hK=>af rfl (bs rfl rfl rfl (hsl _ _ rfl) hK)) ax)) ?_)
  refine ay (λ _=>.p (eB true)) rfl rfl rfl (cA rfl (λ _=>rfl)) (lt1 rfl) (ak [(8,_)] ⟨.inl rfl,trivial⟩ (λ sl hsl K hK=>af rfl (bs rfl rfl rfl (hsl _ _ rfl) hK)) (ak [(8,_)] ⟨.inl rfl,trivial⟩ (λ sl hsl K hK=>af rfl (bs rfl rfl rfl (hsl _ _ rfl) hK)) ax)) (ay (λ _=>.p (eB true)) rfl rfl rfl (cA rfl (λ _=>rfl)) (lt1 rfl) (ak [(25,_)] ⟨.inr ⟨4,_,rfl,rfl,rfl⟩,trivial⟩ (λ sl hsl K hK=>af rfl (bs rfl rfl rfl (hsl _ _ rfl) hK)) (ak [(25,_)] ⟨.inr ⟨4,_,rfl,rfl,rfl⟩,trivial⟩ (λ sl hsl K hK=>af rfl (bs rfl rfl rfl (hsl _ _ rfl) hK)) ax)) ?_)
  refine ay (λ _=>.p (eS r2.1)) rfl rfl rfl (cA rfl (λ _=>rfl)) (lt1 rfl) (ak [(5,_),(26,_)] ⟨.inl rfl,.inr ⟨5,_,rfl,rfl,rfl⟩,trivial⟩ (λ sl hsl K hK=>aA (bs rfl rfl rfl (hsl _ _ rfl) hK) rfl rfl (hsl _ _ rfl) (rfl)) (ak [(5,_),(26,_)] ⟨.inl rfl,.inr ⟨5,_,rfl,rfl,rfl⟩,trivial⟩ (λ sl hsl K hK=>aA (bs rfl rfl rfl (hsl _ _ rfl) hK) rfl rfl (hsl _ _ rfl) (rfl)) ax)) (ay (λ _=>.p (eB r7)) rfl rfl rfl (cA rfl (λ _=>rfl)) (lt1 rfl) (aC rfl (ak [(26,_),(27,_)] ⟨.inr ⟨5,_,rfl,rfl,rfl⟩,.inr ⟨6,_,rfl,rfl,rfl⟩,trivial⟩ (λ sl hsl K hK=>aA (aJ (ee _ r2.1 _ e8) rfl rfl rfl (au (hsl _ _ rfl) aK) ⟨sr,trivial⟩ Tryz.call76 rfl hK) rfl rfl (hsl _ _ rfl) (rfl)) ax)) ?_)
  refine ay (λ _=>.p (eB r7)) rfl rfl rfl (cA rfl (λ _=>rfl)) (lt1 rfl) (ak [(26,_),(28,_)] ⟨.inr ⟨5,_,rfl,rfl,rfl⟩,.inr ⟨7,_,rfl,rfl,rfl⟩,trivial⟩ (λ sl hsl K hK=>af rfl (mw rfl rfl rfl (hsl _ _ rfl) (rfl) (hsl _ _ rfl) hK)) (ak [(26,_),(28,_)] ⟨.inr ⟨5,_,rfl,rfl,rfl⟩,.inr ⟨7,_,rfl,rfl,rfl⟩,trivial⟩ (λ sl hsl K hK=>af rfl (mw rfl rfl rfl (hsl _ _ rfl) (rfl) (hsl _ _ rfl) hK)) ax)) (gv [(2,_),(23,_)] rfl ⟨.inl rfl,.inr ⟨2,_,rfl,rfl,rfl⟩,trivial⟩ rfl (λ sl hsl K hK=>af rfl (fg rfl rfl rfl (hsl _ _ rfl) (hsl _ _ rfl) rfl rfl rfl (Nat.le_of_ble_eq_true rfl) hK)) ?_)
  refine ay (λ _=>.p (eS r4.2.1)) rfl rfl rfl (cA rfl (λ _=>rfl)) (lt1 rfl) (ak [(24,_)] ⟨.inr ⟨3,_,rfl,rfl,rfl⟩,trivial⟩ (λ sl hsl K hK=>af rfl (cv rfl rfl rfl (hsl _ _ rfl) hK)) (aC rfl ax)) (ay (λ _=>.p (eB r7)) rfl rfl rfl (cA rfl (λ _=>rfl)) (lt1 rfl) (ak [(29,_)] ⟨.inr ⟨8,_,rfl,rfl,rfl⟩,trivial⟩ (λ sl hsl K hK=>af rfl (cv rfl rfl rfl (hsl _ _ rfl) hK)) (aC rfl ax)) ?_)
  refine kk (nx 1 rfl ?_)
  exact eX _ (oi h1).symm (gE rfl rfl)
 refine mG (gE (t:=⟨[(2,.ptr 2 0),(5,.p (eS r2.1)),(6,.p (eS r4.2.1)),(7,.ptr 7 0),(8,.p (eB false))],[(2,[.p (eS ([]:Bytes)),.p (eI 0),.p (eI 0),.p (eS ([]:Bytes))]),(7,(bA.cs r4.1).map .p)]⟩) rfl rfl) (mS ⟨1,[9],(λ _=>none),(λ _=>[(2,.ptr 2 0),(5,.p (eS r2.1)),(6,.p (eS r4.2.1)),(7,.ptr 7 0),(8,.p (eB false))]),(by2 ([(2,[.p (eS ([]:Bytes)),.p (eI 0),.p (eI 0),.p (eS ([]:Bytes))]),(7,[.p (eI r4.1.fKind),.p (eI r4.1.fNum),.p (eS r4.1.fStr)])]) ([(2,[.p (eS r2.1),.p (eI r4.1.fKind),.p (eI r4.1.fNum),.p (eS r4.1.fStr)]),(2,[.p (eS ([]:Bytes)),.p (eI 0),.p (eI 0),.p (eS ([]:Bytes))]),(7,[.p (eI r4.1.fKind),.p (eI r4.1.fNum),.p (eS r4.1.fStr)])]))⟩ rfl rfl rfl ⟨rfl,rfl,rfl,rfl,rfl,trivial⟩ (lt1 ⟨rfl,rfl,rfl,rfl,rfl,trivial⟩) rfl rfl rfl rfl ?_)
 refine ay (λ _=>.p (eS r2.1)) rfl rfl rfl (cA rfl (λ _=>rfl)) (lt1 rfl) (aC rfl (ak [(5,_)] ⟨.inl rfl,trivial⟩ (λ sl hsl K hK=>af rfl (bs rfl rfl rfl (hsl _ _ rfl) hK)) ax)) (ay (λ _=>.p (.agg (bA.cs r4.1))) rfl rfl rfl (cA rfl (λ _=>rfl)) (lt1 rfl) (aC rfl (ak [(7,_)] ⟨.inl rfl,trivial⟩ (λ sl hsl K hK=>af rfl (fA rfl rfl rfl rfl rfl (hsl _ _ rfl) rfl rfl rfl hK)) ax)) ?_)
 refine ay (λ _=>.p (.agg [eS r2.1,eI r4.1.fKind,eI r4.1.fNum,eS r4.1.fStr])) rfl rfl rfl (cA rfl (λ _=>rfl)) (lt1 rfl) (aC rfl (ak [(21,_),(22,_)] ⟨.inr ⟨0,_,rfl,rfl,rfl⟩,.inr ⟨1,_,rfl,rfl,rfl⟩,trivial⟩ (λ sl hsl K hK=>af rfl (mc rfl rfl rfl rfl rfl rfl (gW (hsl _ _ rfl) (gW (hsl _ _ rfl) mb)) rfl rfl hK)) ax)) (ay (λ _=>.p (eS r4.2.1)) rfl rfl rfl (cA rfl (λ _=>rfl)) (lt1 rfl) (ak [(6,_)] ⟨.inl rfl,trivial⟩ (λ sl hsl K hK=>af rfl (bs rfl rfl rfl (hsl _ _ rfl) hK)) (ak [(6,_)] ⟨.inl rfl,trivial⟩ (λ sl hsl K hK=>af rfl (bs rfl rfl rfl (hsl _ _ rfl) hK)) ax)) ?_)
 refine ay (λ _=>.p (eB false)) rfl rfl rfl (cA rfl (λ _=>rfl)) (lt1 rfl) (ak [(8,_)] ⟨.inl rfl,trivial⟩ (λ sl hsl K hK=>af rfl (bs rfl rfl rfl (hsl _ _ rfl) hK)) (ak [(8,_)] ⟨.inl rfl,trivial⟩ (λ sl hsl K hK=>af rfl (bs rfl rfl rfl (hsl _ _ rfl) hK)) ax)) (ay (λ _=>.p (eB false)) rfl rfl rfl (cA rfl (λ _=>rfl)) (lt1 rfl) (ak [(25,_)] ⟨.inr ⟨4,_,rfl,rfl,rfl⟩,trivial⟩ (λ sl hsl K hK=>af rfl (bs rfl rfl rfl (hsl _ _ rfl) hK)) (ak [(25,_)] ⟨.inr ⟨4,_,rfl,rfl,rfl⟩,trivial⟩ (λ sl hsl K hK=>af rfl (bs rfl rfl rfl (hsl _ _ rfl) hK)) ax)) ?_)
 refine ay (λ _=>.p (.val (.tuple #[]))) rfl rfl rfl (cA rfl (λ _=>rfl)) (lt1 rfl) (ak [(5,_),(26,_)] ⟨.inl rfl,.inr ⟨5,_,rfl,rfl,rfl⟩,trivial⟩ (λ sl hsl K hK=>vc rfl rfl (hsl _ _ rfl) (rfl) rfl rfl hK) (ak [(5,_),(26,_)] ⟨.inl rfl,.inr ⟨5,_,rfl,rfl,rfl⟩,trivial⟩ (λ sl hsl K hK=>vc rfl rfl (hsl _ _ rfl) (rfl) rfl rfl hK) ax)) (ay (λ _=>.p (.val (.tuple #[]))) rfl rfl rfl (cA rfl (λ _=>rfl)) (lt1 rfl) (aC rfl (ak [(26,_),(27,_)] ⟨.inr ⟨5,_,rfl,rfl,rfl⟩,.inr ⟨6,_,rfl,rfl,rfl⟩,trivial⟩ (λ sl hsl K hK=>vc rfl rfl (hsl _ _ rfl) (rfl) rfl rfl hK) ax)) ?_)
 refine ay (λ _=>.p (eB false)) rfl rfl rfl (cA rfl (λ _=>rfl)) (lt1 rfl) (ak [(26,_),(28,_)] ⟨.inr ⟨5,_,rfl,rfl,rfl⟩,.inr ⟨7,_,rfl,rfl,rfl⟩,trivial⟩ (λ sl hsl K hK=>af rfl (lP rfl rfl rfl (hsl _ _ rfl) (rfl) rfl hK)) (ak [(26,_),(28,_)] ⟨.inr ⟨5,_,rfl,rfl,rfl⟩,.inr ⟨7,_,rfl,rfl,rfl⟩,trivial⟩ (λ sl hsl K hK=>af rfl (lP rfl rfl rfl (hsl _ _ rfl) (rfl) rfl hK)) ax)) (gv [(2,_),(23,_)] rfl ⟨.inl rfl,.inr ⟨2,_,rfl,rfl,rfl⟩,trivial⟩ rfl (λ sl hsl K hK=>af rfl (fg rfl rfl rfl (hsl _ _ rfl) (hsl _ _ rfl) rfl rfl rfl (Nat.le_of_ble_eq_true rfl) hK)) ?_)
 refine ay (λ _=>.p (eS r4.2.1)) rfl rfl rfl (cA rfl (λ _=>rfl)) (lt1 rfl) (ak [(24,_)] ⟨.inr ⟨3,_,rfl,rfl,rfl⟩,trivial⟩ (λ sl hsl K hK=>af rfl (cv rfl rfl rfl (hsl _ _ rfl) hK)) (aC rfl ax)) (ay (λ _=>.p (eB false)) rfl rfl rfl (cA rfl (λ _=>rfl)) (lt1 rfl) (ak [(29,_)] ⟨.inr ⟨8,_,rfl,rfl,rfl⟩,trivial⟩ (λ sl hsl K hK=>af rfl (cv rfl rfl rfl (hsl _ _ rfl) hK)) (aC rfl ax)) ?_)
 refine kk (nx 1 rfl ?_)
 exact eX _ (oi h1).symm (gE rfl rfl)
def fj (n:Nat):Nat→Bytes→(List ae)→Option ((Bytes×(List ae))⊕(d5×Bool))
 | 0,_,_=>none
 | m+1,s14,f15 =>
 (g6 s14 ([109,111,100,117,108,101,46]:Bytes)).bind λ r16 =>
 if r16=true then
  (kO n s14).bind λ r19 =>
  if (!r19.2.2)=true then
   some (.inr ((d5.mk (ao.mk [] false ([]:Bytes) ([]:Bytes) (bA.mk 0 0 ([]:Bytes))) false),false))
  else
   ck ((f15.length+[r19.1].length)*48≤140737488355328) <|
   if r19.2.1=([]:Bytes) then
    some (.inr ((d5.mk (ao.mk (f15++[r19.1]) false ([]:Bytes) ([]:Bytes) (bA.mk 0 0 ([]:Bytes))) false),true))
   else
    ck ((0:Int)≤0∧0 < (r19.2.1.length:Int)) <|
    if byt r19.2.1 0=46 then
     ck ((0:Int)≤1∧1≤(r19.2.1.length:Int)∧(r19.2.1.length:Int)≤(r19.2.1.length:Int)) <|
     fj n m (sub r19.2.1 1 (r19.2.1.length:Int)) (f15++[r19.1])
    else
     some (.inr ((d5.mk (ao.mk [] false ([]:Bytes) ([]:Bytes) (bA.mk 0 0 ([]:Bytes))) false),false))
 else
  some (.inl (s14,f15))
def j1 (n:Nat)(s_0:Bytes):Option (d5×Bool) :=
 jn (fj n n s_0 []) λ q60 =>
 (
   (g6 q60.1 ([100,97,116,97,46]:Bytes)).bind λ r31 =>
   if r31=true then
    ck ((0:Int)≤5∧5≤(q60.1.length:Int)∧(q60.1.length:Int)≤(q60.1.length:Int)) <|
    some (sub q60.1 5 (q60.1.length:Int),true)
   else
    some (q60.1,false)
  : Option (Bytes×Bool)).bind λ q61 =>
 (iM n q61.1).bind λ r37 =>
 (
   (cQ n r37.1).bind λ r39 =>
   if (!r39)=true then
    some true
   else
    (gg n r37.1).bind λ r42 =>
    if r42=true then
     some true
    else
     if r37.2=([]:Bytes) then
      some true
     else
      ck ((0:Int)≤0∧0 < (r37.2.length:Int)) <|
      some (!decide (byt r37.2 0=46))
  : Option Bool).bind λ t47 =>
 if t47=true then
  some ((d5.mk (ao.mk [] false ([]:Bytes) ([]:Bytes) (bA.mk 0 0 ([]:Bytes))) false),false)
 else
  ck ((0:Int)≤1∧1≤(r37.2.length:Int)∧(r37.2.length:Int)≤(r37.2.length:Int)) <|
  (iM n (sub r37.2 1 (r37.2.length:Int))).bind λ r50 =>
  (kC n r50.2).bind λ r52 =>
  (
    (cQ n r50.1).bind λ r54 =>
    if (!r54)=true then
     some true
    else
     if (!r52.2.2)=true then
      some true
     else
      some (!decide (r52.2.1=([]:Bytes)))
   : Option Bool).bind λ t58 =>
  if t58=true then
   some ((d5.mk (ao.mk [] false ([]:Bytes) ([]:Bytes) (bA.mk 0 0 ([]:Bytes))) false),false)
  else
   some ((d5.mk (ao.mk q60.2 q61.2 r37.1 r50.1 r52.1) true),true)
set_option maxHeartbeats 4000000 in
theorem sS (n:Nat)(s_0:Bytes)(r:d5×Bool)(h0:j1 n s_0=some r):aB Tryz.prog 58 [eS s_0] (·=.tuple [.p (.agg (d5.cs r.1)),.p (eB r.2)]):=by
 unfold j1 at h0
 refine aU good Tryz.func58 rfl rfl rfl λ w0=>mP (λ v:d5×Bool=>.tuple [.p (.agg (d5.cs v.1)),.p (eB v.2)]) ?_
 refine nx 13 rfl ?_
 obtain ⟨o64,h1,hL0,hR0⟩:=cU h0
 refine kEx 0 (λ v65:Bytes×(List ae)=>o64=.inl v65) (λ v65=>⟨[(0,.p (eS v65.1)),(2,.ptr 2 0),(4,.ptr 4 0)],[(2,[.p (.val (.slice none 0 0)),.p (eB false),.p (eS ([]:Bytes)),.p (eS ([]:Bytes)),.p (eI 0),.p (eI 0),.p (eS ([]:Bytes)),.p (eB false)]),(4,[.vec 30 4 0 (v65.2.map aj),.p (eB false),.p (eS ([]:Bytes)),.p (eS ([]:Bytes)),.p (eI 0),.p (eI 0),.p (eS ([]:Bytes)),.p (eB false)])]⟩) (λ v65 hv=>?_) ?_
 ·have h0:=hL0 _ hv
  refine nx 2 rfl (bd h0 λ o66 h1 h0=>?_)
  refine kN o66 (λ v67=>⟨[(0,.p (eS v67.1)),(2,.ptr 2 0),(4,.ptr 4 0)],[(2,[.p (.val (.slice none 0 0)),.p (eB false),.p (eS ([]:Bytes)),.p (eS ([]:Bytes)),.p (eI 0),.p (eI 0),.p (eS ([]:Bytes)),.p (eB false)]),(4,[.vec 30 4 0 (v65.2.map aj),.p (eB v67.2),.p (eS ([]:Bytes)),.p (eS ([]:Bytes)),.p (eI 0),.p (eI 0),.p (eS ([]:Bytes)),.p (eB false)])]⟩) ?_ ?_
  ·refine nx 4 rfl (bd h0 λ r37 e38 h0=>?_)
   refine oK (lN _ o66.1 _ e38) rfl ⟨sr,trivial⟩ Tryz.call75 rfl (nx 8 rfl ?_)
   refine bd h0 λ o68 h1 h0=>kN o68 (λ v69=>⟨[(2,.ptr 2 0),(4,.ptr 4 0),(8,.p (eS r37.1)),(9,.p (eS r37.2)),(68,.p (eB v69))],[(2,[.p (.val (.slice none 0 0)),.p (eB false),.p (eS ([]:Bytes)),.p (eS ([]:Bytes)),.p (eI 0),.p (eI 0),.p (eS ([]:Bytes)),.p (eB false)]),(4,[.vec 30 4 0 (v65.2.map aj),.p (eB o66.2),.p (eS ([]:Bytes)),.p (eS ([]:Bytes)),.p (eI 0),.p (eI 0),.p (eS ([]:Bytes)),.p (eB false)])]⟩) ?_ ?_
   ·refine nx 1 rfl (fB [68] h0 rfl (λ c48 h0=>?_) λ c48 h0=>?_)
    ·exact nx 8 rfl (mQ (oi h0) rfl (az ⟨gi ⟨.inr ⟨rfl,rfl⟩,.inl rfl,.inl rfl,.inl rfl,.inl rfl,.inl rfl,.inl rfl,.inl rfl,trivial⟩,sr,trivial⟩))
    refine nx 5 rfl (oP h0 rfl rfl rfl λ hk49 h0=>?_)
    refine bd h0 λ r50 e51 h0=>oK (lN _ (sub r37.2 1 (r37.2.length:Int)) _ e51) rfl ⟨sr,trivial⟩ Tryz.call75 rfl (nx 9 rfl ?_)
    refine bd h0 λ r52 e53 h0=>oK (pU _ r50.2 _ e53) rfl ⟨sr,trivial⟩ Tryz.call78 rfl (nx 11 rfl ?_)
    refine bd h0 λ o70 h1 h0=>kN o70 (λ v71=>⟨[(2,.ptr 2 0),(4,.ptr 4 0),(8,.p (eS r37.1)),(10,.p (eS r50.1)),(11,.ptr 11 0),(92,.p (eB v71))],[(2,[.p (.val (.slice none 0 0)),.p (eB false),.p (eS ([]:Bytes)),.p (eS ([]:Bytes)),.p (eI 0),.p (eI 0),.p (eS ([]:Bytes)),.p (eB false)]),(4,[.vec 30 4 0 (v65.2.map aj),.p (eB o66.2),.p (eS ([]:Bytes)),.p (eS ([]:Bytes)),.p (eI 0),.p (eI 0),.p (eS ([]:Bytes)),.p (eB false)]),(11,(bA.cs r52.1).map .p)]⟩) ?_ ?_
    ·refine nx 1 rfl (fB [92] h0 rfl (λ c59 h0=>?_) λ c59 h0=>?_)
     ·exact nx 8 rfl (mQ (oi h0) rfl (az ⟨gi ⟨.inr ⟨rfl,rfl⟩,.inl rfl,.inl rfl,.inl rfl,.inl rfl,.inl rfl,.inl rfl,.inl rfl,trivial⟩,sr,trivial⟩))
     exact nx 35 rfl (mQ (oi h0) rfl (az ⟨qd ⟨AV.sub_vec _ _ _ _,sr,sr,sr,sr,sr,sr,sr,trivial⟩,sr,trivial⟩))
    refine nx 2 rfl (bd h1 λ r54 e55 h1=>?_)
    refine oK (ee _ r50.1 _ e55) rfl ⟨sr,trivial⟩ Tryz.call76 rfl (nx 2 rfl ?_)
    refine fB [84,85] h1 rfl (λ c56 h1=>?_) λ c56 h1=>?_
    ·exact nx 8 rfl (eX _ (oi h1).symm (gE rfl rfl))
    refine nx 4 rfl (fB [87,88,89] h1 rfl (λ c57 h1=>?_) λ c57 h1=>?_)
    ·exact nx 4 rfl (eX _ (oi h1).symm (gE rfl rfl))
    refine nx 1 rfl (oS rfl rfl ?_)
    exact nx 2 rfl (eX _ (oi h1).symm (gE rfl rfl))
   refine nx 2 rfl (bd h1 λ r39 e40 h1=>?_)
   refine oK (ee _ r37.1 _ e40) rfl ⟨sr,trivial⟩ Tryz.call76 rfl (nx 2 rfl ?_)
   refine fB [55,56] h1 rfl (λ c41 h1=>?_) λ c41 h1=>?_
   ·exact nx 13 rfl (eX _ (oi h1).symm (gE rfl rfl))
   refine nx 1 rfl (bd h1 λ r42 e43 h1=>?_)
   refine oK (lC _ r37.1 _ e43) rfl ⟨sr,trivial⟩ Tryz.call77 rfl (nx 2 rfl ?_)
   refine fB [58,59,60] h1 rfl (λ c44 h1=>?_) λ c44 h1=>?_
   ·exact nx 9 rfl (eX _ (oi h1).symm (gE rfl rfl))
   refine nx 1 rfl (oS rfl rfl ?_)
   refine nx 2 rfl (fD [62,63,64] h1 rfl (λ c45 h1=>?_) λ c45 h1=>?_)
   ·exact nx 5 rfl (eX _ (oi h1).symm (gE rfl rfl))
   refine nx 1 rfl (oI h1 rfl λ hk46 h1=>?_)
   exact nx 3 rfl (eX _ (oi h1).symm (gE rfl rfl))
  refine nx 3 rfl (bd h1 λ r31 e32 h1=>?_)
  refine oK (nc v65.1 ([100,97,116,97,46]:Bytes) _ e32) rfl ⟨sr,sr,trivial⟩ Tryz.call73 rfl (nx 1 rfl ?_)
  refine fB [43] h1 rfl (λ c33 h1=>?_) λ c33 h1=>?_
  ·refine nx 9 rfl (oP h1 rfl rfl rfl λ hk34 h1=>?_)
   exact nx 2 rfl (eX _ (oi h1).symm (gE rfl rfl))
  exact nx 2 rfl (eX _ (oi h1).symm (gE rfl rfl))
 refine lG (λ (q72:Bytes×(List ae))=>⟨[(0,.p (eS q72.1)),(2,.ptr 2 0),(4,.ptr 4 0)],[(2,[.p (.val (.slice none 0 0)),.p (eB false),.p (eS ([]:Bytes)),.p (eS ([]:Bytes)),.p (eI 0),.p (eI 0),.p (eS ([]:Bytes)),.p (eB false)]),(4,[.vec 30 4 0 (q72.2.map aj),.p (eB false),.p (eS ([]:Bytes)),.p (eS ([]:Bytes)),.p (eI 0),.p (eI 0),.p (eS ([]:Bytes)),.p (eB false)])]⟩) (λ m (q72:Bytes×(List ae))=>fj n m q72.1 q72.2) (λ _=>rfl) (s_0,[]) h1 (aI (cb ⟨er rfl,er rfl,er rfl,trivial⟩ ⟨⟨_,rfl,⟨sr,sr,sr,sr,sr,sr,sr,sr,trivial⟩⟩,⟨_,rfl,⟨AV.sub_nilvec _ _ _,sr,sr,sr,sr,sr,sr,sr,trivial⟩⟩,trivial⟩)) ?_
 rintro m ⟨s14,f15⟩ h1
 replace h1:fj n (m+1) s14 f15=some o64:=h1
 rw [fj] at h1
 refine nx 4 rfl (bd h1 λ r16 e17 h1=>?_)
 refine oK (nc s14 ([109,111,100,117,108,101,46]:Bytes) _ e17) rfl ⟨sr,sr,trivial⟩ Tryz.call73 rfl (nx 1 rfl ?_)
 refine fB [15] h1 rfl (λ c18 h1=>?_) λ c18 h1=>?_
 ·refine nx 6 rfl (bd h1 λ r19 e20 h1=>?_)
  refine oK (uf _ s14 _ e20) rfl ⟨sr,trivial⟩ Tryz.call74 rfl (nx 15 rfl ?_)
  refine fB [23] h1 rfl (λ c21 h1=>?_) λ c21 h1=>?_
  ·exact nx 8 rfl (mQ (hR0 _ (oi h1).symm) rfl (az ⟨gi ⟨.inr ⟨rfl,rfl⟩,.inl rfl,.inl rfl,.inl rfl,.inl rfl,.inl rfl,.inl rfl,.inl rfl,trivial⟩,sr,trivial⟩))
  refine nx 8 rfl (mO rfl (bS aj [r19.1] rfl rfl rfl rfl rfl rfl rfl rfl rfl rfl rfl rfl rfl (by first | rfl | (simp only [List.map_cons,List.map_nil,ae.agg_eq]; done) | (simp only [List.map_cons,List.map_nil,ae.agg_eq]; rfl)) ?_))
  refine cc' h1 λ hk22 h1=>mO rfl (fp aj f15 [r19.1] rfl rfl rfl rfl rfl rfl rfl rfl rfl rfl rfl rfl rfl (λ x=>congrArg List.length (ae.cells_eq x)) rfl rfl rfl rfl hk22 ?_)
  refine nx 8 rfl (oS rfl rfl ?_)
  refine nx 1 rfl (fD [34] h1 rfl (λ c23 h1=>?_) λ c23 h1=>?_)
  ·refine nx 7 rfl (mG (gE (t:=⟨[(2,.ptr 2 0),(3,.p (eB true))],[(2,[.vec 30 4 0 ((f15++[r19.1]).map aj),.p (eB false),.p (eS ([]:Bytes)),.p (eS ([]:Bytes)),.p (eI 0),.p (eI 0),.p (eS ([]:Bytes)),.p (eB false)])]⟩) rfl rfl) ?_)
   exact nx 1 rfl (mQ (hR0 _ (oi h1).symm) rfl (az ⟨qd ⟨AV.sub_vec _ _ _ _,sr,sr,sr,sr,sr,sr,sr,trivial⟩,sr,trivial⟩))
  refine nx 6 rfl (oI h1 rfl λ hk24 h1=>?_)
  refine nx 2 rfl (mG (gE (t:=⟨[(2,.ptr 2 0),(4,.ptr 4 0),(6,.p (eS r19.2.1)),(38,.p (eB (!decide (byt r19.2.1 0=46))))],[(2,[.p (.val (.slice none 0 0)),.p (eB false),.p (eS ([]:Bytes)),.p (eS ([]:Bytes)),.p (eI 0),.p (eI 0),.p (eS ([]:Bytes)),.p (eB false)]),(4,[.vec 30 4 0 ((f15++[r19.1]).map aj),.p (eB false),.p (eS ([]:Bytes)),.p (eS ([]:Bytes)),.p (eI 0),.p (eI 0),.p (eS ([]:Bytes)),.p (eB false)])]⟩) rfl rfl) ?_)
  refine fN [38] h1 rfl (λ c25 h1=>?_) λ c25 h1=>?_
  ·refine nx 4 rfl (oP h1 rfl rfl rfl λ hk26 h1=>?_)
   exact nx 2 rfl (eX (sub r19.2.1 1 (r19.2.1.length:Int),f15++[r19.1]) h1 (gE rfl rfl))
  exact nx 8 rfl (mQ (hR0 _ (oi h1).symm) rfl (az ⟨gi ⟨.inr ⟨rfl,rfl⟩,.inl rfl,.inl rfl,.inl rfl,.inl rfl,.inl rfl,.inl rfl,.inl rfl,trivial⟩,sr,trivial⟩))
 exact nx 2 rfl (eXi _ (oi h1).symm (gE rfl rfl))
def jY (n:Nat)(s_0:Bytes):Option (ao×Int) :=
 (j1 n s_0).bind λ r1 =>
 (
   if (!r1.2)=true then
    some true
   else
    some (!r1.1.fWhole)
  : Option Bool).bind λ t4 =>
 if t4=true then
  some ((ao.mk [] false ([]:Bytes) ([]:Bytes) (bA.mk 0 0 ([]:Bytes))),2)
 else
  if 16 < (r1.1.fAddr.fModule.length:Int) then
   some ((ao.mk [] false ([]:Bytes) ([]:Bytes) (bA.mk 0 0 ([]:Bytes))),4)
  else
   some (r1.1.fAddr,0)
set_option maxHeartbeats 4000000 in
theorem s9 (n:Nat)(s_0:Bytes)(r:ao×Int)(h0:jY n s_0=some r):aB Tryz.prog 44 [eS s_0] (·=.tuple [.p (.agg (ao.cs r.1)),.p (eI r.2)]):=by
 unfold jY at h0
 refine aU good Tryz.func44 rfl rfl rfl λ w0=>mP (λ v:ao×Int=>.tuple [.p (.agg (ao.cs v.1)),.p (eI v.2)]) ?_
 refine nx 8 rfl (bd h0 λ r1 e2 h0=>?_)
 refine oK (sS _ s_0 _ e2) rfl ⟨sr,trivial⟩ Tryz.call58 rfl (nx 9 rfl ?_)
 refine bd h0 λ o8 h1 h0=>kN o8 (λ v9=>⟨[(2,.ptr 2 0),(4,.ptr 4 0),(17,.p (eB v9))],[(2,[.p (.val (.slice none 0 0)),.p (eB false),.p (eS ([]:Bytes)),.p (eS ([]:Bytes)),.p (eI 0),.p (eI 0),.p (eS ([]:Bytes))]),(4,(d5.cs r1.1).map .p)]⟩) ?_ ?_
 ·refine nx 1 rfl (fB [17] h0 rfl (λ c5 h0=>?_) λ c5 h0=>?_)
  ·exact nx 8 rfl (mQ (oi h0) rfl (az ⟨gi ⟨.inr ⟨rfl,rfl⟩,.inl rfl,.inl rfl,.inl rfl,.inl rfl,.inl rfl,.inl rfl,trivial⟩,sr,trivial⟩))
  refine nx 8 rfl (oLl (f:=aj) rfl rfl ?_)
  refine nx 2 rfl (fD [23] h0 rfl (λ c6 h0=>?_) λ c6 h0=>?_)
  ·exact nx 8 rfl (mQ (oi h0) rfl (az ⟨gi ⟨.inr ⟨rfl,rfl⟩,.inl rfl,.inl rfl,.inl rfl,.inl rfl,.inl rfl,.inl rfl,trivial⟩,sr,trivial⟩))
  exact nx 10 rfl (mQ (oi h0) rfl (az ⟨sr,sr,trivial⟩))
 refine nx 4 rfl (fB [12,13] h1 rfl (λ c3 h1=>?_) λ c3 h1=>?_)
 ·exact nx 5 rfl (eX _ (oi h1).symm (gE rfl rfl))
 exact nx 5 rfl (eX _ (oi h1).symm (gE rfl rfl))
def eY (a_0:ao):Nat→Int→(List ae)→Option (List ae)
 | 0,_,_=>none
 | m+1,i7,f8 =>
 if i7 < (a_0.fModule.length:Int) then
  ck ((0:Int)≤i7∧i7 < (a_0.fModule.length:Int)) <|
  ck ((f8.length+([(ae.mk ((lat a_0.fModule i7).fName) (bA.mk 0 0 ([]:Bytes)))]).length)*48≤140737488355328) <|
  ck (inR (i7+1)) <|
  eY a_0 m (i7+1) (f8++([(ae.mk ((lat a_0.fModule i7).fName) (bA.mk 0 0 ([]:Bytes)))]))
 else
  some f8
def kY (n:Nat)(a_0:ao):Option ao :=
 (eY a_0 n 0 []).bind λ f15 =>
 some (ao.mk f15 a_0.fData a_0.fType a_0.fName (bA.mk 0 0 ([]:Bytes)))
set_option maxHeartbeats 4000000 in
theorem ub (n:Nat)(a_0:ao)(r:ao)(h0:kY n a_0=some r):aB Tryz.prog 46 [.agg (ao.cs a_0)] (·=.p (.agg (ao.cs r))):=by
 unfold kY at h0
 refine aU good Tryz.func46 rfl rfl rfl λ w0=>mP (λ v:ao=>.p (.agg (ao.cs v))) ?_
 refine nx 23 rfl (bd h0 λ o17 h1 h0=>?_)
 refine kE 0 o17 (λ v18=>⟨[(2,.ptr 2 0),(3,.ptr 3 0)],[(2,[.p (.val (.slice none 0 0)),.p (eB false),.p (eS ([]:Bytes)),.p (eS ([]:Bytes)),.p (eI 0),.p (eI 0),.p (eS ([]:Bytes))]),(3,[.vec 29 4 0 (v18.map aj),.p (eB a_0.fData),.p (eS a_0.fType),.p (eS a_0.fName),.p (eI 0),.p (eI 0),.p (eS ([]:Bytes))])]⟩) ?_ ?_
 ·exact nx 7 rfl (mQ (oi h0) rfl (qd ⟨AV.sub_vec _ _ _ _,sr,sr,sr,sr,sr,sr,trivial⟩))
 refine lG (λ (q19:Int×(List ae))=>⟨[(1,.ptr 1 0),(2,.ptr 2 0),(3,.ptr 3 0),(4,.p (eI q19.1))],[(1,(ao.cs a_0).map .p),(2,[.p (.val (.slice none 0 0)),.p (eB false),.p (eS ([]:Bytes)),.p (eS ([]:Bytes)),.p (eI 0),.p (eI 0),.p (eS ([]:Bytes))]),(3,[.vec 29 4 0 (q19.2.map aj),.p (eB a_0.fData),.p (eS a_0.fType),.p (eS a_0.fName),.p (eI 0),.p (eI 0),.p (eS ([]:Bytes))])]⟩) (λ m (q19:Int×(List ae))=>eY a_0 m q19.1 q19.2) (λ _=>rfl) (0,[]) h1 (aI (cb ⟨er rfl,er rfl,er rfl,er rfl,trivial⟩ ⟨⟨_,rfl,⟨sr,sr,sr,sr,sr,sr,sr,trivial⟩⟩,⟨_,rfl,⟨sr,sr,sr,sr,sr,sr,sr,trivial⟩⟩,⟨_,rfl,⟨AV.sub_nilvec _ _ _,sr,sr,sr,sr,sr,sr,trivial⟩⟩,trivial⟩)) ?_
 rintro m ⟨i7,f8⟩ h1
 replace h1:eY a_0 (m+1) i7 f8=some o17:=h1
 rw [eY] at h1
 refine nx 6 rfl (oLl (f:=aj) rfl rfl ?_)
 refine nx 2 rfl (fD [16] h1 rfl (λ c9 h1=>?_) λ c9 h1=>?_)
 ·refine nx 4 rfl (cc' h1 λ hk10 h1=>?_)
  refine cc' h1 λ hk11 h1=>mG (gE (t:=⟨[(1,.ptr 1 0),(2,.ptr 2 0),(3,.ptr 3 0),(4,.p (eI i7))],[(1,(ao.cs a_0).map .p),(2,[.p (.val (.slice none 0 0)),.p (eB false),.p (eS ([]:Bytes)),.p (eS ([]:Bytes)),.p (eI 0),.p (eI 0),.p (eS ([]:Bytes))]),(3,[.vec 29 4 0 (f8.map aj),.p (eB a_0.fData),.p (eS a_0.fType),.p (eS a_0.fName),.p (eI 0),.p (eI 0),.p (eS ([]:Bytes))])]⟩) rfl rfl) (mS ⟨2,[10,12],(by3 (some λ i=>Nat.beq i 29||Nat.beq i 29) none none),(λ _=>[(1,.ptr 1 0),(2,.ptr 2 0),(3,.ptr 3 0),(4,.p (eI i7))]),(by3 ([(1,[.p (eL aj a_0.fModule),.p (eB a_0.fData),.p (eS a_0.fType),.p (eS a_0.fName),.p (eI a_0.fKey.fKind),.p (eI a_0.fKey.fNum),.p (eS a_0.fKey.fStr)]),(2,[.p (.val (.slice none 0 0)),.p (eB false),.p (eS ([]:Bytes)),.p (eS ([]:Bytes)),.p (eI 0),.p (eI 0),.p (eS ([]:Bytes))]),(3,[.vec 29 4 0 (f8.map aj),.p (eB a_0.fData),.p (eS a_0.fType),.p (eS a_0.fName),.p (eI 0),.p (eI 0),.p (eS ([]:Bytes))])]) ([(1,[.p (eL aj a_0.fModule),.p (eB a_0.fData),.p (eS a_0.fType),.p (eS a_0.fName),.p (eI a_0.fKey.fKind),.p (eI a_0.fKey.fNum),.p (eS a_0.fKey.fStr)]),(2,[.p (.val (.slice none 0 0)),.p (eB false),.p (eS ([]:Bytes)),.p (eS ([]:Bytes)),.p (eI 0),.p (eI 0),.p (eS ([]:Bytes))]),(3,[.p (eL aj f8),.p (eB a_0.fData),.p (eS a_0.fType),.p (eS a_0.fName),.p (eI 0),.p (eI 0),.p (eS ([]:Bytes))])]) ([(3,[.vec 29 4 0 ((f8++([(ae.mk ((lat a_0.fModule i7).fName) (bA.mk 0 0 ([]:Bytes)))])).map aj),.p (eB a_0.fData),.p (eS a_0.fType),.p (eS a_0.fName),.p (eI 0),.p (eI 0),.p (eS ([]:Bytes))]),(1,[.p (eL aj a_0.fModule),.p (eB a_0.fData),.p (eS a_0.fType),.p (eS a_0.fName),.p (eI a_0.fKey.fKind),.p (eI a_0.fKey.fNum),.p (eS a_0.fKey.fStr)]),(2,[.p (.val (.slice none 0 0)),.p (eB false),.p (eS ([]:Bytes)),.p (eS ([]:Bytes)),.p (eI 0),.p (eI 0),.p (eS ([]:Bytes))]),(3,[.p (eL aj f8),.p (eB a_0.fData),.p (eS a_0.fType),.p (eS a_0.fName),.p (eI 0),.p (eI 0),.p (eS ([]:Bytes))])]))⟩ rfl rfl rfl ⟨rfl,rfl,rfl,rfl,trivial⟩ (lt2 ⟨rfl,rfl,rfl,rfl,trivial⟩ ⟨rfl,rfl,rfl,rfl,trivial⟩) rfl rfl rfl rfl ?_)
  refine ay (λ _=>.ptr 3 0) rfl rfl rfl (mf rfl rfl (λ _=>rfl)) (lt2 rfl rfl) (aC rfl (ak [(3,_)] ⟨.inl rfl,trivial⟩ (λ sl hsl K hK=>af rfl (aO rfl rfl rfl rfl rfl rfl rfl rfl (hsl _ _ rfl) hK)) (ak [(3,_)] ⟨.inl rfl,trivial⟩ (λ sl hsl K hK=>af rfl (aO rfl rfl rfl rfl rfl rfl rfl rfl (hsl _ _ rfl) hK)) ax))) (ay (by3 (.vec 29 4 0 (f8.map aj)) (.p (eL aj f8)) (.p (eL aj f8))) rfl rfl rfl (mf rfl rfl (λ _=>rfl)) (lt2 rfl rfl) (aC rfl (aC rfl (ak [(19,_)] ⟨.inr ⟨0,_,rfl,rfl,rfl⟩,trivial⟩ (λ sl hsl K hK=>af rfl (dD rfl rfl rfl rfl rfl (hsl _ _ rfl) rfl rfl hK)) ax))) ?_)
  refine ay (λ _=>.ptr 1 0) rfl rfl rfl (mf rfl rfl (λ _=>rfl)) (lt2 rfl rfl) (aC rfl (ak [(1,_)] ⟨.inl rfl,trivial⟩ (λ sl hsl K hK=>af rfl (aO rfl rfl rfl rfl rfl rfl rfl rfl (hsl _ _ rfl) hK)) (ak [(1,_)] ⟨.inl rfl,trivial⟩ (λ sl hsl K hK=>af rfl (aO rfl rfl rfl rfl rfl rfl rfl rfl (hsl _ _ rfl) hK)) ax))) (ay (λ _=>.p (eL aj a_0.fModule)) rfl rfl rfl (mf rfl rfl (λ _=>rfl)) (lt2 rfl rfl) (aC rfl (ak [(21,_)] ⟨.inr ⟨2,_,rfl,rfl,rfl⟩,trivial⟩ (λ sl hsl K hK=>af rfl (dD rfl rfl rfl rfl rfl (hsl _ _ rfl) rfl rfl hK)) (ak [(21,_)] ⟨.inr ⟨2,_,rfl,rfl,rfl⟩,trivial⟩ (λ sl hsl K hK=>af rfl (dD rfl rfl rfl rfl rfl (hsl _ _ rfl) rfl rfl hK)) ax))) ?_)
  refine ay (λ _=>.p (eI i7)) rfl rfl rfl (mf rfl rfl (λ _=>rfl)) (lt2 rfl rfl) (aC rfl (ak [(4,_)] ⟨.inl rfl,trivial⟩ (λ sl hsl K hK=>af rfl (bs rfl rfl rfl (hsl _ _ rfl) hK)) (ak [(4,_)] ⟨.inl rfl,trivial⟩ (λ sl hsl K hK=>af rfl (bs rfl rfl rfl (hsl _ _ rfl) hK)) ax))) (ay (λ _=>.rptr (ae.cs (lat a_0.fModule i7))) rfl rfl rfl (mf rfl rfl (λ _=>rfl)) (lt2 rfl rfl) (aC rfl (ak [(22,_),(23,_)] ⟨.inr ⟨3,_,rfl,rfl,rfl⟩,.inr ⟨4,_,rfl,rfl,rfl⟩,trivial⟩ (λ sl hsl K hK=>af rfl (bf (f:=aj) (l:=a_0.fModule) ae.cs rfl rfl rfl rfl rfl rfl (hsl _ _ rfl) rfl (hsl _ _ rfl) hk10 ae.cells_eq (λ _=>rfl) hK)) (ak [(22,_),(23,_)] ⟨.inr ⟨3,_,rfl,rfl,rfl⟩,.inr ⟨4,_,rfl,rfl,rfl⟩,trivial⟩ (λ sl hsl K hK=>af rfl (bf (f:=aj) (l:=a_0.fModule) ae.cs rfl rfl rfl rfl rfl rfl (hsl _ _ rfl) rfl (hsl _ _ rfl) hk10 ae.cells_eq (λ _=>rfl) hK)) ax))) ?_)
  refine ay (λ _=>.rptr (List.drop 0 (ae.cs (lat a_0.fModule i7)))) rfl rfl rfl (mf rfl rfl (λ _=>rfl)) (lt2 rfl rfl) (aC rfl (ak [(24,_)] ⟨.inr ⟨5,_,rfl,rfl,rfl⟩,trivial⟩ (λ sl hsl K hK=>af rfl (iq rfl rfl rfl rfl rfl rfl rfl rfl (hsl _ _ rfl) hK)) (ak [(24,_)] ⟨.inr ⟨5,_,rfl,rfl,rfl⟩,trivial⟩ (λ sl hsl K hK=>af rfl (iq rfl rfl rfl rfl rfl rfl rfl rfl (hsl _ _ rfl) hK)) ax))) (ay (λ _=>.p (eS ((lat a_0.fModule i7).fName))) rfl rfl rfl (mf rfl rfl (λ _=>rfl)) (lt2 rfl rfl) (aC rfl (ak [(25,_)] ⟨.inr ⟨6,_,rfl,rfl,rfl⟩,trivial⟩ (λ sl hsl K hK=>af rfl (ot rfl rfl rfl rfl rfl (hsl _ _ rfl) rfl hK)) (ak [(25,_)] ⟨.inr ⟨6,_,rfl,rfl,rfl⟩,trivial⟩ (λ sl hsl K hK=>af rfl (ot rfl rfl rfl rfl rfl (hsl _ _ rfl) rfl hK)) ax))) ?_)
  refine ay (λ _=>.p (.agg [eS ((lat a_0.fModule i7).fName),eI 0,eI 0,eS ([]:Bytes)])) rfl rfl rfl (mf rfl rfl (λ _=>rfl)) (lt2 rfl rfl) (aC rfl (ak [(26,_)] ⟨.inr ⟨7,_,rfl,rfl,rfl⟩,trivial⟩ (λ sl hsl K hK=>af rfl (mc rfl rfl rfl rfl rfl rfl (gW (hsl _ _ rfl) mb) rfl rfl hK)) (ak [(26,_)] ⟨.inr ⟨7,_,rfl,rfl,rfl⟩,trivial⟩ (λ sl hsl K hK=>af rfl (mc rfl rfl rfl rfl rfl rfl (gW (hsl _ _ rfl) mb) rfl rfl hK)) ax))) (ay (λ _=>.p (eL aj ([(ae.mk ((lat a_0.fModule i7).fName) (bA.mk 0 0 ([]:Bytes)))]))) rfl rfl rfl (mf rfl rfl (λ _=>rfl)) (lt2 rfl rfl) (aC rfl (aC rfl (ak [(27,_)] ⟨.inr ⟨8,_,rfl,rfl,rfl⟩,trivial⟩ (λ sl hsl K hK=>af rfl (bS aj [(ae.mk ((lat a_0.fModule i7).fName) (bA.mk 0 0 ([]:Bytes)))] rfl rfl rfl rfl rfl rfl (tw (hsl _ _ rfl) rfl uW) rfl rfl rfl rfl rfl rfl (by first | rfl | (simp only [List.map_cons,List.map_nil,ae.agg_eq]; done) | (simp only [List.map_cons,List.map_nil,ae.agg_eq]; rfl)) hK)) ax))) ?_)
  refine qS (λ _=>.vec 29 4 0 ((f8++([(ae.mk ((lat a_0.fModule i7).fName) (bA.mk 0 0 ([]:Bytes)))])).map aj)) [(20,_),(28,_)] rfl ⟨.inr ⟨1,_,rfl,rfl,rfl⟩,.inr ⟨9,_,rfl,rfl,rfl⟩,trivial⟩ rfl rfl (cA rfl (λ _=>rfl)) (lt2 (λ h=>absurd h (by decide)) (λ _=>rfl)) (λ sl hsl K hK=>af rfl (fp aj f8 ([(ae.mk ((lat a_0.fModule i7).fName) (bA.mk 0 0 ([]:Bytes)))]) rfl rfl rfl rfl rfl rfl rfl rfl (hsl _ _ rfl) rfl rfl (hsl _ _ rfl) rfl (λ x=>congrArg List.length (ae.cells_eq x)) rfl rfl rfl rfl hk11 hK)) (ay (λ _=>.ptr 3 0) rfl rfl rfl (mf rfl rfl (λ _=>rfl)) (lt2 rfl rfl) (aC rfl (ak [(3,_)] ⟨.inl rfl,trivial⟩ (λ sl hsl K hK=>af rfl (aO rfl rfl rfl rfl rfl rfl rfl rfl (hsl _ _ rfl) hK)) (aC rfl ax))) ?_)
  refine gv [(29,_),(30,_)] rfl ⟨.inr ⟨10,_,rfl,rfl,rfl⟩,.inr ⟨11,_,rfl,rfl,rfl⟩,trivial⟩ rfl (λ sl hsl K hK=>af rfl (fg rfl rfl rfl (hsl _ _ rfl) (hsl _ _ rfl) rfl rfl rfl (Nat.le_of_ble_eq_true rfl) hK)) (kk ?_)
  refine nx 3 rfl (oA h1 rfl rfl λ hk12 h1=>?_)
  exact nx 2 rfl (eX (i7+1,f8++([(ae.mk ((lat a_0.fModule i7).fName) (bA.mk 0 0 ([]:Bytes)))])) h1 (gE rfl rfl))
 exact nx 2 rfl (eXi _ (oi h1).symm (gE rfl rfl))
def g7 (n:Nat)(s_0:Bytes):Option (Bytes×Int) :=
 (jY n s_0).bind λ r1 =>
 if r1.2=0 then
  (kY n r1.1).bind λ r4 =>
  (jp n r4).bind λ r6 =>
  some (r6,0)
 else
  some (([]:Bytes),r1.2)
set_option maxHeartbeats 4000000 in
theorem nh (n:Nat)(s_0:Bytes)(r:Bytes×Int)(h0:g7 n s_0=some r):aB Tryz.prog 37 [eS s_0] (·=.tuple [.p (eS r.1),.p (eI r.2)]):=by
 unfold g7 at h0
 refine aU good Tryz.func37 rfl rfl rfl λ w0=>mP (λ v:Bytes×Int=>.tuple [.p (eS v.1),.p (eI v.2)]) ?_
 refine nx 8 rfl (bd h0 λ r1 e2 h0=>?_)
 refine oK (s9 _ s_0 _ e2) rfl ⟨sr,trivial⟩ Tryz.call44 rfl (nx 13 rfl ?_)
 refine fN [12] h0 rfl (λ c3 h0=>?_) λ c3 h0=>?_
 ·refine nx 5 rfl (bd h0 λ r4 e5 h0=>?_)
  refine oK (ub _ r1.1 _ e5) rfl ⟨sr,trivial⟩ Tryz.call46 rfl (bd h0 λ r6 e7 h0=>?_)
  refine oK (rP _ r4 _ e7) rfl ⟨sr,trivial⟩ Tryz.call45 rfl (nx 4 rfl ?_)
  exact mQ (oi h0) rfl (az ⟨sr,sr,trivial⟩)
 exact nx 8 rfl (mQ (oi h0) rfl (az ⟨sr,sr,trivial⟩))
end Go.Ab.R06
end
section
set_option linter.unusedVariables false
set_option linter.unusedSimpArgs false
set_option linter.unnecessarySimpa false
namespace Go.Ab.R06
open Go.Ab Go.Ab.RB Go.Lib
theorem uy (s p:Bytes):g6 s p=some (hasPrefix s p):=by
 unfold g6
 by_cases h:p.length≤s.length
 ·rw [if_pos (by omega),bI (by omega),Option.bind_some]
  refine congrArg some (eqB ?_)
  rw [decide_eq_true_eq,dB,nR,Int.toNat_natCast]
  constructor
  ·intro q; exact ⟨s.drop p.length,by conv=>lhs; rw [← List.take_append_drop p.length s,q]⟩
  ·rintro ⟨t,rfl⟩; rw [List.take_left]
 ·rw [if_neg (by omega),Option.bind_some]
  refine congrArg some (Eq.symm ?_)
  rw [← Bool.not_eq_true]
  intro q; exact h (qf q)
theorem kx {b c:UInt8}{t:Bytes}:hasPrefix (b::t) [c]=decide (b=c):=by
 refine eqB ?_
 rw [dB,decide_eq_true_eq]
 exact ⟨λ ⟨u,hu⟩=>(List.cons.inj hu).1,λ h=>⟨t,by rw [h]; rfl⟩⟩
theorem pre_nil {c:UInt8}:hasPrefix [] [c]=false:=by
 rw [← Bool.not_eq_true,dB]; rintro ⟨u,hu⟩; cases hu
def cL (s:Bytes):Bytes×Bytes:=(s.takeWhile idB,s.dropWhile idB)
theorem ti (p:UInt8→Bool)(s:Bytes):s.take (s.takeWhile p).length=s.takeWhile p∧s.drop (s.takeWhile p).length=s.dropWhile p:=by
 have h:=List.takeWhile_append_dropWhile (p:=p) (l:=s)
 constructor
 ·have:s.take (s.takeWhile p).length=(s.takeWhile p++s.dropWhile p).take (s.takeWhile p).length:=by rw [h]
  rw [this,List.take_left]
 ·have:s.drop (s.takeWhile p).length=(s.takeWhile p++s.dropWhile p).drop (s.takeWhile p).length:=by rw [h]
  rw [this,List.drop_left]
theorem BE (p:UInt8→Bool)(s:Bytes):(s.takeWhile p).length≤s.length:=by
 have h:=congrArg List.length (List.takeWhile_append_dropWhile (p:=p) (l:=s))
 rw [List.length_append] at h; omega
theorem Ck (s:Bytes)(hs:s.length≤1000000000):∀ (k i:Nat),i+k=s.length→Ev2 (λ _ m=>eT s m (i:Int)) (·=((i+((s.drop i).takeWhile idB).length:Nat):Int)):=by
 intro k
 induction k with
 | zero =>
  intro i hi
  refine ap ?_
  simp only [eT]
  refine ai false (am (by omega) (ab rfl)) (am (by simp) (ab ?_))
  rw [List.drop_of_length_le (by omega)]; simp
 | succ k ih =>
  intro i hi
  refine ap ?_
  simp only [eT]
  have hil:i < s.length:=by omega
  have hb:byt s i=((s.getD i 0).toNat:Int):=dM s i
  have:=ih (i+1) (by omega)
  rw [hb,drop_at s hil]
  have hid:idB (s.getD i 0)=(pg (s.getD i 0)||dv (s.getD i 0)):=rfl
  have hdg:=ix (s.getD i 0)
  have hlt:=vE (s.getD i 0)
  generalize s.getD i 0=b at hid hdg hlt ⊢
  refine ai (idB b) ?_ ?_
  ·refine al (by omega) (ag (by omega) (ai _ (aR hlt rfl) ?_))
   rw [hid]
   cases pg b with
   | true=>exact al rfl (ab rfl)
   | false =>
    refine am (by simp) (ag (by omega) (ar (λ h=>ag (by omega) (ab (eqB ?_))) (λ h=>ab (eqB ?_))))
    ·rw [decide_eq_true_eq,Bool.false_or,hdg]; omega
    ·rw [Bool.false_or,hdg]
     constructor
     ·intro q; cases q
     ·intro q; omega
  ·cases hi:idB b with
   | true =>
    refine al rfl (ag (aF (by omega) (by omega)) ?_)
    rw [show ((i+1:Nat):Int)=(i:Int)+1 by omega] at this
    refine dZ this λ r hr=>?_
    rw [hr,List.takeWhile_cons,if_pos hi,List.length_cons]; omega
   | false =>
    refine am (by simp) (ab ?_)
    rw [List.takeWhile_cons,if_neg (by simp [hi])]; simp
theorem tQ (s:Bytes)(hs:s.length≤1000000000):Ev2 (λ n _=>iM n s) (·=cL s):=by
 simp only [iM]
 have l:=Ck s hs s.length 0 (by omega)
 rw [List.drop_zero,Nat.zero_add] at l
 have hle:=BE idB s
 have hw:=ti idB s
 refine ai _ (aH l) (ag (by omega) (ag (by omega) (ab ?_)))
 rw [nR,fk,Int.toNat_natCast,hw.1,hw.2]; rfl
theorem xp (p:UInt8→Bool):∀ (w t:Bytes),(∀ b∈w,p b=true)→(t=[]∨∃ b r,t=b::r∧p b=false)→(w++t).takeWhile p=w∧(w++t).dropWhile p=t
 | [],t,_,h=>by
  rcases h with rfl | ⟨b,r,rfl,hb⟩
  ·exact ⟨rfl,rfl⟩
  ·simp [List.takeWhile_cons,List.dropWhile_cons,hb]
 | b::w,t,hw,h=>by
  have ih:=xp p w t (λ y hy=>hw y (List.mem_cons_of_mem _ hy)) h
  have hb:=hw b List.mem_cons_self
  simp only [List.cons_append,List.takeWhile_cons,List.dropWhile_cons,hb,if_true]
  exact ⟨by rw [ih.1],ih.2⟩
theorem zE {b:UInt8}(h:jC b=true):idB b=false:=by
 cases hi:idB b with
 | false=>rfl
 | true=>rw [mT hi] at h; cases h
theorem pG {w t:Bytes}(hw:bR w=true)(h:t=[]∨∃ b r,t=b::r∧jC b=true):cL (w++t)=(w,t):=by
 have:=xp idB w t (λ b hb=>kw hw hb) (h.imp id λ ⟨b,r,e,q⟩=>⟨b,r,e,zE q⟩)
 unfold cL; rw [this.1,this.2]
theorem lw (s:Bytes):s=(cL s).1++(cL s).2:=(List.takeWhile_append_dropWhile).symm
theorem oq (s:Bytes):(cL s).1.length≤s.length∧(cL s).2.length≤s.length:=by
 have:=congrArg List.length (lw s)
 rw [List.length_append] at this; omega
def BU (r:Bytes):bA×Bytes×Bool:=if (tZ (r.takeWhile dv)).2=0∧hasPrefix (r.dropWhile dv) [93]=true then (bA.mk 1 (tZ (r.takeWhile dv)).1 [],(r.dropWhile dv).drop 1,true) else (jR,[],false)
def Bh (r:Bytes):bA×Bytes×Bool:=if (jF r).2.2=0∧r.take (jF r).2.1.toNat=dI (jF r).1∧hasPrefix (r.drop (jF r).2.1.toNat) [93]=true then (bA.mk 2 0 (jF r).1,r.drop ((jF r).2.1.toNat+1),true) else (jR,[],false)
def ii (s:Bytes):bA×Bytes×Bool:=if hasPrefix s [91]=true then (if hasPrefix (s.drop 1) [34]=true then Bh (s.drop 1) else BU (s.drop 1)) else (jR,s,true)
theorem Aq (s:Bytes)(hs:s.length≤1000000000):∀ (k i:Nat),i+k=s.length→Ev2 (λ _ m=>fP s m (i:Int)) (·=((i+((s.drop i).takeWhile dv).length:Nat):Int)):=by
 intro k
 induction k with
 | zero =>
  intro i hi
  refine ap ?_
  simp only [fP]
  refine ai false (am (by omega) (ab rfl)) (am (by simp) (ab ?_))
  rw [List.drop_of_length_le (by omega)]; simp
 | succ k ih =>
  intro i hi
  refine ap ?_
  simp only [fP]
  have hil:i < s.length:=by omega
  have hb:byt s i=((s.getD i 0).toNat:Int):=dM s i
  have:=ih (i+1) (by omega)
  rw [hb,drop_at s hil]
  have hdg:=ix (s.getD i 0)
  generalize s.getD i 0=b at hdg ⊢
  refine ai (dv b) ?_ ?_
  ·refine al (by omega) (ag (by omega) (ar (λ h=>ag (by omega) (ab (eqB ?_))) (λ h=>ab (eqB ?_))))
   ·rw [decide_eq_true_eq,hdg]; omega
   ·rw [hdg]
    constructor
    ·intro q; cases q
    ·intro q; omega
  ·cases hi:dv b with
   | true =>
    refine al rfl (ag (aF (by omega) (by omega)) ?_)
    rw [show ((i+1:Nat):Int)=(i:Int)+1 by omega] at this
    refine dZ this λ r hr=>?_
    rw [hr,List.takeWhile_cons,if_pos hi,List.length_cons]; omega
   | false =>
    refine am (by simp) (ab ?_)
    rw [List.takeWhile_cons,if_neg (by simp [hi])]; simp
theorem wV (s:Bytes)(hs:s.length≤900000000):Ev2 (λ n _=>kC n s) (·=ii s):=by
 simp only [kC]
 unfold ii
 cases s with
 | nil=>exact ai true (al rfl (ab rfl)) (al rfl (ab rfl))
 | cons b r =>
  have hln:(b::r).length=r.length+1:=by simp
  have hb:byt (b::r) 0=(b.toNat:Int):=rfl
  have h91:b.toNat=91↔b=91:=kW (by decide)
  rw [kx]
  refine ai (!decide (b=91)) ?_ ?_
  ·refine am (by simp) (ag (by omega) (ab ?_))
   rw [hb]
   refine congrArg not (eqB ?_)
   rw [decide_eq_true_eq,decide_eq_true_eq,← h91]; omega
  by_cases hbr:b=91
  ·subst hbr
   rw [if_pos (show decide ((91:UInt8)=91)=true by simp)]
   refine am (by simp) ?_
   have hd1:(91::r:Bytes).drop 1=r:=rfl
   rw [hd1]
   refine ai (hasPrefix r [34]) ?_ ?_
   ·refine ar (λ h=>ag (by omega) (ab ?_)) (λ h=>ab ?_)
    ·cases r with
     | nil=>simp at h
     | cons c q =>
      have hc:byt (91::c::q) 1=(c.toNat:Int):=rfl
      have h34:c.toNat=34↔c=34:=kW (by decide)
      rw [hc,kx]
      refine eqB ?_
      rw [decide_eq_true_eq,decide_eq_true_eq,← h34]; omega
    ·cases r with
     | nil=>exact pre_nil.symm
     | cons c q=>simp only [List.length_cons] at h; omega
   cases hq:hasPrefix r [34] with
   | true =>
    refine al rfl (ag (by omega) ?_)
    rw [if_pos rfl]
    have s1:sub (91::r) 1 ((91::r:Bytes).length:Int)=r:=by rw [fk]; rfl
    rw [s1]
    unfold Bh
    have hu:=CJ r (by omega)
    have hok:=@vu r
    have hle:=yd r
    generalize jF r=U at hu hok hle ⊢
    obtain ⟨x,m,e⟩:=U
    simp only at hok hle ⊢
    obtain ⟨m,rfl⟩:∃ m':Nat,m=m':=⟨m.toNat,by omega⟩
    rw [Int.toNat_natCast]
    have hin1:inR ((m:Int)+1):=aF (by omega) (by omega)
    have hin2:inR ((m:Int)+2):=aF (by omega) (by omega)
    refine ai _ hu ?_
    dsimp only
    refine (ai (!decide (e=0∧r.take m=dI x∧hasPrefix (r.drop m) [93]=true)) ?_ ?_)
    ·refine ar (λ h=>ag hin1 ?_) (λ h=>ab (by simp [h]))
     subst h
     refine ar (λ h=>ab ?_) (λ h=>ag hin1 (ag (by omega) ?_))
     ·rw [List.drop_of_length_le (by omega),pre_nil]; simp
     have hml:m < r.length:=by omega
     have hb1:byt (91::r) ((m:Int)+1)=((r.getD m 0).toNat:Int):=by
      have:=tJ (91::r) m 1
      rw [show ((1:Nat):Int)=1 from rfl] at this
      rw [this]; rfl
     rw [hb1,drop_at r hml,kx]
     have h93:(r.getD m 0).toNat=93↔r.getD m 0=93:=kW (by decide)
     refine ar (λ h2=>ag hin1 (ag (by omega) ?_)) (λ h2=>ab ?_)
     ·have h3:r.getD m 0=93:=h93.1 (by omega)
      have hsub:sub (91::r) 1 ((m:Int)+1)=r.take m:=by
       have:=oj (91::r) 1 m
       rw [show ((1:Nat):Int)=1 from rfl,show (1:Int)+(m:Int)=(m:Int)+1 by omega] at this
       exact this
      rw [hsub,h3]
      refine ai _ (uH x (by omega)) (ar (λ h4=>?_) (λ h4=>ab (by simp [h4])))
      have hx:=hok rfl
      have hko:cw (bA.mk 2 0 x)=true:=by unfold cw; simp [hx.1,hx.2.1]
      have hk:=ss (bA.mk 2 0 x) (by show x.length≤_; omega)
      rw [hko] at hk
      exact ai _ hk (ab (by simp [h4]))
     ·have h3:¬ r.getD m 0=93:=λ q=>h2 (by have:=h93.2 q; omega)
      symm; rw [Bool.not_eq_true',decide_eq_false_iff_not]; intro q; exact h3 (of_decide_eq_true q.2.2)
    ·by_cases h:e=0∧r.take m=dI x∧hasPrefix (r.drop m) [93]=true
     ·rw [if_pos h]
      have hx:=hok (by rw [h.1])
      have hml:m < r.length:=by
       rcases Nat.lt_or_ge m r.length with q | q
       ·exact q
       ·have:=h.2.2
        rw [List.drop_of_length_le q,pre_nil] at this; cases this
      refine am (by simp [h]) (ag hin2 (ag (by omega) (ab ?_)))
      rw [fk,show ((m:Int)+2).toNat=m+1+1 by omega]; rfl
     ·rw [if_neg h]
      exact al (by simp only [h,decide_false,Bool.not_false]) (ab rfl)
   | false =>
    refine am (by simp) ?_
    rw [if_neg (by simp)]
    unfold BU
    have l:=Aq (91::r) (by omega) r.length 1 (by omega)
    rw [hd1] at l
    have hle:=BE dv r
    have hw:=ti dv r
    have hall:(r.takeWhile dv).all dv=true:=by simp
    have hn:=CS (r.takeWhile dv) (by omega) hall
    generalize tZ (r.takeWhile dv)=N at hn ⊢
    obtain ⟨v,e⟩:=N
    have hsub:sub (91::r) 1 ((1+(r.takeWhile dv).length:Nat):Int)=r.takeWhile dv:=by
     have:=oj (91::r) 1 (r.takeWhile dv).length
     rw [show ((1:Nat):Int)+((r.takeWhile dv).length:Int)=((1+(r.takeWhile dv).length:Nat):Int) by omega] at this
     rw [hd1,hw.1] at this
     exact this
    refine ai _ (aH l) (ag (by omega) ?_)
    rw [hsub]
    refine ai _ hn ?_
    dsimp only
    refine (ai (!decide (e=0∧hasPrefix (r.dropWhile dv) [93]=true)) ?_ ?_)
    ·refine ar (λ h=>?_) (λ h=>ab (by simp [h]))
     subst h
     rw [← hw.2]
     refine ar (λ h=>ab ?_) (λ h=>ag (by omega) (ab ?_))
     ·rw [List.drop_of_length_le (by omega),pre_nil]; simp
     ·have hml:(r.takeWhile dv).length < r.length:=by omega
      have hb1:byt (91::r) ((1+(r.takeWhile dv).length:Nat):Int)=((r.getD (r.takeWhile dv).length 0).toNat:Int):=by
       rw [dM,Nat.add_comm]; rfl
      rw [hb1,drop_at r hml,kx]
      have h93:(r.getD (r.takeWhile dv).length 0).toNat=93↔r.getD (r.takeWhile dv).length 0=93:=kW (by decide)
      refine congrArg not (eqB ?_)
      rw [decide_eq_true_eq,decide_eq_true_eq]
      exact ⟨λ q=>⟨rfl,decide_eq_true (h93.1 (by omega))⟩,λ q=>by have:=h93.2 (of_decide_eq_true q.2); omega⟩
    ·by_cases h:e=0∧hasPrefix (r.dropWhile dv) [93]=true
     ·rw [if_pos h]
      have hml:(r.takeWhile dv).length < r.length:=by
       rcases Nat.lt_or_ge (r.takeWhile dv).length r.length with q | q
       ·exact q
       ·have:=h.2
        rw [← hw.2,List.drop_of_length_le q,pre_nil] at this; cases this
      refine am (by simp [h]) (ag (aF (by omega) (by omega)) (ag (by omega) (ab ?_)))
      rw [fk,show (((1+(r.takeWhile dv).length:Nat):Int)+1).toNat=(r.takeWhile dv).length+1+1 by omega]
      refine Prod.ext rfl (Prod.ext ?_ rfl)
      show r.drop ((r.takeWhile dv).length+1)=(r.dropWhile dv).drop 1
      rw [← hw.2,List.drop_drop]
     ·rw [if_neg h]
      exact al (by simp only [h,decide_false,Bool.not_false]) (ab rfl)
  ·rw [if_neg (show ¬ decide (b=91)=true by simp [hbr])]
   exact al (by simp [hbr]) (ab rfl)
end Go.Ab.R06
end
section
set_option linter.unusedVariables false
set_option linter.unusedSimpArgs false
set_option linter.unnecessarySimpa false
namespace Go.Ab.R06
open Go.Ab Go.Ab.RB Go.Lib
def km (x:ae):ae:=ae.mk x.fName jR
def ta (a:ao):ao:=ao.mk (a.fModule.map km) a.fData a.fType a.fName jR
theorem Sm.bare {a:ao}(h:Sm a):Sm (ta a):=by
 refine ⟨by show (a.fModule.map km).length≤_; rw [List.length_map]; exact h.1,h.2.1,h.2.2.1,λ x hx=>?_⟩
 obtain ⟨y,hy,rfl⟩:=List.mem_map.1 hx
 exact h.2.2.2 y hy
theorem set_mid {α:Type}(p:List α)(x y:α)(q:List α):(p++x::q).set p.length y=p++y::q:=by
 induction p with
 | nil=>rfl
 | cons c r ih=>simp [ih]
theorem yq {α:Type} [Inhabited α] (p:List α)(x:α)(q:List α):lat (p++x::q) (p.length:Int)=x:=by
 rw [sc,List.getD_eq_getElem?_getD]; simp
theorem zw (a:ao)(hb:a.fModule.length≤1000000000):∀ (k i:Nat),i+k=a.fModule.length→Ev2 (λ _ m=>cp a m (i:Int) ((a.fModule.take i).map km++a.fModule.drop i)) (·=a.fModule.map km):=by
 intro k
 induction k with
 | zero =>
  intro i hi
  refine ap ?_
  simp only [cp]
  refine am (by omega) (ab ?_)
  rw [List.drop_of_length_le (by omega),List.take_of_length_le (by omega)]; simp
 | succ k ih =>
  intro i hi
  refine ap ?_
  simp only [cp]
  have h1:i < a.fModule.length:=by omega
  have hl:((a.fModule.take i).map km++a.fModule.drop i).length=a.fModule.length:=by
   rw [List.length_append,List.length_map,List.length_take,List.length_drop]; omega
  refine al (by omega) (ag (by omega) (ag (aF (by omega) (by omega)) ?_))
  have hd:(a.fModule.take i).map km++a.fModule.drop i=(a.fModule.take i).map km++a.fModule[i]::a.fModule.drop (i+1):=by rw [List.drop_eq_getElem_cons h1]
  have hpl:((a.fModule.take i).map km).length=i:=by rw [List.length_map,List.length_take]; omega
  have hg:lat ((a.fModule.take i).map km++a.fModule.drop i) (i:Int)=a.fModule[i]:=by
   rw [hd]
   have:=yq ((a.fModule.take i).map km) a.fModule[i] (a.fModule.drop (i+1))
   rw [hpl] at this
   exact this
  rw [hg,Int.toNat_natCast]
  have hs:((a.fModule.take i).map km++a.fModule.drop i).set i (ae.mk a.fModule[i].fName (bA.mk 0 0 ([]:Bytes)))=(a.fModule.take (i+1)).map km++a.fModule.drop (i+1):=by
   rw [hd]
   have:=set_mid ((a.fModule.take i).map km) a.fModule[i] (ae.mk a.fModule[i].fName (bA.mk 0 0 ([]:Bytes))) (a.fModule.drop (i+1))
   rw [hpl] at this
   rw [this,show a.fModule.take (i+1)=a.fModule.take i++[a.fModule[i]] by rw [List.take_add_one,List.getElem?_eq_getElem h1]; rfl,List.map_append,List.append_assoc]
   rfl
  rw [hs]
  have:=ih (i+1) (by omega)
  rw [Int.natCast_add,Int.natCast_one] at this
  exact this
theorem yZ (a:ao)(ha:Sm a):Ev2 (λ n _=>eH n a) (·=ta a):=by
 simp only [eH]
 have hl:=ha.1
 refine ar (λ h=>?_) (λ h=>ag (by omega) ?_)
 ·have:a.fModule=[]:=by simpa using h
  refine ai () ?_ (ab (by unfold ta; rw [this]; rfl))
  refine mY ?_
  simp only [dz]
  exact am (by simp) (ab (by trivial))
 ·have l:=zw a (by omega) a.fModule.length 0 (by omega)
  rw [List.take_zero,List.drop_zero] at l
  exact ai _ (aH l) (ab rfl)
def om (s:Bytes):Bytes×Int:=if (iN s).2=0 then (pK (ta (iN s).1),0) else ([],(iN s).2)
theorem yW (s:Bytes)(hs:s.length≤800000000):Ev2 (λ n _=>ez n s) (·=om s):=by
 simp only [ez]
 unfold om
 refine ai _ (Bl s hs) ?_
 have hp:=@rz s
 generalize iN s=p at hp ⊢
 obtain ⟨a,e⟩:=p
 simp only
 refine ar (λ h=>?_) (λ h=>ab (by rw [if_neg h]))
 subst h
 rw [if_pos rfl]
 have ha:=(hp rfl).2.2
 exact ai _ (yZ a ha) (ai _ (za _ ha.bare) (ab rfl))
end Go.Ab.R06
end
section
set_option linter.unusedVariables false
set_option linter.unusedSimpArgs false
set_option linter.unnecessarySimpa false
namespace Go.Ab.R06
open Go.Ab Go.Ab.RB Go.Lib
theorem su {s:Bytes}{k:bA}{t:Bytes}(h:ii s=(k,t,true)):cw k=true∧s=aL k++t:=by
 unfold ii at h
 by_cases hp:hasPrefix s [91]=true
 ·rw [if_pos hp] at h
  obtain ⟨l,rfl⟩:=(dB _ _).1 hp
  have hd:([91]++l).drop 1=l:=rfl
  rw [hd] at h
  by_cases hq:hasPrefix l [34]=true
  ·rw [if_pos hq] at h
   unfold Bh at h
   have hok:=@vu l
   generalize jF l=U at h hok
   obtain ⟨x,n,e⟩:=U
   simp only at h hok
   split at h
   ·rename_i hc
    obtain ⟨rfl,he,hp2⟩:=hc
    cases h
    have hx:=hok rfl
    have hko:cw (bA.mk 2 0 x)=true:=by unfold cw; simp [hx.1,hx.2.1]
    refine ⟨hko,?_⟩
    have ht:aL (bA.mk 2 0 x)=[91]++dI x++[93]:=by
     unfold aL
     rw [if_neg (by rw [hko]; simp),if_neg (by simp)]
    obtain ⟨u,hu⟩:=(dB _ _).1 hp2
    have hu2:l.drop (n.toNat+1)=u:=by rw [← List.drop_drop,hu]; rfl
    rw [ht,hu2,← he,List.append_assoc,List.append_assoc,← hu,List.take_append_drop]
   ·cases h
  ·rw [if_neg hq] at h
   unfold BU at h
   have hin:=@z7 (l.takeWhile dv)
   have hsp:=List.takeWhile_append_dropWhile (p:=dv) (l:=l)
   generalize tZ (l.takeWhile dv)=N at h hin
   obtain ⟨v,e⟩:=N
   simp only at h hin
   split at h
   ·rename_i hc
    obtain ⟨rfl,hp2⟩:=hc
    cases h
    have hi:=hin rfl
    have hko:cw (bA.mk 1 v [])=true:=by unfold cw; simp; exact ⟨hi.2.1,hi.2.2⟩
    refine ⟨hko,?_⟩
    have ht:aL (bA.mk 1 v [])=[91]++itoa v++[93]:=by
     unfold aL
     rw [if_neg (by rw [hko]; simp),if_pos rfl]
    obtain ⟨u,hu⟩:=(dB _ _).1 hp2
    rw [ht,hi.1,hu]
    conv=>lhs; rw [← hsp,hu]
    simp
   ·cases h
 ·rw [if_neg hp] at h
  cases h
  exact ⟨rfl,rfl⟩
theorem uN {k:bA}{t:Bytes}(hk:cw k=true)(h:hasPrefix t [91]=false):ii (aL k++t)=(k,t,true):=by
 rcases ka hk with h0 | h0 | h0
 ·have e:=tH hk h0
  subst e
  have et:aL jR=[]:=rfl
  rw [et,List.nil_append]
  unfold ii
  rw [if_neg (by rw [h]; simp)]
 ·have hn:=mn hk h0
  have et:aL k=[91]++itoa k.fNum++[93]:=by
   unfold aL
   rw [if_neg (by rw [hk]; simp [h0]),if_pos h0]
  obtain ⟨hd,hne⟩:=ru hn.1
  have e1:aL k++t=[91]++(itoa k.fNum++93::t):=by rw [et]; simp
  have hnp:hasPrefix (itoa k.fNum++93::t) [34]=false:=by
   cases hx:itoa k.fNum with
   | nil=>exact absurd hx hne
   | cons c r =>
    rw [hx] at hd
    have:=jO hd (b:=c) List.mem_cons_self
    rw [List.cons_append,kx,decide_eq_false_iff_not]
    intro q
    rw [q] at this
    have h34:(34:UInt8).toNat=34:=rfl
    omega
  have htw:=xp dv (itoa k.fNum) (93::t) (λ b hb=>List.all_eq_true.1 hd b hb) (.inr ⟨93,t,rfl,by decide⟩)
  unfold ii
  rw [e1,if_pos (iC _ _)]
  have hd1:([91]++(itoa k.fNum++93::t)).drop 1=itoa k.fNum++93::t:=rfl
  rw [hd1,if_neg (by rw [hnp]; simp)]
  unfold BU
  rw [htw.1,htw.2,zB hn.1 hn.2.1,if_pos ⟨rfl,by rw [kx]; simp⟩]
  refine Prod.ext ?_ rfl
  cases k
  simp only at *
  rw [h0,hn.2.2]
 ·have hs:=mg hk h0
  have et:aL k=[91]++dI k.fStr++[93]:=by
   unfold aL
   rw [if_neg (by rw [hk]; simp [h0]),if_neg (by omega)]
  have e1:aL k++t=[91]++(dI k.fStr++(93::t)):=by rw [et]; simp
  have hu:=tA k.fStr (93::t) hs.2.2 hs.2.1
  unfold ii
  rw [e1,if_pos (iC _ _)]
  have hd1:([91]++(dI k.fStr++(93::t))).drop 1=dI k.fStr++(93::t):=rfl
  have hq:hasPrefix (dI k.fStr++(93::t)) [34]=true:=by
   rw [dB]; exact ⟨k.fStr.flatMap fJ++[34]++(93::t),by simp [dI]⟩
  rw [hd1,if_pos hq]
  unfold Bh
  rw [hu]
  simp only [Int.toNat_natCast]
  rw [← List.drop_drop,List.take_left,List.drop_left,if_pos ⟨trivial,rfl,by rw [kx]; simp⟩]
  refine Prod.ext ?_ rfl
  cases k
  simp only at *
  rw [h0,hs.1]
theorem AR (s:Bytes):(ii s).2.1.length≤s.length:=by
 unfold ii
 split
 ·split
  ·unfold Bh
   split
   ·simp only [List.length_drop]; omega
   ·simp
  ·unfold BU
   split
   ·have:=congrArg List.length (List.takeWhile_append_dropWhile (p:=dv) (l:=s.drop 1))
    simp only [List.length_append,List.length_drop] at this ⊢
    omega
   ·simp
 ·exact Nat.le_refl _
def ma (s:Bytes):ae×Bytes×Bool:=(ae.mk (cL (s.drop 7)).1 (ii (cL (s.drop 7)).2).1,(ii (cL (s.drop 7)).2).2.1,(ii (cL (s.drop 7)).2).2.2&&bR (cL (s.drop 7)).1)
theorem uw (s:Bytes)(h:7≤s.length):(ma s).2.1.length+7≤s.length:=by
 have h1:=AR (cL (s.drop 7)).2
 have h2:=(oq (s.drop 7)).2
 rw [List.length_drop] at h2
 show (ii (cL (s.drop 7)).2).2.1.length+7≤_
 omega
theorem B9 (s:Bytes)(hs:s.length≤900000000)(h7:7≤s.length):Ev2 (λ n _=>kO n s) (·=ma s):=by
 simp only [kO]
 have e:sub s 7 (s.length:Int)=s.drop 7:=by rw [fk]; rfl
 rw [e]
 have h2:=oq (s.drop 7)
 rw [List.length_drop] at h2
 refine ag (by omega) (ai _ (tQ _ (by rw [List.length_drop]; omega)) (ai _ (wV _ (by omega)) (ai ((ii (cL (s.drop 7)).2).2.2&&bR (cL (s.drop 7)).1) ?_ (ab rfl))))
 cases (ii (cL (s.drop 7)).2).2.2 with
 | false=>exact am (by simp) (ab rfl)
 | true=>exact al rfl (ai _ (kz _ (by omega)) (ab (by simp)))
def si:d5:=d5.mk lJ false
def il:Nat→Bytes→List ae→(Bytes×List ae)⊕(d5×Bool)
 | 0,s,f=>.inl (s,f)
 | n+1,s,f=>if hasPrefix s iL=true then
   (if (ma s).2.2=true then
    (if (ma s).2.1=[] then .inr (d5.mk (ao.mk (f++[(ma s).1]) false [] [] jR) false,true)
     else if hasPrefix (ma s).2.1 [46]=true then il n ((ma s).2.1.drop 1) (f++[(ma s).1]) else .inr (si,false))
    else .inr (si,false))
  else .inl (s,f)
theorem zD:∀ (k:Nat) (s:Bytes) (f:List ae),s.length < k→s.length+f.length≤900000000→Ev2 (λ n m=>fj n m s f) (·=il k s f):=by
 intro k
 induction k with
 | zero=>intro s f h; omega
 | succ k ih =>
  intro s f hk hs
  refine ap ?_
  simp only [fj]
  unfold il
  refine ai (hasPrefix s iL) (aR (uy s iL) rfl) (ar (λ h=>?_) (λ h=>ab (by rw [if_neg h])))
  rw [if_pos h]
  have h7:7≤s.length:=qf h
  refine ai _ (B9 s (by omega) h7) ?_
  have hl:=uw s h7
  generalize ma s=st at hl ⊢
  obtain ⟨x,t,b⟩:=st
  dsimp only at hl ⊢
  cases b with
  | false=>exact al rfl (ab (by rw [if_neg (by simp)]; rfl))
  | true =>
   rw [if_pos (show true=true from rfl)]
   refine am (by simp) (ag (by simp only [List.length_cons,List.length_nil]; omega) ?_)
   cases t with
   | nil=>exact al rfl (ab (by rw [if_pos rfl]; rfl))
   | cons c q =>
    rw [if_neg (show ¬ (c::q:Bytes)=[] by simp),kx]
    have hb:byt (c::q) 0=(c.toNat:Int):=rfl
    have h46:c.toNat=46↔c=46:=kW (by decide)
    simp only [List.length_cons] at hl
    refine am (by simp) (ag (by simp only [List.length_cons]; omega) ?_)
    rw [hb]
    refine ar (λ h1=>ag (by simp only [List.length_cons]; omega) ?_) (λ h1=>ab ?_)
    ·rw [if_pos (decide_eq_true (h46.1 (by omega))),fk]
     exact ih q (f++[x]) (by omega) (by rw [List.length_append]; simp only [List.length_cons,List.length_nil]; omega)
    ·rw [if_neg (λ z=>h1 (by have:=h46.2 (of_decide_eq_true z); omega))]; rfl
def rf (s:Bytes)(f:List ae):d5×Bool :=
 let w:=cL (trimPrefix s bB)
 let v:=cL (w.2.drop 1)
 let k:=ii v.2
 if bR w.1=false∨eN w.1=true∨hasPrefix w.2 [46]=false then (si,false)
 else if bR v.1=false∨k.2.2=false∨k.2.1≠[] then (si,false)
 else (d5.mk (ao.mk f (hasPrefix s bB) w.1 v.1 k.1) true,true)
def Ef (o:(Bytes×List ae)⊕(d5×Bool)):d5×Bool:=match o with
 | .inl q=>rf q.1 q.2
 | .inr p=>p
def iE (s:Bytes):d5×Bool:=Ef (il (s.length+1) s [])
theorem tq:∀ (k:Nat) (s:Bytes) (f:List ae) (q:Bytes×List ae),il k s f=.inl q→q.1.length≤s.length
 | 0,s,f,q,h=>by cases h; exact Nat.le_refl _
 | k+1,s,f,q,h=>by
  unfold il at h
  split at h
  ·rename_i hp
   have hl:=uw s (qf hp)
   split at h
   ·split at h
    ·cases h
    ·split at h
     ·have:=tq k _ _ q h
      rw [List.length_drop] at this; omega
     ·cases h
   ·cases h
  ·cases h; exact Nat.le_refl _
theorem yY (s:Bytes)(hs:s.length≤900000000):Ev2 (λ n _=>j1 n s) (·=iE s):=by
 simp only [j1]
 have l:=zD (s.length+1) s [] (by omega) (by simp; omega)
 have hlen:=tq (s.length+1) s []
 unfold iE
 generalize il (s.length+1) s []=o at l hlen ⊢
 cases o with
 | inr p=>exact fW p (aH l) rfl
 | inl q =>
  obtain ⟨t,f⟩:=q
  have ht:=hlen (t,f) rfl
  simp only at ht
  refine dF (t,f) (aH l) ?_
  dsimp only
  show Ev2 _ (·=rf t f)
  unfold rf
  have htl:=mt t bB
  refine ai (trimPrefix t bB,hasPrefix t bB) ?_ ?_
  ·refine ai (hasPrefix t bB) (aR (uy t bB) rfl) ?_
   cases hp:hasPrefix t bB with
   | true =>
    obtain ⟨u,rfl⟩:=(dB _ _).1 hp
    have h5:(bB++u).length=5+u.length:=by rw [List.length_append]; rfl
    refine al rfl (ag (by omega) (ab ?_))
    rw [fk,iA]; rfl
   | false=>exact am (by simp) (ab (by rw [lz hp]))
  dsimp only
  have hw:=oq (trimPrefix t bB)
  refine ai _ (tQ _ (by omega)) ?_
  generalize cL (trimPrefix t bB)=W at hw ⊢
  obtain ⟨w,r⟩:=W
  dsimp only at hw ⊢
  refine ai (decide (bR w=false∨eN w=true∨hasPrefix r [46]=false)) ?_ ?_
  ·refine ai _ (kz w (by omega)) ?_
   cases bR w with
   | false=>exact al rfl (ab (by simp))
   | true =>
    refine am (by simp) (ai _ (Ap w) ?_)
    cases eN w with
    | true=>exact al rfl (ab (by simp))
    | false =>
     refine am (by simp) ?_
     cases r with
     | nil=>exact al rfl (ab (by rw [pre_nil]; simp))
     | cons c q =>
      have hb:byt (c::q) 0=(c.toNat:Int):=rfl
      have h46:c.toNat=46↔c=46:=kW (by decide)
      refine am (by simp) (ag (by simp only [List.length_cons]; omega) (ab (eqB ?_)))
      rw [hb,kx,Bool.not_eq_true',decide_eq_false_iff_not,decide_eq_true_eq,decide_eq_false_iff_not,← h46]
      constructor
      ·intro z; right; right; omega
      ·rintro (z | z | z)
       ·cases z
       ·cases z
       ·omega
  refine ar (λ h=>ab (by rw [if_pos (of_decide_eq_true h)]; rfl)) (λ h=>?_)
  have h:=λ z=>h (decide_eq_true z)
  rw [if_neg h]
  have hp:hasPrefix r [46]=true:=by
   cases hh:hasPrefix r [46] with
   | true=>rfl
   | false=>exact absurd (.inr (.inr hh)) h
  have h1:1≤r.length:=qf hp
  have e:sub r 1 (r.length:Int)=r.drop 1:=by rw [fk]; rfl
  rw [e]
  refine ag (by omega) ?_
  have hv:=oq (r.drop 1)
  rw [List.length_drop] at hv
  refine ai _ (tQ _ (by rw [List.length_drop]; omega)) ?_
  generalize cL (r.drop 1)=V at hv ⊢
  obtain ⟨v,z⟩:=V
  dsimp only at hv ⊢
  refine ai _ (wV _ (by omega)) ?_
  generalize ii z=K
  obtain ⟨k,y,b⟩:=K
  dsimp only
  refine ai (decide (bR v=false∨b=false∨y≠[])) ?_ ?_
  ·refine ai _ (kz v (by omega)) ?_
   cases bR v with
   | false=>exact al rfl (ab (by simp))
   | true =>
    refine am (by simp) ?_
    cases b with
    | false=>exact al rfl (ab (by simp))
    | true=>exact am (by simp) (ab (by simp))
  ·exact ar (λ h=>ab (by rw [if_pos (of_decide_eq_true h)]; rfl)) (λ h=>ab (by rw [if_neg (λ q=>h (decide_eq_true q))]))
def va (s:Bytes):ao×Int:=if (iE s).2=false∨(iE s).1.fWhole=false then (lJ,2) else if 16 < (iE s).1.fAddr.fModule.length then (lJ,4) else ((iE s).1.fAddr,0)
theorem ze (s:Bytes)(hs:s.length≤900000000):Ev2 (λ n _=>jY n s) (·=va s):=by
 simp only [jY]
 refine ai _ (yY s hs) ?_
 unfold va
 generalize iE s=p
 obtain ⟨p,b⟩:=p
 dsimp only
 refine ai (decide (b=false∨p.fWhole=false)) ?_ ?_
 ·cases b with
  | false=>exact al rfl (ab (by simp))
  | true=>exact am (by simp) (ab (by cases p.fWhole <;> simp))
 ·refine ar (λ h=>ab (by rw [if_pos (of_decide_eq_true h)]; rfl)) (λ h=>?_)
  rw [if_neg (λ q=>h (decide_eq_true q))]
  exact ar (λ h=>ab (by rw [if_pos (by omega)]; rfl)) (λ h=>ab (by rw [if_neg (by omega)]))
end Go.Ab.R06
end
section
set_option linter.unusedVariables false
set_option linter.unusedSimpArgs false
set_option linter.unnecessarySimpa false
namespace Go.Ab.R06
open Go.Proofs Go.Ab Go.Ab.RB Go.Lib
def Grm (s:Bytes)(a:ao):Prop:=(∀ x∈a.fModule,bR x.fName=true∧cw x.fKey=true)∧gN a.fType=true∧bR a.fName=true∧cw a.fKey=true∧gU a=s
theorem zx (s:Bytes):iN s=(lJ,2)∨∃ a,Grm s a∧iN s=if 16 < a.fModule.length then (lJ,4) else (a,0):=by
 unfold iN
 simp only
 have hL:=mK (s.length+1) [] (av.mk s false)
 generalize f0 (s.length+1) [] (av.mk s false)=p at hL ⊢
 obtain ⟨ms,r⟩:=p
 simp only at hL ⊢
 split
 ·exact .inl rfl
 ·rename_i h0
  right
  simp only [not_or] at h0
  obtain ⟨hb,hr,hk⟩:=h0
  have hb:(jI (cZ (gh (cZ (gP r bB).2).2 [46])).2).2.fbad=false:=by
   have:(fG r).2.2.2.2.fbad=false:=by simpa using hb
   exact this
  have hr:(jI (cZ (gh (cZ (gP r bB).2).2 [46])).2).2.frest=[]:=by
   have:(fG r).2.2.2.2.frest=[]:=by simpa using hr
   exact this
  have hk:gN (cZ (gP r bB).2).1=true:=by
   have:gN (fG r).2.1=true:=by simpa using hk
   exact this
  have s1:=qI hb
  have s2:=kZ s1.1
  have s3:=lj s2.1
  have s4:=kZ s3.1
  have hrb:r.fbad=false:=s4.1
  obtain ⟨_,new,e1,e2,e3⟩:=hL hrb
  simp only [List.nil_append] at e1
  subst e1
  have hdat:r.frest=(if (gP r bB).1=true then bB else [])++(gP r bB).2.frest:=by
   unfold gP
   simp only
   cases hp:hasPrefix r.frest bB with
   | true =>
    obtain ⟨t,ht⟩:=(dB _ _).1 hp
    rw [ht,iA]; rfl
   | false=>rw [lz hp]; rfl
  refine ⟨ao.mk ms (fG r).1 (fG r).2.1 (fG r).2.2.1 (fG r).2.2.2.1,⟨e3,hk,s2.2.1,s1.2.1,?_⟩,rfl⟩
  show ms.flatMap bU++((if (gP r bB).1=true then bB else [])++((cZ (gP r bB).2).1++[46]++(cZ (gh (cZ (gP r bB).2).2 [46])).1++aL (jI (cZ (gh (cZ (gP r bB).2).2 [46])).2).1))=s
  have x1:=s1.2.2
  rw [hr,List.append_nil] at x1
  rw [← x1,List.append_assoc,← s2.2.2,List.append_assoc,← s3.2,← s4.2.2,← hdat,← e2]
theorem yJ {a:ao}(h:gN a.fType=true):hasPrefix (a.fType++[46]++a.fName++aL a.fKey) bB=false:=by
 obtain ⟨hres,hid⟩:=(kH _).1 h
 have hns:∀ b∈a.fType,jC b=false:=λ b hb=>mT (kw hid hb)
 rw [← Bool.not_eq_true,dB]
 rintro ⟨u,hu⟩
 have:a.fType=[100,97,116,97]:=sG _ _ (a.fName++aL a.fKey) u (by decide) hns (by simpa [bB] using hu)
 rw [this] at hres
 exact absurd hres (by decide)
theorem BD {a:ao}(h:gN a.fType=true):hasPrefix ((if a.fData=true then bB else [])++(a.fType++[46]++a.fName++aL a.fKey)) iL=false:=by
 obtain ⟨hres,hid⟩:=(kH _).1 h
 have hns:∀ b∈a.fType,jC b=false:=λ b hb=>mT (kw hid hb)
 rw [← Bool.not_eq_true,dB]
 rintro ⟨u,hu⟩
 cases hd:a.fData with
 | true =>
  rw [hd] at hu
  have:=(List.cons.inj hu).1
  exact absurd this (by decide)
 | false =>
  rw [hd] at hu
  have:a.fType=[109,111,100,117,108,101]:=sG _ _ (a.fName++aL a.fKey) u (by decide) hns (by simpa [iL] using hu)
  rw [this] at hres
  exact absurd hres (by decide)
theorem uY (ms:List ae):ms.length≤(ms.flatMap bU).length:=by
 induction ms with
 | nil=>simp
 | cons x r ih =>
  have:1≤(bU x).length:=by simp only [bU,List.length_append,List.length_cons,List.length_nil]; omega
  simp only [List.flatMap_cons,List.length_append,List.length_cons]; omega
theorem qu:∀ (k:Nat) (s:Bytes) (f:List ae) (q:Bytes×List ae),il k s f=.inl q→∃ new,q.2=f++new∧s=new.flatMap bU++q.1∧∀ x∈new,bR x.fName=true∧cw x.fKey=true
 | 0,s,f,q,h=>by cases h; exact ⟨[],by simp,by simp,by simp⟩
 | k+1,s,f,q,h=>by
  unfold il at h
  split at h
  ·rename_i hp
   obtain ⟨t,rfl⟩:=(dB _ _).1 hp
   split at h
   ·rename_i hb
    split at h
    ·cases h
    ·split at h
     ·rename_i hd
      obtain ⟨u,hu⟩:=(dB _ _).1 hd
      rw [hu] at h
      obtain ⟨new,e1,e2,e3⟩:=qu k _ _ q h
      have hd7:(iL++t).drop 7=t:=rfl
      have hb:((ii (cL t).2).2.2&&bR (cL t).1)=true:=by
       have:=hb
       unfold ma at this
       rw [hd7] at this; exact this
      have hb1:(ii (cL t).2).2.2=true∧bR (cL t).1=true:=by simpa using hb
      have hst:ma (iL++t)=(ae.mk (cL t).1 (ii (cL t).2).1,(ii (cL t).2).2.1,(ii (cL t).2).2.2&&bR (cL t).1):=rfl
      rw [hst] at hu e1
      have hks:=su (s:=(cL t).2) (k:=(ii (cL t).2).1) (t:=(ii (cL t).2).2.1) (by rw [← hb1.1])
      refine ⟨ae.mk (cL t).1 (ii (cL t).2).1::new,by rw [e1]; simp,?_,?_⟩
      ·rw [List.flatMap_cons]
       show iL++t=(iL++(cL t).1++aL (ii (cL t).2).1++[46]++new.flatMap bU)++q.1
       have e2:u=new.flatMap bU++q.1:=e2
       have hu:(ii (cL t).2).2.1=[46]++u:=hu
       conv=>lhs; rw [lw t,hks.2,hu,e2]
       simp
      ·intro x hx
       rcases List.mem_cons.1 hx with rfl | hx
       ·exact ⟨hb1.2,hks.1⟩
       ·exact e3 x hx
     ·cases h
   ·cases h
  ·cases h; exact ⟨[],by simp,by simp,by simp⟩
theorem xJ {x:ae}(h:bR x.fName=true∧cw x.fKey=true)(T:Bytes):ma (iL++(x.fName++(aL x.fKey++([46]++T))))=(x,[46]++T,true):=by
 have hd:(iL++(x.fName++(aL x.fKey++([46]++T)))).drop 7=x.fName++(aL x.fKey++([46]++T)):=rfl
 unfold ma
 rw [hd,pG (t:=aL x.fKey++([46]++T)) h.1 (.inr (qm _ _ ⟨46,T,rfl,by decide⟩))]
 simp only
 rw [uN (t:=[46]++T) h.2 (rF (b:=46) (c:=91) (t:=T) (by decide)),h.1]
 rfl
theorem rD:∀ (new:List ae) (k:Nat) (f:List ae) (t:Bytes),new.length < k→(∀ x∈new,bR x.fName=true∧cw x.fKey=true)→hasPrefix t iL=false →
  il k (new.flatMap bU++t) f=.inl (t,f++new)
 | [],k,f,t,hk,_,ht=>by
  obtain ⟨k,rfl⟩:∃ k',k=k'+1:=⟨k - 1,by omega⟩
  unfold il
  rw [if_neg (by simp [ht])]; simp
 | x::r,k,f,t,hk,hx,ht=>by
  obtain ⟨k,rfl⟩:∃ k',k=k'+1:=⟨k - 1,by omega⟩
  have h1:=hx x List.mem_cons_self
  have ih:=rD r k (f++[x]) t (by simp only [List.length_cons] at hk; omega) (λ y hy=>hx y (List.mem_cons_of_mem _ hy)) ht
  generalize hT:r.flatMap bU++t=T at ih
  have e:(x::r).flatMap bU++t=iL++(x.fName++(aL x.fKey++([46]++T))):=by
   rw [List.flatMap_cons,List.append_assoc,hT]; simp [bU]
  unfold il
  rw [e,if_pos (iC _ _),xJ h1]
  simp only [if_true]
  have hd:([46]++T).drop 1=T:=rfl
  rw [if_neg (by simp),if_pos (iC [46] T),hd,ih]
  simp
theorem vD {s:Bytes}(h2:(iE s).2=true)(hw:(iE s).1.fWhole=true):Grm s (iE s).1.fAddr:=by
 unfold iE at h2 hw ⊢
 have hL:=qu (s.length+1) s []
 have hN:∀ p,il (s.length+1) s []=.inr p→p.1.fWhole=false:=by
  have:∀ (k:Nat) (s:Bytes) (f:List ae) (p:d5×Bool),il k s f=.inr p→p.1.fWhole=false:=by
   intro k
   induction k with
   | zero=>intro s f p h; cases h
   | succ k ih =>
    intro s f p h
    unfold il at h
    split at h
    ·split at h
     ·split at h
      ·cases h; rfl
      ·split at h
       ·exact ih _ _ _ h
       ·cases h; rfl
     ·cases h; rfl
    ·cases h
  exact this _ _ _
 generalize il (s.length+1) s []=o at h2 hw hL hN ⊢
 cases o with
 | inr p =>
  have:=hN p rfl
  have hw:p.1.fWhole=true:=hw
  rw [this] at hw; cases hw
 | inl q =>
  obtain ⟨t,f⟩:=q
  obtain ⟨new,e1,e2,e3⟩:=hL _ rfl
  simp only [List.nil_append] at e1 e2
  subst e1
  have h2:(rf t f).2=true:=h2
  show Grm s (rf t f).1.fAddr
  unfold rf at h2 ⊢
  simp only at h2 ⊢
  split at h2
  ·cases h2
  ·rename_i c1
   rw [if_neg c1]
   split at h2
   ·cases h2
   ·rename_i c2
    rw [if_neg c2]
    simp only [not_or] at c1 c2
    obtain ⟨a1,a2,a3⟩:=c1
    obtain ⟨b1,b2,b3⟩:=c2
    have a1:bR (cL (trimPrefix t bB)).1=true:=by simpa using a1
    have a2:eN (cL (trimPrefix t bB)).1=false:=by simpa using a2
    have a3:hasPrefix (cL (trimPrefix t bB)).2 [46]=true:=by simpa using a3
    obtain ⟨u,hu⟩:=(dB _ _).1 a3
    have hd:(cL (trimPrefix t bB)).2.drop 1=u:=by rw [hu]; rfl
    rw [hd] at b1 b2 b3 ⊢
    have b1:bR (cL u).1=true:=by simpa using b1
    have b2:(ii (cL u).2).2.2=true:=by simpa using b2
    have b3:(ii (cL u).2).2.1=[]:=by simpa using b3
    have hks:=su (s:=(cL u).2) (k:=(ii (cL u).2).1) (t:=(ii (cL u).2).2.1) (by rw [← b2])
    rw [b3,List.append_nil] at hks
    refine ⟨e3,(kH _).2 ⟨a2,a1⟩,b1,hks.1,?_⟩
    show f.flatMap bU++((if hasPrefix t bB=true then bB else [])++((cL (trimPrefix t bB)).1++[46]++(cL u).1++aL (ii (cL u).2).1))=s
    have hdat:t=(if hasPrefix t bB=true then bB else [])++trimPrefix t bB:=by
     cases hp:hasPrefix t bB with
     | true =>
      obtain ⟨t',ht⟩:=(dB _ _).1 hp
      rw [ht,iA]; rfl
     | false=>rw [lz hp]; rfl
    rw [← hks.2,List.append_assoc,← lw u,List.append_assoc,← hu,← lw,← hdat,← e2]
theorem vR {s:Bytes}{a:ao}(h:Grm s a):iE s=(d5.mk a true,true):=by
 obtain ⟨c2,c3,c4,c5,rfl⟩:=h
 obtain ⟨hres,hid⟩:=(kH _).1 c3
 have hnd:=yJ c3
 have hL:=rD a.fModule ((gU a).length+1) [] _ (by
  have:=uY a.fModule
  unfold gU
  rw [List.length_append]; omega) c2 (BD c3)
 have e:gU a=a.fModule.flatMap bU++((if a.fData=true then bB else [])++(a.fType++[46]++a.fName++aL a.fKey)):=rfl
 rw [← e] at hL
 unfold iE
 rw [hL]
 show rf _ _=_
 simp only [List.nil_append]
 have hp:hasPrefix ((if a.fData=true then bB else [])++(a.fType++[46]++a.fName++aL a.fKey)) bB=a.fData∧trimPrefix ((if a.fData=true then bB else [])++(a.fType++[46]++a.fName++aL a.fKey)) bB=a.fType++([46]++(a.fName++aL a.fKey)):=by
  cases a.fData with
  | true=>rw [if_pos rfl,iC,iA]; simp
  | false=>rw [if_neg (by simp),List.nil_append,hnd,lz hnd]; simp
 have hk:=uN (t:=[]) c5 (by decide)
 rw [List.append_nil] at hk
 unfold rf
 rw [hp.1,hp.2,pG (t:=[46]++(a.fName++aL a.fKey)) hid (.inr ⟨46,a.fName++aL a.fKey,rfl,by decide⟩)]
 simp only
 have hd:([46]++(a.fName++aL a.fKey)).drop 1=a.fName++aL a.fKey:=rfl
 rw [hd,pG c4 (rk _)]
 simp only
 rw [hk,hid,hres,iC,c4]
 simp
theorem A5 {s:Bytes}{a:ao}(h:Grm s a):iN s=if 16 < a.fModule.length then (lJ,4) else (a,0):=by
 obtain ⟨c2,c3,c4,c5,rfl⟩:=h
 obtain ⟨hres,hid⟩:=(kH _).1 c3
 have hnd:=yJ c3
 have hL:=rB a.fModule ((gU a).length+1) [] _ (by
  have:=uY a.fModule
  unfold gU
  rw [List.length_append]; omega) c2 (BD c3)
 unfold iN
 have e:gU a=a.fModule.flatMap bU++((if a.fData=true then bB else [])++(a.fType++[46]++a.fName++aL a.fKey)):=rfl
 rw [← e] at hL
 rw [hL]
 simp only [List.nil_append]
 have hT:fG (av.mk ((if a.fData=true then bB else [])++(a.fType++[46]++a.fName++aL a.fKey)) false)=(a.fData,a.fType,a.fName,a.fKey,av.mk [] false):=by
  have hh:gP (av.mk ((if a.fData=true then bB else [])++(a.fType++[46]++a.fName++aL a.fKey)) false) bB=(a.fData,av.mk (a.fType++([46]++(a.fName++aL a.fKey))) false):=by
   unfold gP
   simp only
   cases a.fData with
   | true=>rw [if_pos rfl,iC,iA]; simp
   | false=>rw [if_neg (by simp),List.nil_append,hnd,lz hnd]; simp
  have hk:=wH (t:=[]) c5 (by decide)
  rw [List.append_nil] at hk
  unfold fG
  simp only
  rw [hh]
  simp only
  rw [qB (t:=[46]++(a.fName++aL a.fKey)) hid (.inr ⟨46,a.fName++aL a.fKey,rfl,by decide⟩)]
  simp only
  rw [oy,qB c4 (rk _)]
  simp only
  rw [hk]
 rw [hT]
 simp only [c3]
 rw [if_neg (by simp)]
theorem zf (s:Bytes):va s=iN s:=by
 unfold va
 by_cases hc:(iE s).2=false∨(iE s).1.fWhole=false
 ·rw [if_pos hc]
  rcases zx s with h | ⟨a,ha,_⟩
  ·exact h.symm
  ·rw [vR ha] at hc
   rcases hc with q | q <;> cases q
 ·rw [if_neg hc]
  simp only [not_or,Bool.not_eq_false] at hc
  exact (A5 (vD hc.1 hc.2)).symm
theorem AD (a:ao)(ha:a.fModule.length≤100000):∀ (k i:Nat) (f:List ae),i+k=a.fModule.length→f.length=i→Ev2 (λ _ m=>eY a m (i:Int) f) (·=f++(a.fModule.drop i).map km):=by
 intro k
 induction k with
 | zero =>
  intro i f hi hf
  refine ap ?_
  simp only [eY]
  refine am (by omega) (ab ?_)
  rw [List.drop_of_length_le (by omega)]; simp
 | succ k ih =>
  intro i f hi hf
  refine ap ?_
  simp only [eY]
  have h1:i < a.fModule.length:=by omega
  refine al (by omega) (ag (by omega) ?_)
  rw [d7 _ _ h1]
  refine ag (by simp only [List.length_cons,List.length_nil]; omega) (ag (aF (by omega) (by omega)) ?_)
  have:=ih (i+1) (f++[km a.fModule[i]]) (by omega) (by simp; omega)
  rw [Int.natCast_add,Int.natCast_one] at this
  refine dZ this λ r hr=>?_
  rw [hr,List.drop_eq_getElem_cons h1,List.append_assoc]; rfl
theorem Ae (a:ao)(ha:Sm a):Ev2 (λ n _=>kY n a) (·=ta a):=by
 simp only [kY]
 have l:=AD a ha.1 a.fModule.length 0 [] (by omega) rfl
 rw [List.drop_zero,List.nil_append] at l
 exact ai _ (aH l) (ab rfl)
theorem Cm (a:ao):Sk (ta a):=by
 refine ⟨by simp [ta,jR],λ x hx=>?_⟩
 obtain ⟨y,hy,rfl⟩:=List.mem_map.1 hx
 simp [km,jR]
theorem sR (s:Bytes)(hs:s.length≤800000000):Ev2 (λ n _=>g7 n s) (·=om s):=by
 simp only [g7]
 unfold om
 refine ai _ (ze s (by omega)) ?_
 rw [zf]
 have hp:=@rz s
 generalize iN s=p at hp ⊢
 obtain ⟨a,e⟩:=p
 simp only
 refine ar (λ h=>?_) (λ h=>ab (by rw [if_neg h]))
 subst h
 rw [if_pos rfl]
 have ha:=(hp rfl).2.2
 exact ai _ (Ae a ha) (ai _ (vU _ ha.bare (Cm a)) (ab rfl))
end Go.Ab.R06
end
section
set_option linter.unusedVariables false
set_option linter.unusedSimpArgs false
set_option linter.unnecessarySimpa false
namespace Go.Ab.R06
open Go.Proofs Go.Ab Go.Ab.RB
attribute [local irreducible] awp gO aY aB cD AV.sub M dh
def cq (n:Nat)(c_0:aa):Option Bytes :=
 (ez n c_0.fAddr).bind λ r1 =>
 if r1.2=0 then
  some r1.1
 else
  some c_0.fAddr
set_option maxHeartbeats 4000000 in
theorem gJ (n:Nat)(c_0:aa)(r:Bytes)(h0:cq n c_0=some r):aB Tryz.prog 27 [.agg (aa.cs c_0)] (·=.p (eS r)):=by
 unfold cq at h0
 refine aU good Tryz.func27 rfl rfl rfl λ w0=>mP (λ v:Bytes=>.p (eS v)) ?_
 refine nx 9 rfl (bd h0 λ r1 e2 h0=>?_)
 refine oK (pS _ c_0.fAddr _ e2) rfl ⟨sr,trivial⟩ Tryz.call36 rfl (nx 12 rfl ?_)
 refine fN [12] h0 rfl (λ c3 h0=>?_) λ c3 h0=>?_
 ·exact nx 8 rfl (mQ (oi h0) rfl (sr))
 exact nx 8 rfl (mQ (oi h0) rfl (sr))
def eh (n_1:Int):Option (List Bytes) :=
 if n_1 < 0 then
  none
 else
  (
    ck (inR (0 - 0)) <|
    ck (inR (n_1 - (0 - 0))) <|
    if 0 < n_1 - (0 - 0) then
     ck ((0:Int)≤0∧0≤(0:Int)) <|
     ck (0 < n_1 - (0 - 0)∧(n_1 - (0 - 0))*16≤(140737488355328:Int)) <|
     ck ((0:Int)≤0∧0≤((n_1 - (0 - 0)).toNat:Int)) <|
     some ([]:List Bytes)
    else
     some []
   : Option (List Bytes)).bind λ s8 =>
  some s8
set_option maxHeartbeats 4000000 in
theorem kf (n_1:Int)(r:(List Bytes))(h0:eh n_1=some r):cD Tryz.prog 38 [.p (.val (.slice none 0 0)),.p (eI n_1)] [] (λ x y=>x=.vec 2000000 1 0 (r.map eS)∧y=[]):=by
 unfold eh at h0
 refine jk good [800000] [] Tryz.func38 rfl rfl rfl rfl rfl λ w0 F=>mPo (λ v:(List Bytes)=>.vec 2000000 1 0 (v.map eS)) (λ v=>[]) ?_
 refine nx 10 rfl (fD [6] h0 rfl (λ c1 h0=>?_) λ c1 h0=>?_)
 ·refine nx 2 rfl ?_
  cases h0
 refine nx 3 rfl (bd h0 λ o10 h1 h0=>?_)
 refine kN o10 (λ v11=>⟨[(0,.vec 22 1 0 (v11.map eS))],[]⟩) ?_ ?_
 ·exact nx 7 rfl (mQo (oi h0) (br (cn 22 800000 rfl rfl rfl rfl rfl) (ca _)) rfl rfl rfl rfl (sr) trivial)
 refine nx 4 rfl (mO rfl (uL rfl rfl rfl rfl rfl rfl ?_))
 refine nx 1 rfl (mO rfl (uG rfl rfl rfl rfl rfl rfl ?_))
 refine oA h1 rfl rfl λ hk2 h1=>oA h1 rfl rfl λ hk3 h1=>nx 7 rfl (fD [16] h1 rfl (λ c4 h1=>?_) λ c4 h1=>?_)
 ·refine nx 4 rfl (mO rfl (uL rfl rfl rfl rfl rfl rfl ?_))
  refine cc' h1 λ hk5 h1=>mO rfl (vK rfl rfl rfl rfl rfl rfl rfl rfl hk5 ?_)
  refine nx 1 rfl (cc' h1 λ hk6 h1=>?_)
  refine mO rfl (xA rfl rfl rfl rfl rfl rfl rfl rfl rfl rfl rfl rfl rfl rfl hk6 rfl rfl ?_)
  refine nx 1 rfl (mO rfl (uG rfl rfl rfl rfl rfl rfl ?_))
  refine cc' h1 λ hk7 h1=>mO rfl (wj rfl rfl rfl rfl rfl rfl rfl rfl hk7 ?_)
  refine mG (vg (j:=25) rfl rfl rfl) (nx 2 rfl ?_)
  exact eX _ (oi h1).symm (gE rfl rfl)
 exact nx 2 rfl (eX _ (oi h1).symm (aI (cb ⟨⟨_,rfl,AV.sub_nilvec _ _ _⟩,trivial⟩ trivial)))
def aM (slices_0:List (List Bytes)):Nat→Int→Int→Option Int
 | 0,_,_=>none
 | m+1,size8,t9 =>
 if t9 < (slices_0.length:Int) then
  ck ((0:Int)≤t9∧t9 < (slices_0.length:Int)) <|
  ck (inR (size8+((lat slices_0 t9).length:Int))) <|
  if size8+((lat slices_0 t9).length:Int) < 0 then
   none
  else
   ck (inR (t9+1)) <|
   aM slices_0 m (size8+((lat slices_0 t9).length:Int)) (t9+1)
 else
  some size8
def aN (slices_0:List (List Bytes)):Nat→(List Bytes)→Int→Option (List Bytes)
 | 0,_,_=>none
 | m+1,newslice26,t27 =>
 if t27 < (slices_0.length:Int) then
  ck ((0:Int)≤t27∧t27 < (slices_0.length:Int)) <|
  ck ((newslice26.length+(lat slices_0 t27).length)*16≤140737488355328) <|
  ck (inR (t27+1)) <|
  aN slices_0 m (newslice26++(lat slices_0 t27)) (t27+1)
 else
  some newslice26
def bH (n:Nat)(slices_0:List (List Bytes)):Option (List Bytes) :=
 (aM slices_0 n 0 0).bind λ size17 =>
 (eh size17).bind λ r18 =>
 (aN slices_0 n r18 0).bind λ newslice34 =>
 some newslice34
set_option maxHeartbeats 4000000 in
theorem jE (n:Nat)(slices_0:List (List Bytes))(r:(List Bytes))(h0:bH n slices_0=some r):aB Tryz.prog 30 [eL (eL eS) slices_0] (·=.p (eL eS r)):=by
 unfold bH at h0
 refine aU good Tryz.func30 rfl rfl rfl λ w0=>mP (λ v:(List Bytes)=>.p (eL eS v)) ?_
 refine nx 12 rfl (oLl (f:=(eL eS)) rfl rfl ?_)
 refine nx 3 rfl (bd h0 λ o37 h1 h0=>?_)
 refine kE 0 o37 (λ v38=>⟨[(0,.p (eL (eL eS) slices_0)),(3,.p (eI v38))],[]⟩) ?_ ?_
 ·refine nx 4 rfl (bd h0 λ r18 e19 h0=>?_)
  refine mO rfl (bF [] [] 101000 101001 (kf o37 _ e19) rfl rfl rfl rfl rfl ⟨sr,sr,trivial⟩ rfl rfl trivial rfl rfl rfl rfl rfl rfl rfl rfl Tryz.call38 rfl rfl ?_)
  refine nx 6 rfl (oLl (f:=(eL eS)) rfl rfl ?_)
  refine nx 3 rfl (bd h0 λ o39 h1 h0=>?_)
  refine kE 2 o39 (λ v40=>⟨[(6,.vec 101000 1 0 (v40.map eS))],[]⟩) ?_ ?_
  ·exact nx 7 rfl (mQ (oi h0) rfl (AV.sub_vec _ _ _ _))
  refine lG (λ (q41:(List Bytes)×Int)=>⟨[(6,.vec 101000 1 0 (q41.1.map eS)),(25,.p (eL (eL eS) slices_0)),(26,.p (eI (slices_0.length:Int))),(27,.p (eI q41.2))],[]⟩) (λ m (q41:(List Bytes)×Int)=>aN slices_0 m q41.1 q41.2) (λ _=>rfl) (r18,0) h1 (gE rfl rfl) ?_
  rintro m ⟨newslice26,t27⟩ h1
  replace h1:aN slices_0 (m+1) newslice26 t27=some o39:=h1
  rw [aN] at h1
  refine nx 5 rfl (fD [28] h1 rfl (λ c28 h1=>?_) λ c28 h1=>?_)
  ·refine nx 6 rfl (oE h1 (λ _=>rfl) rfl rfl (λ _=>rfl) λ hk29 h1=>?_)
   refine nx 6 rfl (cc' h1 λ hk30 h1=>?_)
   refine mO rfl (fp eS newslice26 (lat slices_0 t27) rfl rfl rfl rfl rfl rfl rfl rfl rfl rfl rfl rfl rfl (λ _=>rfl) rfl rfl rfl rfl hk30 ?_)
   refine nx 3 rfl (oA h1 rfl rfl λ hk31 h1=>?_)
   exact nx 2 rfl (eX (newslice26++(lat slices_0 t27),t27+1) h1 (br (cn 33 101000 rfl rfl rfl rfl rfl) (gE rfl rfl)))
  exact nx 2 rfl (eXi _ (oi h1).symm (gE rfl rfl))
 refine lG (λ (q42:Int×Int)=>⟨[(0,.p (eL (eL eS) slices_0)),(3,.p (eI q42.1)),(9,.p (eL (eL eS) slices_0)),(10,.p (eI (slices_0.length:Int))),(11,.p (eI q42.2))],[]⟩) (λ m (q42:Int×Int)=>aM slices_0 m q42.1 q42.2) (λ _=>rfl) (0,0) h1 (gE rfl rfl) ?_
 rintro m ⟨size8,t9⟩ h1
 replace h1:aM slices_0 (m+1) size8 t9=some o37:=h1
 rw [aM] at h1
 refine nx 5 rfl (fD [12] h1 rfl (λ c10 h1=>?_) λ c10 h1=>?_)
 ·refine nx 6 rfl (oE h1 (λ _=>rfl) rfl rfl (λ _=>rfl) λ hk11 h1=>?_)
  refine nx 7 rfl (oLl (f:=eS) rfl rfl ?_)
  refine oA h1 rfl rfl λ hk12 h1=>nx 7 rfl (fD [20] h1 rfl (λ c13 h1=>?_) λ c13 h1=>?_)
  ·refine nx 2 rfl ?_
   cases h1
  refine nx 3 rfl (oA h1 rfl rfl λ hk14 h1=>?_)
  exact nx 2 rfl (eX (size8+((lat slices_0 t9).length:Int),t9+1) h1 (gE rfl rfl))
 exact nx 2 rfl (eXi _ (oi h1).symm (gE rfl rfl))
def bK (n:Nat)(l_0:List aa):Nat→(List (Bytes×List Int))→(List Int)→Int→Option ((List (Bytes×List Int))×(List Int))
 | 0,_,_,_=>none
 | m+1,at17,todo18,t19 =>
 if t19 < (l_0.length:Int) then
  (
    ck ((0:Int)≤t19∧t19 < (l_0.length:Int)) <|
    (cq n (lat l_0 t19)).bind λ r22 =>
    ck ((((dC at17 r22).getD []).length+[t19].length)*8≤140737488355328) <|
    (
      if (lat l_0 t19).fAction=3 then
       some ((lat l_0 t19).fCreateFirst)
      else
       some false
     : Option Bool).bind λ t26 =>
    if t26=true then
     ck ((todo18.length+[t19].length)*8≤140737488355328) <|
     some (mH at17 r22 (((dC at17 r22).getD [])++[t19]),todo18++[t19])
    else
     some (mH at17 r22 (((dC at17 r22).getD [])++[t19]),todo18)
   : Option ((List (Bytes×List Int))×(List Int))).bind λ q221 =>
  ck (inR (t19+1)) <|
  bK n l_0 m q221.1 q221.2 (t19+1)
 else
  some (at17,todo18)
def bM (at36:List (Bytes×List Int))(r136:(List Bytes))(t176:Int):Nat→(List Int)→Int→(List Bool)→Option ((List Int)×(List Bool))
 | 0,_,_,_=>none
 | m+1,todo193,t194,l195 =>
 if t194 < (((dC at36 (lat r136 t176)).getD []).length:Int) then
  (
    ck ((0:Int)≤t194∧t194 < (((dC at36 (lat r136 t176)).getD []).length:Int)) <|
    ck ((0:Int)≤lat ((dC at36 (lat r136 t176)).getD []) t194∧lat ((dC at36 (lat r136 t176)).getD []) t194 < (l195.length:Int)) <|
    if (!(lat l195 (lat ((dC at36 (lat r136 t176)).getD []) t194)))=true then
     ck ((0:Int)≤lat ((dC at36 (lat r136 t176)).getD []) t194∧lat ((dC at36 (lat r136 t176)).getD []) t194 < (l195.length:Int)) <|
     ck ((todo193.length+([lat ((dC at36 (lat r136 t176)).getD []) t194]).length)*8≤140737488355328) <|
     some (todo193++([lat ((dC at36 (lat r136 t176)).getD []) t194]),l195.set ((lat ((dC at36 (lat r136 t176)).getD []) t194).toNat) true)
    else
     some (todo193,l195)
   : Option ((List Int)×(List Bool))).bind λ q226 =>
  ck (inR (t194+1)) <|
  bM at36 r136 t176 m q226.1 (t194+1) q226.2
 else
  some (todo193,l195)
def bN (n:Nat)(at36:List (Bytes×List Int))(r136:(List Bytes)):Nat→(List Int)→Int→(List Bool)→Option ((List Int)×(List Bool))
 | 0,_,_,_=>none
 | m+1,todo175,t176,l177 =>
 if t176 < (r136.length:Int) then
  ck ((0:Int)≤t176∧t176 < (r136.length:Int)) <|
  (bM at36 r136 t176 n todo175 0 l177).bind λ q225 =>
  ck (inR (t176+1)) <|
  bN n at36 r136 m q225.1 (t176+1) q225.2
 else
  some (todo175,l177)
def bP (n:Nat)(l_0:List aa)(at36:List (Bytes×List Int)):Nat→(List Int)→(List Bool)→Option (List Bool)
 | 0,_,_=>none
 | m+1,todo128,l129 =>
 if 0 < (todo128.length:Int) then
  ck (inR ((todo128.length:Int) - 1)) <|
  ck ((0:Int)≤(todo128.length:Int) - 1∧(todo128.length:Int) - 1 < (todo128.length:Int)) <|
  ck ((0:Int)≤lat todo128 ((todo128.length:Int) - 1)∧lat todo128 ((todo128.length:Int) - 1) < (l_0.length:Int)) <|
  ck (inR ((todo128.length:Int) - 1)) <|
  ck ((0:Int)≤(todo128.length:Int) - 1∧(todo128.length:Int) - 1≤(todo128.length:Int)) <|
  (bH n [(lat l_0 (lat todo128 ((todo128.length:Int) - 1))).fDeps,(lat l_0 (lat todo128 ((todo128.length:Int) - 1))).fOldDeps]).bind λ r136 =>
  (bN n at36 r136 n (todo128.take ((todo128.length:Int) - 1).toNat) 0 l129).bind λ q224 =>
  bP n l_0 at36 m q224.1 q224.2
 else
  some l129
def dV (n:Nat)(l_0:List aa):Option (List Bool) :=
 (bK n l_0 n ([]:List (Bytes×List Int)) ([]:List Int) 0).bind λ q220 =>
 ck ((0:Int)≤(l_0.length:Int)∧(l_0.length:Int)≤9223372036854775807∧(1:Int)*(l_0.length:Int)≤281474976710656) <|
 (bP n l_0 q220.1 n q220.2 (List.replicate (l_0.length:Int).toNat (false:Bool))).bind λ l219 =>
 some l219
set_option maxHeartbeats 4000000 in
theorem pf (n:Nat)(l_0:List aa)(r:(List Bool))(h0:dV n l_0=some r):aB Tryz.prog 20 [eL ac l_0] (·=.p (eL eB r)):=by
 unfold dV at h0
 refine aU good Tryz.func20 rfl rfl rfl λ w0=>mP (λ v:(List Bool)=>.p (eL eB v)) ?_
 refine nx 6 rfl (mO rfl (ue 1 0 rfl rfl rfl rfl rfl ?_))
 refine nx 5 rfl (mG (kL 4 rfl (AV.sub_nilstk 600004 1)) ?_)
 refine nx 5 rfl (oLl (f:=ac) rfl rfl ?_)
 refine nx 3 rfl (bd h0 λ o227 h1 h0=>?_)
 refine kE 0 o227 (λ v228=>⟨[(0,.p (eL ac l_0)),(3,.mpr 14 1 0 none (v228.1.map λ p=>(p.1,p.2.map eI))),(4,.stk 600004 1 (v228.2.map eI))],[]⟩) ?_ ?_
 ·refine nx 4 rfl (oLl (f:=ac) rfl rfl ?_)
  refine cc' h0 λ hk38 h0=>mO rfl (sd eB (false:Bool) rfl rfl rfl rfl rfl rfl rfl rfl rfl rfl rfl hk38 ?_)
  refine nx 4 rfl (bd h0 λ o229 h1 h0=>?_)
  refine kE 2 o229 (λ v230=>⟨[(8,.arr 46 1 0 v230.length)],[(46,(v230.map eB).map .p)]⟩) ?_ ?_
  ·refine nx 6 rfl (mG (pk [2,8,97] (f:=eB) (l:=o229) rfl rfl rfl ⟨⟨_,rfl,rfl⟩,⟨_,rfl,rfl⟩,⟨_,rfl,rfl⟩,trivial⟩ (λ _=>⟨rfl,rfl⟩)) ?_)
   exact nx 1 rfl (mQ (oi h0) rfl (sr))
  refine lG (λ (q231:(List Int)×(List Bool))=>⟨[(0,.p (eL ac l_0)),(3,.mpr 14 1 0 none (o227.1.map λ p=>(p.1,p.2.map eI))),(4,.stk 600004 1 (q231.1.map eI)),(8,.arr 46 1 0 q231.2.length)],[(46,(q231.2.map eB).map .p)]⟩) (λ m (q231:(List Int)×(List Bool))=>bP n l_0 o227.1 m q231.1 q231.2) (λ _=>rfl) (o227.2,List.replicate (l_0.length:Int).toNat (false:Bool)) h1 (aI (cb ⟨er rfl,er rfl,er rfl,⟨_,rfl,AV.sub_of_eq (by first | rfl | (simp; done) | (simp [AV.dem]; rfl))⟩,trivial⟩ ⟨⟨_,rfl,aG _⟩,trivial⟩)) ?_
  rintro m ⟨todo128,l129⟩ h1
  replace h1:bP n l_0 o227.1 (m+1) todo128 l129=some o229:=h1
  rw [bP] at h1
  refine nx 4 rfl (mO rfl (sX eI todo128 rfl rfl rfl rfl rfl rfl ?_))
  refine nx 2 rfl (fD [49] h1 rfl (λ c130 h1=>?_) λ c130 h1=>?_)
  ·refine nx 8 rfl (mO rfl (sX eI todo128 rfl rfl rfl rfl rfl rfl ?_))
   refine oA h1 rfl rfl λ hk131 h1=>cc' h1 λ hk132 h1=>mO rfl (tW eI todo128 rfl rfl rfl rfl rfl rfl rfl rfl rfl hk132 ?_)
   refine mO rfl (zv eI (λ _=>⟨rfl,rfl⟩) todo128 4 rfl rfl rfl rfl rfl rfl rfl hk132 ?_)
   refine oE h1 aa.cells_eq rfl rfl (λ _=>rfl) λ hk133 h1=>nx 1 rfl (mO rfl (vL rfl rfl rfl rfl rfl ?_))
   refine mG (zi (show ry _ _=_ from (by repeat (first | exact uC _ | apply demOb_drop rfl | apply nb rfl (xE _ _) | apply nb rfl rfl)))) (nx 6 rfl ?_)
   refine mO rfl (sX eI todo128 rfl rfl rfl rfl rfl rfl ?_)
   refine oA h1 rfl rfl λ hk134 h1=>cc' h1 λ hk135 h1=>mO rfl (w7 eI todo128 rfl rfl rfl rfl rfl rfl rfl rfl hk135 rfl ?_)
   refine nx 8 rfl (mO rfl (bS (eL eS) [(lat l_0 (lat todo128 ((todo128.length:Int) - 1))).fDeps,(lat l_0 (lat todo128 ((todo128.length:Int) - 1))).fOldDeps] rfl rfl rfl rfl rfl rfl rfl rfl rfl rfl rfl rfl rfl rfl ?_))
   refine bd h1 λ r136 e137 h1=>oK (jE _ [(lat l_0 (lat todo128 ((todo128.length:Int) - 1))).fDeps,(lat l_0 (lat todo128 ((todo128.length:Int) - 1))).fOldDeps] _ e137) rfl ⟨sr,trivial⟩ Tryz.call30 rfl (oLl (f:=eS) rfl rfl ?_)
   refine nx 3 rfl (bd h1 λ o232 h2 h1=>?_)
   refine kE 4 o232 (λ v233=>⟨[(0,.p (eL ac l_0)),(3,.mpr 14 1 0 none (o227.1.map λ p=>(p.1,p.2.map eI))),(4,.stk 600004 1 (v233.1.map eI)),(8,.arr 46 1 0 v233.2.length)],[(46,(v233.2.map eB).map .p)]⟩) ?_ ?_
   ·exact nx 1 rfl (eX (o232.1,o232.2) h1 (aI (cb ⟨er rfl,er rfl,er rfl,⟨_,rfl,AV.sub_of_eq (by first | rfl | (simp; done) | (simp [AV.dem]; rfl))⟩,trivial⟩ ⟨⟨_,rfl,aG _⟩,trivial⟩)))
   refine lG (λ (q234:(List Int)×Int×(List Bool))=>⟨[(0,.p (eL ac l_0)),(3,.mpr 14 1 0 none (o227.1.map λ p=>(p.1,p.2.map eI))),(4,.stk 600004 1 (q234.1.map eI)),(8,.arr 46 1 0 q234.2.2.length),(69,.p (eL eS r136)),(70,.p (eI (r136.length:Int))),(71,.p (eI q234.2.1))],[(46,(q234.2.2.map eB).map .p)]⟩) (λ m (q234:(List Int)×Int×(List Bool))=>bN n o227.1 r136 m q234.1 q234.2.1 q234.2.2) (λ _=>rfl) (todo128.take ((todo128.length:Int) - 1).toNat,0,l129) h2 (aI (cb ⟨er rfl,er rfl,er rfl,⟨_,rfl,AV.sub_of_eq (by first | rfl | (simp; done) | (simp [AV.dem]; rfl))⟩,er rfl,er rfl,er rfl,trivial⟩ ⟨⟨_,rfl,aG _⟩,trivial⟩)) ?_
   rintro m ⟨todo175,t176,l177⟩ h2
   replace h2:bN n o227.1 r136 (m+1) todo175 t176 l177=some o232:=h2
   rw [bN] at h2
   refine nx 5 rfl (fD [72] h2 rfl (λ c178 h2=>?_) λ c178 h2=>?_)
   ·refine nx 6 rfl (oE h2 (λ _=>rfl) rfl rfl (λ _=>rfl) λ hk179 h2=>?_)
    refine nx 7 rfl (mO rfl (zM eI o227.1 rfl rfl rfl rfl rfl rfl rfl (by kernel_rfl) rfl rfl ?_))
    refine oLl (f:=eI) rfl rfl (nx 3 rfl ?_)
    refine bd h2 λ o235 h3 h2=>kE 6 o235 (λ v236=>⟨[(0,.p (eL ac l_0)),(3,.mpr 14 1 0 none (o227.1.map λ p=>(p.1,p.2.map eI))),(4,.stk 600004 1 (v236.1.map eI)),(8,.arr 46 1 0 v236.2.length),(69,.p (eL eS r136)),(70,.p (eI (r136.length:Int))),(71,.p (eI t176))],[(46,(v236.2.map eB).map .p)]⟩) ?_ ?_
    ·refine nx 2 rfl (oA h2 rfl rfl λ hk211 h2=>?_)
     exact nx 2 rfl (eX (o235.1,t176+1,o235.2) h2 (aI (cb ⟨er rfl,er rfl,er rfl,⟨_,rfl,AV.sub_of_eq (by first | rfl | (simp; done) | (simp [AV.dem]; rfl))⟩,er rfl,er rfl,er rfl,trivial⟩ ⟨⟨_,rfl,aG _⟩,trivial⟩)))
    refine lG (λ (q237:(List Int)×Int×(List Bool))=>⟨[(0,.p (eL ac l_0)),(3,.mpr 14 1 0 none (o227.1.map λ p=>(p.1,p.2.map eI))),(4,.stk 600004 1 (q237.1.map eI)),(8,.arr 46 1 0 q237.2.2.length),(69,.p (eL eS r136)),(70,.p (eI (r136.length:Int))),(71,.p (eI t176)),(77,.p (eL eI ((dC o227.1 (lat r136 t176)).getD []))),(78,.p (eI (((dC o227.1 (lat r136 t176)).getD []).length:Int))),(79,.p (eI q237.2.1))],[(46,(q237.2.2.map eB).map .p)]⟩) (λ m (q237:(List Int)×Int×(List Bool))=>bM o227.1 r136 t176 m q237.1 q237.2.1 q237.2.2) (λ _=>rfl) (todo175,0,l177) h3 (aI (cb ⟨er rfl,er rfl,er rfl,⟨_,rfl,AV.sub_of_eq (by first | rfl | (simp; done) | (simp [AV.dem]; rfl))⟩,er rfl,er rfl,er rfl,er rfl,er rfl,er rfl,trivial⟩ ⟨⟨_,rfl,aG _⟩,trivial⟩)) ?_
    rintro m ⟨todo193,t194,l195⟩ h3
    replace h3:bM o227.1 r136 t176 (m+1) todo193 t194 l195=some o235:=h3
    rw [bM] at h3
    refine nx 5 rfl (fD [80] h3 rfl (λ c196 h3=>?_) λ c196 h3=>?_)
    ·refine nx 3 rfl (bd h3 λ o238 h4 h3=>?_)
     refine kN o238 (λ v239=>⟨[(0,.p (eL ac l_0)),(3,.mpr 14 1 0 none (o227.1.map λ p=>(p.1,p.2.map eI))),(4,.stk 600004 1 (v239.1.map eI)),(8,.arr 46 1 0 v239.2.length),(69,.p (eL eS r136)),(70,.p (eI (r136.length:Int))),(71,.p (eI t176)),(77,.p (eL eI ((dC o227.1 (lat r136 t176)).getD []))),(78,.p (eI (((dC o227.1 (lat r136 t176)).getD []).length:Int))),(79,.p (eI t194))],[(46,(v239.2.map eB).map .p)]⟩) ?_ ?_
     ·refine nx 2 rfl (oA h3 rfl rfl λ hk205 h3=>?_)
      exact nx 2 rfl (eX (o238.1,t194+1,o238.2) h3 (aI (cb ⟨er rfl,er rfl,er rfl,⟨_,rfl,AV.sub_of_eq (by first | rfl | (simp; done) | (simp [AV.dem]; rfl))⟩,er rfl,er rfl,er rfl,er rfl,er rfl,er rfl,trivial⟩ ⟨⟨_,rfl,aG _⟩,trivial⟩)))
     refine nx 3 rfl (oE h4 (λ _=>rfl) rfl rfl (λ _=>rfl) λ hk197 h4=>?_)
     refine nx 7 rfl (cc' h4 λ hk198 h4=>?_)
     refine mO rfl (bT rfl rfl rfl rfl rfl rfl rfl rfl rfl hk198 ?_)
     refine mO rfl (ge (default:Bool) (f:=eB) (l:=l195) rfl rfl rfl rfl rfl rfl rfl (by have:=hk198; omega) ?_)
     refine nx 2 rfl (fB [87] h4 rfl (λ c199 h4=>?_) λ c199 h4=>?_)
     ·refine nx 5 rfl (cc' h4 λ hk200 h4=>?_)
      refine mO rfl (bT rfl rfl rfl rfl rfl rfl rfl rfl rfl hk200 ?_)
      refine mO rfl (oN (f:=eB) (l:=l195) (b:=true) rfl rfl rfl rfl rfl rfl rfl rfl (by have:=hk200; omega) ?_)
      refine nx 4 rfl (mO rfl (bS eI [lat ((dC o227.1 (lat r136 t176)).getD []) t194] rfl rfl rfl rfl rfl rfl rfl rfl rfl rfl rfl rfl rfl rfl ?_))
      refine cc' h4 λ hk201 h4=>?_
      skip; refine mO rfl (wc eI (λ _=>⟨rfl,rfl⟩) todo193 ([lat ((dC o227.1 (lat r136 t176)).getD []) t194]) rfl rfl rfl rfl rfl rfl rfl rfl rfl rfl rfl rfl (Nat.zero_lt_succ _) rfl rfl rfl hk201 rfl (by repeat (first | exact rfl | apply yA rfl | apply dmO_drop rfl | apply dmO_one rfl rfl)) ?_)
      exact nx 2 rfl (eX _ (oi h4).symm (aI (cb ⟨er rfl,er rfl,er rfl,⟨_,rfl,AV.sub_of_eq (by first | rfl | (simp; done) | (simp [AV.dem]; rfl))⟩,er rfl,er rfl,er rfl,er rfl,er rfl,er rfl,trivial⟩ ⟨⟨_,rfl,aG _⟩,trivial⟩)))
     exact nx 2 rfl (eX _ (oi h4).symm (aI (cb ⟨er rfl,er rfl,er rfl,⟨_,rfl,AV.sub_of_eq (by first | rfl | (simp; done) | (simp [AV.dem]; rfl))⟩,er rfl,er rfl,er rfl,er rfl,er rfl,er rfl,trivial⟩ ⟨⟨_,rfl,aG _⟩,trivial⟩)))
    exact nx 2 rfl (eXi _ (oi h3).symm (aI (cb ⟨er rfl,er rfl,er rfl,⟨_,rfl,AV.sub_of_eq (by first | rfl | (simp; done) | (simp [AV.dem]; rfl))⟩,er rfl,er rfl,er rfl,trivial⟩ ⟨⟨_,rfl,aG _⟩,trivial⟩)))
   exact nx 2 rfl (eXi _ (oi h2).symm (aI (cb ⟨er rfl,er rfl,er rfl,⟨_,rfl,AV.sub_of_eq (by first | rfl | (simp; done) | (simp [AV.dem]; rfl))⟩,trivial⟩ ⟨⟨_,rfl,aG _⟩,trivial⟩)))
  exact nx 2 rfl (eXi _ (oi h1).symm (aI (cb ⟨⟨_,rfl,AV.sub_of_eq (by first | rfl | (simp; done) | (simp [AV.dem]; rfl))⟩,trivial⟩ ⟨⟨_,rfl,aG _⟩,trivial⟩)))
 refine lG (λ (q240:(List (Bytes×List Int))×(List Int)×Int)=>⟨[(0,.p (eL ac l_0)),(3,.mpr 14 1 0 none (q240.1.map λ p=>(p.1,p.2.map eI))),(4,.stk 600004 1 (q240.2.1.map eI)),(15,.p (eL ac l_0)),(16,.p (eI (l_0.length:Int))),(17,.p (eI q240.2.2))],[]⟩) (λ m (q240:(List (Bytes×List Int))×(List Int)×Int)=>bK n l_0 m q240.1 q240.2.1 q240.2.2) (λ _=>rfl) (([]:List (Bytes×List Int)),([]:List Int),0) h1 (gE rfl rfl) ?_
 rintro m ⟨at17,todo18,t19⟩ h1
 replace h1:bK n l_0 (m+1) at17 todo18 t19=some o227:=h1
 rw [bK] at h1
 refine nx 5 rfl (fD [18] h1 rfl (λ c20 h1=>?_) λ c20 h1=>?_)
 ·refine nx 3 rfl (bd h1 λ o241 h2 h1=>?_)
  refine kN o241 (λ v242=>⟨[(0,.p (eL ac l_0)),(3,.mpr 14 1 0 none (v242.1.map λ p=>(p.1,p.2.map eI))),(4,.stk 600004 1 (v242.2.map eI)),(15,.p (eL ac l_0)),(16,.p (eI (l_0.length:Int))),(17,.p (eI t19))],[]⟩) ?_ ?_
  ·refine nx 2 rfl (oA h1 rfl rfl λ hk32 h1=>?_)
   exact nx 2 rfl (eX (o241.1,o241.2,t19+1) h1 (gE rfl rfl))
  refine nx 4 rfl (oE h2 aa.cells_eq rfl rfl (λ _=>rfl) λ hk21 h2=>?_)
  refine nx 8 rfl (bd h2 λ r22 e23 h2=>?_)
  refine oK (gJ _ (lat l_0 t19) _ e23) rfl ⟨sr,trivial⟩ Tryz.call27 rfl (nx 8 rfl ?_)
  refine mO rfl (zm eI at17 rfl rfl rfl rfl rfl rfl rfl (by kernel_rfl) rfl rfl rfl rfl rfl rfl ?_)
  refine nx 1 rfl (mO rfl (bS eI [t19] rfl rfl rfl rfl rfl rfl rfl rfl rfl rfl rfl rfl rfl rfl ?_))
  refine cc' h2 λ hk24 h2=>mO rfl (fp eI ((dC at17 r22).getD []) [t19] rfl rfl rfl rfl rfl rfl rfl rfl rfl rfl rfl rfl rfl (λ _=>rfl) rfl rfl rfl rfl hk24 ?_)
  refine mO rfl (A7 eI at17 (((dC at17 r22).getD [])++[t19]) rfl rfl rfl rfl rfl rfl rfl rfl rfl rfl rfl rfl rfl rfl ?_)
  refine nx 2 rfl (bd h2 λ o243 h3 h2=>?_)
  refine kN o243 (λ v244=>⟨[(0,.p (eL ac l_0)),(3,.mpr 14 1 0 none ((mH at17 r22 (((dC at17 r22).getD [])++[t19])).map λ p=>(p.1,p.2.map eI))),(4,.stk 600004 1 (todo18.map eI)),(5,.p (eI t19)),(15,.p (eL ac l_0)),(16,.p (eI (l_0.length:Int))),(17,.p (eI t19)),(38,.p (eB v244))],[]⟩) ?_ ?_
  ·refine nx 1 rfl (fB [38] h2 rfl (λ c27 h2=>?_) λ c27 h2=>?_)
   ·refine nx 4 rfl (mO rfl (bS eI [t19] rfl rfl rfl rfl rfl rfl rfl rfl rfl rfl rfl rfl rfl rfl ?_))
    refine cc' h2 λ hk28 h2=>mO rfl (wc eI (λ _=>⟨rfl,rfl⟩) todo18 [t19] rfl rfl rfl rfl rfl rfl rfl rfl rfl rfl rfl rfl (Nat.zero_lt_succ _) rfl rfl rfl hk28 rfl rfl ?_)
    exact nx 2 rfl (eX _ (oi h2).symm (gE rfl rfl))
   exact nx 2 rfl (eX _ (oi h2).symm (gE rfl rfl))
  refine nx 5 rfl (fD [34,35] h3 rfl (λ c25 h3=>?_) λ c25 h3=>?_)
  ·exact nx 4 rfl (eX _ (oi h3).symm (gE rfl rfl))
  exact nx 4 rfl (eX _ (oi h3).symm (gE rfl rfl))
 exact nx 2 rfl (eXi _ (oi h1).symm (gE rfl rfl))
def cx (r_lifecycle_copied:ah→Option ah):Nat→Option Unit
 | 0=>none
 | m+1 =>
 if 0 < (([]:List ah).length:Int) then
  ck ((0:Int)≤0∧0 < (([]:List ah).length:Int)) <|
  (r_lifecycle_copied (lat ([]:List ah) 0)).bind λ r6 =>
  ck ((0:Int)≤0∧0 < (([]:List ah).length:Int)) <|
  none
 else
  some ()
def bO (r_lifecycle_copied:ah→Option ah)(v_0:ah):Nat→Int→(List ah)→Option (List ah)
 | 0,_,_=>none
 | m+1,t17,l18 =>
 if t17 < (v_0.fItems.length:Int) then
  ck ((0:Int)≤t17∧t17 < (l18.length:Int)) <|
  (r_lifecycle_copied (lat l18 t17)).bind λ r21 =>
  ck ((0:Int)≤t17∧t17 < (l18.length:Int)) <|
  ck (inR (t17+1)) <|
  bO r_lifecycle_copied v_0 m (t17+1) (l18.set t17.toNat r21)
 else
  some l18
def a8:Nat→ah→Option ah
 | 0,_=>none
 | n+1,v_0 =>
 ck (v_0.fKeys.length*16≤140737488355328) <|
 if v_0.fItems.isEmpty=true then
  (cx (a8 n) n ).bind λ q28 =>
  some (ah.mk v_0.fKind v_0.fNum v_0.fStr ([]:List ah) v_0.fKeys)
 else
  ck (v_0.fItems.length*80≤140737488355328) <|
  (bO (a8 n) v_0 n 0 v_0.fItems).bind λ l27 =>
  some (ah.mk v_0.fKind v_0.fNum v_0.fStr l27 v_0.fKeys)
set_option maxHeartbeats 4000000 in
theorem kl (n:Nat):∀ (v_0:ah) (r:ah),a8 n v_0=some r→aB Tryz.prog 31 [.agg (ah.cs v_0)] (·=.p (.agg (ah.cs r))):=by
 induction n with
 | zero=>intro v_0 r h0; cases h0
 | succ n ih =>
 have ih_lifecycle_copied_ok:=ih
 intro v_0 r h0
 rw [a8] at h0
 refine aU good Tryz.func31 rfl rfl rfl λ w0=>mP (λ v:ah=>.p (.agg (ah.cs v))) ?_
 refine nx 9 rfl (cc' h0 λ hk1 h0=>?_)
 refine oK (cE v_0.fKeys hk1) rfl ⟨sr,trivial⟩ Tryz.call32 rfl (nx 7 rfl ?_)
 refine yB (b:=v_0.fItems.isEmpty) (λ c2=>?_) (λ c2=>?_)
 ·replace h0:=BC c2 h0
  refine mO rfl (aJ (ij v_0.fItems c2) rfl rfl rfl rfl ⟨sr,trivial⟩ Tryz.call39 rfl ?_)
  refine nx 8 rfl (oLl (f:=aQ) rfl rfl ?_)
  refine nx 3 rfl (bd h0 λ o30 h1 h0=>?_)
  refine kE 0 o30 (λ v31=>⟨[(1,.ptr 1 0),(2,.ptr 2 0)],[(1,[.p (eI v_0.fKind),.p (eI v_0.fNum),.p (eS v_0.fStr),.p (eL aQ ([]:List ah)),.p (eL eS v_0.fKeys)]),(2,[.p (eI 0),.p (eI 0),.p (eS ([]:Bytes)),.p (.val (.slice none 0 0)),.p (.val (.slice none 0 0))])]⟩) ?_ ?_
  ·exact nx 7 rfl (mQ (oi h0) rfl (sr))
  refine lG (λ (q32:Unit)=>⟨[(1,.ptr 1 0),(2,.ptr 2 0),(14,.p (eI (([]:List ah).length:Int))),(15,.p (eI 0))],[(1,[.p (eI v_0.fKind),.p (eI v_0.fNum),.p (eS v_0.fStr),.p (eL aQ ([]:List ah)),.p (eL eS v_0.fKeys)]),(2,[.p (eI 0),.p (eI 0),.p (eS ([]:Bytes)),.p (.val (.slice none 0 0)),.p (.val (.slice none 0 0))])]⟩) (λ m (q32:Unit)=>cx (a8 n) m ) (λ _=>rfl) () h1 (gE rfl rfl) ?_
  rintro m _ h1
  replace h1:cx (a8 n) (m+1)  = some o30:=h1
  rw [cx] at h1
  refine nx 5 rfl (fD [16] h1 rfl (λ c4 h1=>?_) λ c4 h1=>?_)
  ·refine nx 9 rfl (cc' h1 λ hk5 h1=>?_)
   refine bd h1 λ r6 e7 h1=>cc' h1 λ hk8 h1=>?_
   cases h1
  exact nx 2 rfl (eXi _ (oi h1).symm (gE rfl rfl))
 replace h0:=BX c2 h0
 refine cc' h0 λ hk3 h0=>mO rfl (bF [] [] 101000 101001 (ig v_0.fItems c2 hk3) rfl rfl rfl rfl rfl ⟨sr,trivial⟩ rfl rfl trivial rfl rfl rfl rfl rfl rfl rfl rfl Tryz.call39 rfl (ia rfl (hG _) rfl) ?_)
 refine nx 12 rfl (bd h0 λ o33 h1 h0=>?_)
 refine kE 0 o33 (λ v34=>⟨[(1,.ptr 1 0),(2,.ptr 2 0)],[(1,[.p (eI v_0.fKind),.p (eI v_0.fNum),.p (eS v_0.fStr),.arr 101000 5 0 v34.length,.p (eL eS v_0.fKeys)]),(2,[.p (eI 0),.p (eI 0),.p (eS ([]:Bytes)),.p (.val (.slice none 0 0)),.p (.val (.slice none 0 0))]),(101000,ik aQ v34)]⟩) ?_ ?_
 ·refine nx 3 rfl (mG (pm (sl':=[(1,.ptr 1 0),(2,.ptr 2 0)]) (ob':=[(1,[.p (eI v_0.fKind),.p (eI v_0.fNum),.p (eS v_0.fStr),.p (eL aQ o33),.p (eL eS v_0.fKeys)]),(2,[.p (eI 0),.p (eI 0),.p (eS ([]:Bytes)),.p (.val (.slice none 0 0)),.p (.val (.slice none 0 0))])]) 101000 5 aQ o33 rfl rfl rfl (λ x=>⟨congrArg List.length (ah.cells_eq x),by rw [ah.cells_eq]; rfl⟩) ⟨⟨_,rfl,.inl rfl⟩,⟨_,rfl,.inl rfl⟩,trivial⟩ ⟨⟨rfl,_,rfl,⟨.inl rfl,.inl rfl,.inl rfl,.inr ⟨(by simp),rfl⟩,.inl rfl,trivial⟩⟩,⟨rfl,_,rfl,⟨.inl rfl,.inl rfl,.inl rfl,.inl rfl,.inl rfl,trivial⟩⟩,trivial⟩) ?_)
  exact nx 4 rfl (mQ (oi h0) rfl (sr))
 refine lG (λ (q35:Int×(List ah))=>⟨[(1,.ptr 1 0),(2,.ptr 2 0),(14,.p (eI (v_0.fItems.length:Int))),(15,.p (eI q35.1))],[(1,[.p (eI v_0.fKind),.p (eI v_0.fNum),.p (eS v_0.fStr),.arr 101000 5 0 q35.2.length,.p (eL eS v_0.fKeys)]),(2,[.p (eI 0),.p (eI 0),.p (eS ([]:Bytes)),.p (.val (.slice none 0 0)),.p (.val (.slice none 0 0))]),(101000,ik aQ q35.2)]⟩) (λ m (q35:Int×(List ah))=>bO (a8 n) v_0 m q35.1 q35.2) (λ _=>rfl) (0,v_0.fItems) h1 (aI (cb ⟨er rfl,er rfl,er rfl,er rfl,trivial⟩ ⟨⟨_,rfl,⟨sr,sr,sr,AV.sub_of_eq (congrArg (AV.arr 101000 5 0) (by simp)),sr,trivial⟩⟩,⟨_,rfl,⟨sr,sr,sr,sr,sr,trivial⟩⟩,⟨_,rfl,aG _⟩,trivial⟩)) ?_
 rintro m ⟨t17,l18⟩ h1
 replace h1:bO (a8 n) v_0 (m+1) t17 l18=some o33:=h1
 rw [bO] at h1
 refine nx 5 rfl (fD [16] h1 rfl (λ c19 h1=>?_) λ c19 h1=>?_)
 ·refine nx 9 rfl (cc' h1 λ hk20 h1=>?_)
  refine bd h1 λ r21 e22 h1=>cc' h1 λ hk23 h1=>mG (aI (t:=⟨[(1,.ptr 1 0),(2,.ptr 2 0),(3,.p (eI t17)),(14,.p (eI (v_0.fItems.length:Int))),(15,.p (eI t17))],[(1,[.p (eI v_0.fKind),.p (eI v_0.fNum),.p (eS v_0.fStr),.arr 101000 5 0 l18.length,.p (eL eS v_0.fKeys)]),(2,[.p (eI 0),.p (eI 0),.p (eS ([]:Bytes)),.p (.val (.slice none 0 0)),.p (.val (.slice none 0 0))]),(101000,ik aQ l18)]⟩) (cb ⟨er rfl,er rfl,er rfl,er rfl,er rfl,trivial⟩ ⟨⟨_,rfl,⟨sr,sr,sr,AV.sub_of_eq (congrArg (AV.arr 101000 5 0) (by simp)),sr,trivial⟩⟩,⟨_,rfl,⟨sr,sr,sr,sr,sr,trivial⟩⟩,⟨_,rfl,aG _⟩,trivial⟩)) (mS ⟨1,[10],(λ _=>none),(λ _=>[(1,.ptr 1 0),(2,.ptr 2 0),(3,.p (eI t17)),(14,.p (eI (v_0.fItems.length:Int))),(15,.p (eI t17))]),(by2 ([(1,[.p (eI v_0.fKind),.p (eI v_0.fNum),.p (eS v_0.fStr),.arr 101000 5 0 l18.length,.p (eL eS v_0.fKeys)]),(2,[.p (eI 0),.p (eI 0),.p (eS ([]:Bytes)),.p (.val (.slice none 0 0)),.p (.val (.slice none 0 0))]),(101000,ik aQ l18)]) ([(101000,ik aQ (l18.set t17.toNat r21)),(1,[.p (eI v_0.fKind),.p (eI v_0.fNum),.p (eS v_0.fStr),.arr 101000 5 0 l18.length,.p (eL eS v_0.fKeys)]),(2,[.p (eI 0),.p (eI 0),.p (eS ([]:Bytes)),.p (.val (.slice none 0 0)),.p (.val (.slice none 0 0))]),(101000,ik aQ l18)]))⟩ rfl rfl rfl ⟨rfl,rfl,rfl,rfl,rfl,trivial⟩ (lt1 ⟨rfl,rfl,rfl,rfl,rfl,trivial⟩) rfl rfl rfl rfl ?_)
  refine ay (λ _=>.ptr 1 3) rfl rfl rfl (cA rfl (λ _=>rfl)) (lt1 rfl) (aC rfl (ak [(1,_)] ⟨.inl rfl,trivial⟩ (λ sl hsl K hK=>af rfl (aO rfl rfl rfl rfl rfl rfl rfl rfl (hsl _ _ rfl) hK)) ax)) (ay (λ _=>.arr 101000 5 0 l18.length) rfl rfl rfl (cA rfl (λ _=>rfl)) (lt1 rfl) (aC rfl (ak [(18,_)] ⟨.inr ⟨0,_,rfl,rfl,rfl⟩,trivial⟩ (λ sl hsl K hK=>af rfl (dD rfl rfl rfl rfl rfl (hsl _ _ rfl) rfl rfl hK)) ax)) ?_)
  refine ay (λ _=>.p (eI t17)) rfl rfl rfl (cA rfl (λ _=>rfl)) (lt1 rfl) (aC rfl (ak [(3,_)] ⟨.inl rfl,trivial⟩ (λ sl hsl K hK=>af rfl (bs rfl rfl rfl (hsl _ _ rfl) hK)) ax)) (ay (λ _=>.ptr 1 3) rfl rfl rfl (cA rfl (λ _=>rfl)) (lt1 rfl) (aC rfl (ak [(1,_)] ⟨.inl rfl,trivial⟩ (λ sl hsl K hK=>af rfl (aO rfl rfl rfl rfl rfl rfl rfl rfl (hsl _ _ rfl) hK)) ax)) ?_)
  refine ay (λ _=>.arr 101000 5 0 l18.length) rfl rfl rfl (cA rfl (λ _=>rfl)) (lt1 rfl) (aC rfl (ak [(21,_)] ⟨.inr ⟨3,_,rfl,rfl,rfl⟩,trivial⟩ (λ sl hsl K hK=>af rfl (dD rfl rfl rfl rfl rfl (hsl _ _ rfl) rfl rfl hK)) ax)) (ay (λ _=>.p (eI t17)) rfl rfl rfl (cA rfl (λ _=>rfl)) (lt1 rfl) (aC rfl (ak [(3,_)] ⟨.inl rfl,trivial⟩ (λ sl hsl K hK=>af rfl (bs rfl rfl rfl (hsl _ _ rfl) hK)) ax)) ?_)
  refine ay (λ _=>.ptr 101000 (0+t17.toNat*5)) rfl rfl rfl (cA rfl (λ _=>rfl)) (lt1 rfl) (aC rfl (ak [(22,_),(23,_)] ⟨.inr ⟨4,_,rfl,rfl,rfl⟩,.inr ⟨5,_,rfl,rfl,rfl⟩,trivial⟩ (λ sl hsl K hK=>af rfl (jQ rfl rfl rfl rfl rfl rfl (hsl _ _ rfl) (hsl _ _ rfl) rfl hk20 hK)) ax)) (ay (λ _=>.p (.agg (ah.cs (lat l18 t17)))) rfl rfl rfl (cA rfl (λ _=>rfl)) (lt1 rfl) (aC rfl (ak [(24,_)] ⟨.inr ⟨6,_,rfl,rfl,rfl⟩,trivial⟩ (λ sl hsl K hK=>af rfl (wY aQ ah.cs l18 rfl rfl rfl rfl rfl (hsl _ _ rfl) rfl rfl rfl hk20 ah.cells_eq (λ _=>rfl) hK)) ax)) ?_)
  refine ay (λ _=>.p (.agg (ah.cs r21))) rfl rfl rfl (cA rfl (λ _=>rfl)) (lt1 rfl) (aC rfl (ak [(25,_)] ⟨.inr ⟨7,_,rfl,rfl,rfl⟩,trivial⟩ (λ sl hsl K hK=>af rfl (aJ (ih_lifecycle_copied_ok (lat l18 t17) _ e22) rfl rfl rfl (au (hsl _ _ rfl) aK) ⟨sr,trivial⟩ Tryz.call31 rfl hK)) ax)) (ay (λ _=>.ptr 101000 (0+t17.toNat*5)) rfl rfl rfl (cA rfl (λ _=>rfl)) (lt1 rfl) (aC rfl (ak [(19,_),(20,_)] ⟨.inr ⟨1,_,rfl,rfl,rfl⟩,.inr ⟨2,_,rfl,rfl,rfl⟩,trivial⟩ (λ sl hsl K hK=>af rfl (jQ rfl rfl rfl rfl rfl rfl (hsl _ _ rfl) (hsl _ _ rfl) rfl hk23 hK)) ax)) ?_)
  refine gv [(26,_),(27,_)] rfl ⟨.inr ⟨8,_,rfl,rfl,rfl⟩,.inr ⟨9,_,rfl,rfl,rfl⟩,trivial⟩ rfl (λ sl hsl K hK=>af rfl (wS aQ ah.cs l18 r21 (n:=t17) rfl rfl rfl (hsl _ _ rfl) (hsl _ _ rfl) rfl rfl rfl hk23 ah.cells_eq (λ _=>rfl) (λ _=>rfl) hK)) (kk ?_)
  refine nx 2 rfl (oA h1 rfl rfl λ hk24 h1=>?_)
  exact nx 2 rfl (eX (t17+1,l18.set t17.toNat r21) h1 (aI (cb ⟨er rfl,er rfl,er rfl,er rfl,trivial⟩ ⟨⟨_,rfl,⟨sr,sr,sr,AV.sub_of_eq (congrArg (AV.arr 101000 5 0) (by simp)),sr,trivial⟩⟩,⟨_,rfl,⟨sr,sr,sr,sr,sr,trivial⟩⟩,⟨_,rfl,aG _⟩,trivial⟩)))
 exact nx 2 rfl (eXi _ (oi h1).symm (aI (cb ⟨er rfl,er rfl,trivial⟩ ⟨⟨_,rfl,⟨sr,sr,sr,AV.sub_of_eq (congrArg (AV.arr 101000 5 0) (by simp)),sr,trivial⟩⟩,⟨_,rfl,⟨sr,sr,sr,sr,sr,trivial⟩⟩,⟨_,rfl,aG _⟩,trivial⟩)))
def dT (n:Nat)(c_0:aa):Option aa :=
 (a8 n c_0.fBefore).bind λ r1 =>
 (a8 n c_0.fAfter).bind λ r3 =>
 ck (c_0.fReplace.length*16≤140737488355328) <|
 ck (c_0.fDeps.length*16≤140737488355328) <|
 ck (c_0.fOldDeps.length*16≤140737488355328) <|
 some (aa.mk c_0.fAddr c_0.fDeposed c_0.fType c_0.fAction c_0.fReason r1 r3 c_0.fID c_0.fReplace c_0.fCreateFirst c_0.fProtect c_0.fImport c_0.fDeps c_0.fOldDeps)
set_option maxHeartbeats 4000000 in
theorem o0 (n:Nat)(c_0:aa)(r:aa)(h0:dT n c_0=some r):aB Tryz.prog 21 [.agg (aa.cs c_0)] (·=.p (.agg (aa.cs r))):=by
 unfold dT at h0
 refine aU good Tryz.func21 rfl rfl rfl λ w0=>mP (λ v:aa=>.p (.agg (aa.cs v))) ?_
 refine nx 6 rfl (bd h0 λ r1 e2 h0=>?_)
 refine bd h0 λ r3 e4 h0=>mG (gE (t:=⟨[(1,.ptr 1 0),(2,.ptr 2 0)],[(1,(aa.cs c_0).map .p),(2,[.p (eS ([]:Bytes)),.p (eS ([]:Bytes)),.p (eS ([]:Bytes)),.p (eI 0),.p (eI 0),.p (eI 0),.p (eI 0),.p (eS ([]:Bytes)),.p (.val (.slice none 0 0)),.p (.val (.slice none 0 0)),.p (eI 0),.p (eI 0),.p (eS ([]:Bytes)),.p (.val (.slice none 0 0)),.p (.val (.slice none 0 0)),.p (eS ([]:Bytes)),.p (.val (.slice none 0 0)),.p (eB false),.p (eB false),.p (eB false),.p (.val (.slice none 0 0)),.p (.val (.slice none 0 0))])]⟩) rfl rfl) (mS ⟨2,[7,9],(λ _=>none),(λ _=>[(1,.ptr 1 0),(2,.ptr 2 0)]),(by3 ([(1,[.p (eS c_0.fAddr),.p (eS c_0.fDeposed),.p (eS c_0.fType),.p (eI c_0.fAction),.p (eI c_0.fReason),.p (eI c_0.fBefore.fKind),.p (eI c_0.fBefore.fNum),.p (eS c_0.fBefore.fStr),.p (eL aQ c_0.fBefore.fItems),.p (eL eS c_0.fBefore.fKeys),.p (eI c_0.fAfter.fKind),.p (eI c_0.fAfter.fNum),.p (eS c_0.fAfter.fStr),.p (eL aQ c_0.fAfter.fItems),.p (eL eS c_0.fAfter.fKeys),.p (eS c_0.fID),.p (eL eS c_0.fReplace),.p (eB c_0.fCreateFirst),.p (eB c_0.fProtect),.p (eB c_0.fImport),.p (eL eS c_0.fDeps),.p (eL eS c_0.fOldDeps)]),(2,[.p (eS ([]:Bytes)),.p (eS ([]:Bytes)),.p (eS ([]:Bytes)),.p (eI 0),.p (eI 0),.p (eI 0),.p (eI 0),.p (eS ([]:Bytes)),.p (.val (.slice none 0 0)),.p (.val (.slice none 0 0)),.p (eI 0),.p (eI 0),.p (eS ([]:Bytes)),.p (.val (.slice none 0 0)),.p (.val (.slice none 0 0)),.p (eS ([]:Bytes)),.p (.val (.slice none 0 0)),.p (eB false),.p (eB false),.p (eB false),.p (.val (.slice none 0 0)),.p (.val (.slice none 0 0))])]) ([(1,[.p (eS c_0.fAddr),.p (eS c_0.fDeposed),.p (eS c_0.fType),.p (eI c_0.fAction),.p (eI c_0.fReason),.p (eI r1.fKind),.p (eI r1.fNum),.p (eS r1.fStr),.p (eL aQ r1.fItems),.p (eL eS r1.fKeys),.p (eI c_0.fAfter.fKind),.p (eI c_0.fAfter.fNum),.p (eS c_0.fAfter.fStr),.p (eL aQ c_0.fAfter.fItems),.p (eL eS c_0.fAfter.fKeys),.p (eS c_0.fID),.p (eL eS c_0.fReplace),.p (eB c_0.fCreateFirst),.p (eB c_0.fProtect),.p (eB c_0.fImport),.p (eL eS c_0.fDeps),.p (eL eS c_0.fOldDeps)]),(1,[.p (eS c_0.fAddr),.p (eS c_0.fDeposed),.p (eS c_0.fType),.p (eI c_0.fAction),.p (eI c_0.fReason),.p (eI c_0.fBefore.fKind),.p (eI c_0.fBefore.fNum),.p (eS c_0.fBefore.fStr),.p (eL aQ c_0.fBefore.fItems),.p (eL eS c_0.fBefore.fKeys),.p (eI c_0.fAfter.fKind),.p (eI c_0.fAfter.fNum),.p (eS c_0.fAfter.fStr),.p (eL aQ c_0.fAfter.fItems),.p (eL eS c_0.fAfter.fKeys),.p (eS c_0.fID),.p (eL eS c_0.fReplace),.p (eB c_0.fCreateFirst),.p (eB c_0.fProtect),.p (eB c_0.fImport),.p (eL eS c_0.fDeps),.p (eL eS c_0.fOldDeps)]),(2,[.p (eS ([]:Bytes)),.p (eS ([]:Bytes)),.p (eS ([]:Bytes)),.p (eI 0),.p (eI 0),.p (eI 0),.p (eI 0),.p (eS ([]:Bytes)),.p (.val (.slice none 0 0)),.p (.val (.slice none 0 0)),.p (eI 0),.p (eI 0),.p (eS ([]:Bytes)),.p (.val (.slice none 0 0)),.p (.val (.slice none 0 0)),.p (eS ([]:Bytes)),.p (.val (.slice none 0 0)),.p (eB false),.p (eB false),.p (eB false),.p (.val (.slice none 0 0)),.p (.val (.slice none 0 0))])]) ([(1,[.p (eS c_0.fAddr),.p (eS c_0.fDeposed),.p (eS c_0.fType),.p (eI c_0.fAction),.p (eI c_0.fReason),.p (eI r1.fKind),.p (eI r1.fNum),.p (eS r1.fStr),.p (eL aQ r1.fItems),.p (eL eS r1.fKeys),.p (eI r3.fKind),.p (eI r3.fNum),.p (eS r3.fStr),.p (eL aQ r3.fItems),.p (eL eS r3.fKeys),.p (eS c_0.fID),.p (eL eS c_0.fReplace),.p (eB c_0.fCreateFirst),.p (eB c_0.fProtect),.p (eB c_0.fImport),.p (eL eS c_0.fDeps),.p (eL eS c_0.fOldDeps)]),(1,[.p (eS c_0.fAddr),.p (eS c_0.fDeposed),.p (eS c_0.fType),.p (eI c_0.fAction),.p (eI c_0.fReason),.p (eI r1.fKind),.p (eI r1.fNum),.p (eS r1.fStr),.p (eL aQ r1.fItems),.p (eL eS r1.fKeys),.p (eI c_0.fAfter.fKind),.p (eI c_0.fAfter.fNum),.p (eS c_0.fAfter.fStr),.p (eL aQ c_0.fAfter.fItems),.p (eL eS c_0.fAfter.fKeys),.p (eS c_0.fID),.p (eL eS c_0.fReplace),.p (eB c_0.fCreateFirst),.p (eB c_0.fProtect),.p (eB c_0.fImport),.p (eL eS c_0.fDeps),.p (eL eS c_0.fOldDeps)]),(1,[.p (eS c_0.fAddr),.p (eS c_0.fDeposed),.p (eS c_0.fType),.p (eI c_0.fAction),.p (eI c_0.fReason),.p (eI c_0.fBefore.fKind),.p (eI c_0.fBefore.fNum),.p (eS c_0.fBefore.fStr),.p (eL aQ c_0.fBefore.fItems),.p (eL eS c_0.fBefore.fKeys),.p (eI c_0.fAfter.fKind),.p (eI c_0.fAfter.fNum),.p (eS c_0.fAfter.fStr),.p (eL aQ c_0.fAfter.fItems),.p (eL eS c_0.fAfter.fKeys),.p (eS c_0.fID),.p (eL eS c_0.fReplace),.p (eB c_0.fCreateFirst),.p (eB c_0.fProtect),.p (eB c_0.fImport),.p (eL eS c_0.fDeps),.p (eL eS c_0.fOldDeps)]),(2,[.p (eS ([]:Bytes)),.p (eS ([]:Bytes)),.p (eS ([]:Bytes)),.p (eI 0),.p (eI 0),.p (eI 0),.p (eI 0),.p (eS ([]:Bytes)),.p (.val (.slice none 0 0)),.p (.val (.slice none 0 0)),.p (eI 0),.p (eI 0),.p (eS ([]:Bytes)),.p (.val (.slice none 0 0)),.p (.val (.slice none 0 0)),.p (eS ([]:Bytes)),.p (.val (.slice none 0 0)),.p (eB false),.p (eB false),.p (eB false),.p (.val (.slice none 0 0)),.p (.val (.slice none 0 0))])]))⟩ rfl rfl rfl ⟨rfl,rfl,trivial⟩ (lt2 ⟨rfl,rfl,trivial⟩ ⟨rfl,rfl,trivial⟩) rfl rfl rfl rfl ?_)
 refine ay (λ _=>.ptr 1 5) rfl rfl rfl (mf rfl rfl (λ _=>rfl)) (lt2 rfl rfl) (aC rfl (aC rfl (ak [(1,_)] ⟨.inl rfl,trivial⟩ (λ sl hsl K hK=>af rfl (aO rfl rfl rfl rfl rfl rfl rfl rfl (hsl _ _ rfl) hK)) ax))) (ay (λ _=>.p (.agg (ah.cs c_0.fBefore))) rfl rfl rfl (mf rfl rfl (λ _=>rfl)) (lt2 rfl rfl) (aC rfl (aC rfl (ak [(3,_)] ⟨.inr ⟨0,_,rfl,rfl,rfl⟩,trivial⟩ (λ sl hsl K hK=>af rfl (fA rfl rfl rfl rfl rfl (hsl _ _ rfl) rfl rfl rfl hK)) ax))) ?_)
 refine ay (λ _=>.p (.agg (ah.cs r1))) rfl rfl rfl (mf rfl rfl (λ _=>rfl)) (lt2 rfl rfl) (aC rfl (aC rfl (ak [(4,_)] ⟨.inr ⟨1,_,rfl,rfl,rfl⟩,trivial⟩ (λ sl hsl K hK=>af rfl (aJ (kl _ c_0.fBefore _ e2) rfl rfl rfl (au (hsl _ _ rfl) aK) ⟨sr,trivial⟩ Tryz.call31 rfl hK)) ax))) (ay (λ _=>.ptr 1 10) rfl rfl rfl (mf rfl rfl (λ _=>rfl)) (lt2 rfl rfl) (aC rfl (aC rfl (ak [(1,_)] ⟨.inl rfl,trivial⟩ (λ sl hsl K hK=>af rfl (aO rfl rfl rfl rfl rfl rfl rfl rfl (hsl _ _ rfl) hK)) ax))) ?_)
 refine ay (λ _=>.p (.agg (ah.cs c_0.fAfter))) rfl rfl rfl (mf rfl rfl (λ _=>rfl)) (lt2 rfl rfl) (aC rfl (aC rfl (ak [(6,_)] ⟨.inr ⟨3,_,rfl,rfl,rfl⟩,trivial⟩ (λ sl hsl K hK=>af rfl (fA rfl rfl rfl rfl rfl (hsl _ _ rfl) rfl rfl rfl hK)) ax))) (ay (λ _=>.p (.agg (ah.cs r3))) rfl rfl rfl (mf rfl rfl (λ _=>rfl)) (lt2 rfl rfl) (aC rfl (aC rfl (ak [(7,_)] ⟨.inr ⟨4,_,rfl,rfl,rfl⟩,trivial⟩ (λ sl hsl K hK=>af rfl (aJ (kl _ c_0.fAfter _ e4) rfl rfl rfl (au (hsl _ _ rfl) aK) ⟨sr,trivial⟩ Tryz.call31 rfl hK)) ax))) ?_)
 refine ay (λ _=>.ptr 1 5) rfl rfl rfl (mf rfl rfl (λ _=>rfl)) (lt2 rfl rfl) (aC rfl (aC rfl (ak [(1,_)] ⟨.inl rfl,trivial⟩ (λ sl hsl K hK=>af rfl (aO rfl rfl rfl rfl rfl rfl rfl rfl (hsl _ _ rfl) hK)) ax))) (gv [(5,_),(9,_)] rfl ⟨.inr ⟨2,_,rfl,rfl,rfl⟩,.inr ⟨6,_,rfl,rfl,rfl⟩,trivial⟩ rfl (λ sl hsl K hK=>af rfl (fg rfl rfl rfl (hsl _ _ rfl) (hsl _ _ rfl) rfl rfl rfl (Nat.le_of_ble_eq_true rfl) hK)) ?_)
 refine ay (λ _=>.ptr 1 10) rfl rfl rfl (mf rfl rfl (λ _=>rfl)) (lt2 rfl rfl) (aC rfl (ak [(1,_)] ⟨.inl rfl,trivial⟩ (λ sl hsl K hK=>af rfl (aO rfl rfl rfl rfl rfl rfl rfl rfl (hsl _ _ rfl) hK)) (aC rfl ax))) (gv [(8,_),(10,_)] rfl ⟨.inr ⟨5,_,rfl,rfl,rfl⟩,.inr ⟨8,_,rfl,rfl,rfl⟩,trivial⟩ rfl (λ sl hsl K hK=>af rfl (fg rfl rfl rfl (hsl _ _ rfl) (hsl _ _ rfl) rfl rfl rfl (Nat.le_of_ble_eq_true rfl) hK)) ?_)
 refine kk (nx 2 rfl ?_)
 refine cc' h0 λ hk5 h0=>cc' h0 λ hk6 h0=>cc' h0 λ hk7 h0=>mG (gE (t:=⟨[(1,.ptr 1 0),(2,.ptr 2 0)],[(1,[.p (eS c_0.fAddr),.p (eS c_0.fDeposed),.p (eS c_0.fType),.p (eI c_0.fAction),.p (eI c_0.fReason),.p (eI r1.fKind),.p (eI r1.fNum),.p (eS r1.fStr),.p (eL aQ r1.fItems),.p (eL eS r1.fKeys),.p (eI r3.fKind),.p (eI r3.fNum),.p (eS r3.fStr),.p (eL aQ r3.fItems),.p (eL eS r3.fKeys),.p (eS c_0.fID),.p (eL eS c_0.fReplace),.p (eB c_0.fCreateFirst),.p (eB c_0.fProtect),.p (eB c_0.fImport),.p (eL eS c_0.fDeps),.p (eL eS c_0.fOldDeps)]),(2,[.p (eS ([]:Bytes)),.p (eS ([]:Bytes)),.p (eS ([]:Bytes)),.p (eI 0),.p (eI 0),.p (eI 0),.p (eI 0),.p (eS ([]:Bytes)),.p (.val (.slice none 0 0)),.p (.val (.slice none 0 0)),.p (eI 0),.p (eI 0),.p (eS ([]:Bytes)),.p (.val (.slice none 0 0)),.p (.val (.slice none 0 0)),.p (eS ([]:Bytes)),.p (.val (.slice none 0 0)),.p (eB false),.p (eB false),.p (eB false),.p (.val (.slice none 0 0)),.p (.val (.slice none 0 0))])]⟩) rfl rfl) (mS ⟨3,[10,12,14],(λ _=>none),(λ _=>[(1,.ptr 1 0),(2,.ptr 2 0)]),(by4 ([(1,[.p (eS c_0.fAddr),.p (eS c_0.fDeposed),.p (eS c_0.fType),.p (eI c_0.fAction),.p (eI c_0.fReason),.p (eI r1.fKind),.p (eI r1.fNum),.p (eS r1.fStr),.p (eL aQ r1.fItems),.p (eL eS r1.fKeys),.p (eI r3.fKind),.p (eI r3.fNum),.p (eS r3.fStr),.p (eL aQ r3.fItems),.p (eL eS r3.fKeys),.p (eS c_0.fID),.p (eL eS c_0.fReplace),.p (eB c_0.fCreateFirst),.p (eB c_0.fProtect),.p (eB c_0.fImport),.p (eL eS c_0.fDeps),.p (eL eS c_0.fOldDeps)]),(2,[.p (eS ([]:Bytes)),.p (eS ([]:Bytes)),.p (eS ([]:Bytes)),.p (eI 0),.p (eI 0),.p (eI 0),.p (eI 0),.p (eS ([]:Bytes)),.p (.val (.slice none 0 0)),.p (.val (.slice none 0 0)),.p (eI 0),.p (eI 0),.p (eS ([]:Bytes)),.p (.val (.slice none 0 0)),.p (.val (.slice none 0 0)),.p (eS ([]:Bytes)),.p (.val (.slice none 0 0)),.p (eB false),.p (eB false),.p (eB false),.p (.val (.slice none 0 0)),.p (.val (.slice none 0 0))])]) ([(1,[.p (eS c_0.fAddr),.p (eS c_0.fDeposed),.p (eS c_0.fType),.p (eI c_0.fAction),.p (eI c_0.fReason),.p (eI r1.fKind),.p (eI r1.fNum),.p (eS r1.fStr),.p (eL aQ r1.fItems),.p (eL eS r1.fKeys),.p (eI r3.fKind),.p (eI r3.fNum),.p (eS r3.fStr),.p (eL aQ r3.fItems),.p (eL eS r3.fKeys),.p (eS c_0.fID),.p (eL eS c_0.fReplace),.p (eB c_0.fCreateFirst),.p (eB c_0.fProtect),.p (eB c_0.fImport),.p (eL eS c_0.fDeps),.p (eL eS c_0.fOldDeps)]),(1,[.p (eS c_0.fAddr),.p (eS c_0.fDeposed),.p (eS c_0.fType),.p (eI c_0.fAction),.p (eI c_0.fReason),.p (eI r1.fKind),.p (eI r1.fNum),.p (eS r1.fStr),.p (eL aQ r1.fItems),.p (eL eS r1.fKeys),.p (eI r3.fKind),.p (eI r3.fNum),.p (eS r3.fStr),.p (eL aQ r3.fItems),.p (eL eS r3.fKeys),.p (eS c_0.fID),.p (eL eS c_0.fReplace),.p (eB c_0.fCreateFirst),.p (eB c_0.fProtect),.p (eB c_0.fImport),.p (eL eS c_0.fDeps),.p (eL eS c_0.fOldDeps)]),(2,[.p (eS ([]:Bytes)),.p (eS ([]:Bytes)),.p (eS ([]:Bytes)),.p (eI 0),.p (eI 0),.p (eI 0),.p (eI 0),.p (eS ([]:Bytes)),.p (.val (.slice none 0 0)),.p (.val (.slice none 0 0)),.p (eI 0),.p (eI 0),.p (eS ([]:Bytes)),.p (.val (.slice none 0 0)),.p (.val (.slice none 0 0)),.p (eS ([]:Bytes)),.p (.val (.slice none 0 0)),.p (eB false),.p (eB false),.p (eB false),.p (.val (.slice none 0 0)),.p (.val (.slice none 0 0))])]) ([(1,[.p (eS c_0.fAddr),.p (eS c_0.fDeposed),.p (eS c_0.fType),.p (eI c_0.fAction),.p (eI c_0.fReason),.p (eI r1.fKind),.p (eI r1.fNum),.p (eS r1.fStr),.p (eL aQ r1.fItems),.p (eL eS r1.fKeys),.p (eI r3.fKind),.p (eI r3.fNum),.p (eS r3.fStr),.p (eL aQ r3.fItems),.p (eL eS r3.fKeys),.p (eS c_0.fID),.p (eL eS c_0.fReplace),.p (eB c_0.fCreateFirst),.p (eB c_0.fProtect),.p (eB c_0.fImport),.p (eL eS c_0.fDeps),.p (eL eS c_0.fOldDeps)]),(1,[.p (eS c_0.fAddr),.p (eS c_0.fDeposed),.p (eS c_0.fType),.p (eI c_0.fAction),.p (eI c_0.fReason),.p (eI r1.fKind),.p (eI r1.fNum),.p (eS r1.fStr),.p (eL aQ r1.fItems),.p (eL eS r1.fKeys),.p (eI r3.fKind),.p (eI r3.fNum),.p (eS r3.fStr),.p (eL aQ r3.fItems),.p (eL eS r3.fKeys),.p (eS c_0.fID),.p (eL eS c_0.fReplace),.p (eB c_0.fCreateFirst),.p (eB c_0.fProtect),.p (eB c_0.fImport),.p (eL eS c_0.fDeps),.p (eL eS c_0.fOldDeps)]),(1,[.p (eS c_0.fAddr),.p (eS c_0.fDeposed),.p (eS c_0.fType),.p (eI c_0.fAction),.p (eI c_0.fReason),.p (eI r1.fKind),.p (eI r1.fNum),.p (eS r1.fStr),.p (eL aQ r1.fItems),.p (eL eS r1.fKeys),.p (eI r3.fKind),.p (eI r3.fNum),.p (eS r3.fStr),.p (eL aQ r3.fItems),.p (eL eS r3.fKeys),.p (eS c_0.fID),.p (eL eS c_0.fReplace),.p (eB c_0.fCreateFirst),.p (eB c_0.fProtect),.p (eB c_0.fImport),.p (eL eS c_0.fDeps),.p (eL eS c_0.fOldDeps)]),(2,[.p (eS ([]:Bytes)),.p (eS ([]:Bytes)),.p (eS ([]:Bytes)),.p (eI 0),.p (eI 0),.p (eI 0),.p (eI 0),.p (eS ([]:Bytes)),.p (.val (.slice none 0 0)),.p (.val (.slice none 0 0)),.p (eI 0),.p (eI 0),.p (eS ([]:Bytes)),.p (.val (.slice none 0 0)),.p (.val (.slice none 0 0)),.p (eS ([]:Bytes)),.p (.val (.slice none 0 0)),.p (eB false),.p (eB false),.p (eB false),.p (.val (.slice none 0 0)),.p (.val (.slice none 0 0))])]) ([(1,[.p (eS c_0.fAddr),.p (eS c_0.fDeposed),.p (eS c_0.fType),.p (eI c_0.fAction),.p (eI c_0.fReason),.p (eI r1.fKind),.p (eI r1.fNum),.p (eS r1.fStr),.p (eL aQ r1.fItems),.p (eL eS r1.fKeys),.p (eI r3.fKind),.p (eI r3.fNum),.p (eS r3.fStr),.p (eL aQ r3.fItems),.p (eL eS r3.fKeys),.p (eS c_0.fID),.p (eL eS c_0.fReplace),.p (eB c_0.fCreateFirst),.p (eB c_0.fProtect),.p (eB c_0.fImport),.p (eL eS c_0.fDeps),.p (eL eS c_0.fOldDeps)]),(1,[.p (eS c_0.fAddr),.p (eS c_0.fDeposed),.p (eS c_0.fType),.p (eI c_0.fAction),.p (eI c_0.fReason),.p (eI r1.fKind),.p (eI r1.fNum),.p (eS r1.fStr),.p (eL aQ r1.fItems),.p (eL eS r1.fKeys),.p (eI r3.fKind),.p (eI r3.fNum),.p (eS r3.fStr),.p (eL aQ r3.fItems),.p (eL eS r3.fKeys),.p (eS c_0.fID),.p (eL eS c_0.fReplace),.p (eB c_0.fCreateFirst),.p (eB c_0.fProtect),.p (eB c_0.fImport),.p (eL eS c_0.fDeps),.p (eL eS c_0.fOldDeps)]),(1,[.p (eS c_0.fAddr),.p (eS c_0.fDeposed),.p (eS c_0.fType),.p (eI c_0.fAction),.p (eI c_0.fReason),.p (eI r1.fKind),.p (eI r1.fNum),.p (eS r1.fStr),.p (eL aQ r1.fItems),.p (eL eS r1.fKeys),.p (eI r3.fKind),.p (eI r3.fNum),.p (eS r3.fStr),.p (eL aQ r3.fItems),.p (eL eS r3.fKeys),.p (eS c_0.fID),.p (eL eS c_0.fReplace),.p (eB c_0.fCreateFirst),.p (eB c_0.fProtect),.p (eB c_0.fImport),.p (eL eS c_0.fDeps),.p (eL eS c_0.fOldDeps)]),(1,[.p (eS c_0.fAddr),.p (eS c_0.fDeposed),.p (eS c_0.fType),.p (eI c_0.fAction),.p (eI c_0.fReason),.p (eI r1.fKind),.p (eI r1.fNum),.p (eS r1.fStr),.p (eL aQ r1.fItems),.p (eL eS r1.fKeys),.p (eI r3.fKind),.p (eI r3.fNum),.p (eS r3.fStr),.p (eL aQ r3.fItems),.p (eL eS r3.fKeys),.p (eS c_0.fID),.p (eL eS c_0.fReplace),.p (eB c_0.fCreateFirst),.p (eB c_0.fProtect),.p (eB c_0.fImport),.p (eL eS c_0.fDeps),.p (eL eS c_0.fOldDeps)]),(2,[.p (eS ([]:Bytes)),.p (eS ([]:Bytes)),.p (eS ([]:Bytes)),.p (eI 0),.p (eI 0),.p (eI 0),.p (eI 0),.p (eS ([]:Bytes)),.p (.val (.slice none 0 0)),.p (.val (.slice none 0 0)),.p (eI 0),.p (eI 0),.p (eS ([]:Bytes)),.p (.val (.slice none 0 0)),.p (.val (.slice none 0 0)),.p (eS ([]:Bytes)),.p (.val (.slice none 0 0)),.p (eB false),.p (eB false),.p (eB false),.p (.val (.slice none 0 0)),.p (.val (.slice none 0 0))])]))⟩ rfl rfl rfl ⟨rfl,rfl,trivial⟩ (lt3 ⟨rfl,rfl,trivial⟩ ⟨rfl,rfl,trivial⟩ ⟨rfl,rfl,trivial⟩) rfl rfl rfl rfl ?_)
 refine ay (λ _=>.ptr 1 16) rfl rfl rfl (nO rfl rfl rfl (λ _=>rfl)) (lt3 rfl rfl rfl) (aC rfl (aC rfl (aC rfl (ak [(1,_)] ⟨.inl rfl,trivial⟩ (λ sl hsl K hK=>af rfl (aO rfl rfl rfl rfl rfl rfl rfl rfl (hsl _ _ rfl) hK)) ax)))) (ay (λ _=>.p (eL eS c_0.fReplace)) rfl rfl rfl (nO rfl rfl rfl (λ _=>rfl)) (lt3 rfl rfl rfl) (aC rfl (aC rfl (aC rfl (ak [(11,_)] ⟨.inr ⟨0,_,rfl,rfl,rfl⟩,trivial⟩ (λ sl hsl K hK=>af rfl (dD rfl rfl rfl rfl rfl (hsl _ _ rfl) rfl rfl hK)) ax)))) ?_)
 refine ay (λ _=>.p (eL eS c_0.fReplace)) rfl rfl rfl (nO rfl rfl rfl (λ _=>rfl)) (lt3 rfl rfl rfl) (aC rfl (aC rfl (aC rfl (ak [(12,_)] ⟨.inr ⟨1,_,rfl,rfl,rfl⟩,trivial⟩ (λ sl hsl K hK=>af rfl (aJ (cE c_0.fReplace hk5) rfl rfl rfl (au (hsl _ _ rfl) aK) ⟨sr,trivial⟩ Tryz.call32 rfl hK)) ax)))) (ay (λ _=>.ptr 1 20) rfl rfl rfl (nO rfl rfl rfl (λ _=>rfl)) (lt3 rfl rfl rfl) (aC rfl (aC rfl (aC rfl (ak [(1,_)] ⟨.inl rfl,trivial⟩ (λ sl hsl K hK=>af rfl (aO rfl rfl rfl rfl rfl rfl rfl rfl (hsl _ _ rfl) hK)) ax)))) ?_)
 refine ay (λ _=>.p (eL eS c_0.fDeps)) rfl rfl rfl (nO rfl rfl rfl (λ _=>rfl)) (lt3 rfl rfl rfl) (aC rfl (aC rfl (aC rfl (ak [(14,_)] ⟨.inr ⟨3,_,rfl,rfl,rfl⟩,trivial⟩ (λ sl hsl K hK=>af rfl (dD rfl rfl rfl rfl rfl (hsl _ _ rfl) rfl rfl hK)) ax)))) (ay (λ _=>.p (eL eS c_0.fDeps)) rfl rfl rfl (nO rfl rfl rfl (λ _=>rfl)) (lt3 rfl rfl rfl) (aC rfl (aC rfl (ak [(15,_)] ⟨.inr ⟨4,_,rfl,rfl,rfl⟩,trivial⟩ (λ sl hsl K hK=>af rfl (aJ (cE c_0.fDeps hk6) rfl rfl rfl (au (hsl _ _ rfl) aK) ⟨sr,trivial⟩ Tryz.call32 rfl hK)) (ak [(15,_)] ⟨.inr ⟨4,_,rfl,rfl,rfl⟩,trivial⟩ (λ sl hsl K hK=>af rfl (aJ (cE c_0.fDeps hk6) rfl rfl rfl (au (hsl _ _ rfl) aK) ⟨sr,trivial⟩ Tryz.call32 rfl hK)) ax)))) ?_)
 refine ay (λ _=>.ptr 1 21) rfl rfl rfl (nO rfl rfl rfl (λ _=>rfl)) (lt3 rfl rfl rfl) (aC rfl (aC rfl (aC rfl (ak [(1,_)] ⟨.inl rfl,trivial⟩ (λ sl hsl K hK=>af rfl (aO rfl rfl rfl rfl rfl rfl rfl rfl (hsl _ _ rfl) hK)) ax)))) (ay (λ _=>.p (eL eS c_0.fOldDeps)) rfl rfl rfl (nO rfl rfl rfl (λ _=>rfl)) (lt3 rfl rfl rfl) (aC rfl (aC rfl (aC rfl (ak [(17,_)] ⟨.inr ⟨6,_,rfl,rfl,rfl⟩,trivial⟩ (λ sl hsl K hK=>af rfl (dD rfl rfl rfl rfl rfl (hsl _ _ rfl) rfl rfl hK)) ax)))) ?_)
 refine ay (λ _=>.p (eL eS c_0.fOldDeps)) rfl rfl rfl (nO rfl rfl rfl (λ _=>rfl)) (lt3 rfl rfl rfl) (aC rfl (aC rfl (aC rfl (ak [(18,_)] ⟨.inr ⟨7,_,rfl,rfl,rfl⟩,trivial⟩ (λ sl hsl K hK=>af rfl (aJ (cE c_0.fOldDeps hk7) rfl rfl rfl (au (hsl _ _ rfl) aK) ⟨sr,trivial⟩ Tryz.call32 rfl hK)) ax)))) (ay (λ _=>.ptr 1 16) rfl rfl rfl (nO rfl rfl rfl (λ _=>rfl)) (lt3 rfl rfl rfl) (aC rfl (aC rfl (aC rfl (ak [(1,_)] ⟨.inl rfl,trivial⟩ (λ sl hsl K hK=>af rfl (aO rfl rfl rfl rfl rfl rfl rfl rfl (hsl _ _ rfl) hK)) ax)))) ?_)
 refine gv [(13,_),(20,_)] rfl ⟨.inr ⟨2,_,rfl,rfl,rfl⟩,.inr ⟨9,_,rfl,rfl,rfl⟩,trivial⟩ rfl (λ sl hsl K hK=>af rfl (fg rfl rfl rfl (hsl _ _ rfl) (hsl _ _ rfl) rfl rfl rfl (Nat.le_of_ble_eq_true rfl) hK)) (ay (λ _=>.ptr 1 20) rfl rfl rfl (nO rfl rfl rfl (λ _=>rfl)) (lt3 rfl rfl rfl) (aC rfl (aC rfl (ak [(1,_)] ⟨.inl rfl,trivial⟩ (λ sl hsl K hK=>af rfl (aO rfl rfl rfl rfl rfl rfl rfl rfl (hsl _ _ rfl) hK)) (aC rfl ax)))) ?_)
 refine gv [(16,_),(21,_)] rfl ⟨.inr ⟨5,_,rfl,rfl,rfl⟩,.inr ⟨11,_,rfl,rfl,rfl⟩,trivial⟩ rfl (λ sl hsl K hK=>af rfl (fg rfl rfl rfl (hsl _ _ rfl) (hsl _ _ rfl) rfl rfl rfl (Nat.le_of_ble_eq_true rfl) hK)) (ay (λ _=>.ptr 1 21) rfl rfl rfl (nO rfl rfl rfl (λ _=>rfl)) (lt3 rfl rfl rfl) (aC rfl (ak [(1,_)] ⟨.inl rfl,trivial⟩ (λ sl hsl K hK=>af rfl (aO rfl rfl rfl rfl rfl rfl rfl rfl (hsl _ _ rfl) hK)) (aC rfl (aC rfl ax)))) ?_)
 refine gv [(19,_),(22,_)] rfl ⟨.inr ⟨8,_,rfl,rfl,rfl⟩,.inr ⟨13,_,rfl,rfl,rfl⟩,trivial⟩ rfl (λ sl hsl K hK=>af rfl (fg rfl rfl rfl (hsl _ _ rfl) (hsl _ _ rfl) rfl rfl rfl (Nat.le_of_ble_eq_true rfl) hK)) (kk ?_)
 exact nx 7 rfl (mQ (oi h0) rfl (sr))
def bm (n:Nat)(l_0:List aa)(r1:(List Bool)):Nat→(List aa)→Int→Option (List aa)
 | 0,_,_=>none
 | m+1,out16,t17 =>
 if t17 < (l_0.length:Int) then
  ck ((0:Int)≤t17∧t17 < (l_0.length:Int)) <|
  (dT n (lat l_0 t17)).bind λ r20 =>
  (
    (
      ck ((0:Int)≤t17∧t17 < (r1.length:Int)) <|
      if (lat r1 t17)=true then
       some (decide (r20.fAction=3))
      else
       some false
     : Option Bool).bind λ t24 =>
    if t24=true then
     some true
    else
     some r20.fCreateFirst
   : Option Bool).bind λ f26 =>
  ck ((out16.length+[(aa.mk r20.fAddr r20.fDeposed r20.fType r20.fAction r20.fReason r20.fBefore r20.fAfter r20.fID r20.fReplace f26 r20.fProtect r20.fImport r20.fDeps r20.fOldDeps)].length)*320≤140737488355328) <|
  ck (inR (t17+1)) <|
  bm n l_0 r1 m (out16++[(aa.mk r20.fAddr r20.fDeposed r20.fType r20.fAction r20.fReason r20.fBefore r20.fAfter r20.fID r20.fReplace f26 r20.fProtect r20.fImport r20.fDeps r20.fOldDeps)]) (t17+1)
 else
  some out16
def bo (n:Nat)(l_0:List aa):Option (List aa) :=
 (dV n l_0).bind λ r1 =>
 (bm n l_0 r1 n [] 0).bind λ out31 =>
 some out31
set_option maxHeartbeats 4000000 in
theorem cH (n:Nat)(l_0:List aa)(r:(List aa))(h0:bo n l_0=some r):aB Tryz.prog 10 [eL ac l_0] (·=.p (eL ac r)):=by
 unfold bo at h0
 refine aU good Tryz.func10 rfl rfl rfl λ w0=>mP (λ v:(List aa)=>.p (eL ac v)) ?_
 refine nx 7 rfl (bd h0 λ r1 e2 h0=>?_)
 refine oK (pf _ l_0 _ e2) rfl ⟨sr,trivial⟩ Tryz.call20 rfl (nx 10 rfl ?_)
 refine oLl (f:=ac) rfl rfl (nx 3 rfl ?_)
 refine bd h0 λ o35 h1 h0=>kE 0 o35 (λ v36=>⟨[(4,.vec 31 22 0 (v36.map ac))],[]⟩) ?_ ?_
 ·exact nx 7 rfl (mQ (oi h0) rfl (AV.sub_vec _ _ _ _))
 refine lG (λ (q37:(List aa)×Int)=>⟨[(3,.p (eL eB r1)),(4,.vec 31 22 0 (q37.1.map ac)),(9,.p (eL ac l_0)),(10,.p (eI (l_0.length:Int))),(11,.p (eI q37.2))],[]⟩) (λ m (q37:(List aa)×Int)=>bm n l_0 r1 m q37.1 q37.2) (λ _=>rfl) ([],0) h1 (aI (cb ⟨er rfl,⟨_,rfl,AV.sub_nilvec _ _ _⟩,er rfl,er rfl,er rfl,trivial⟩ trivial)) ?_
 rintro m ⟨out16,t17⟩ h1
 replace h1:bm n l_0 r1 (m+1) out16 t17=some o35:=h1
 rw [bm] at h1
 refine nx 5 rfl (fD [12] h1 rfl (λ c18 h1=>?_) λ c18 h1=>?_)
 ·refine nx 7 rfl (oE h1 aa.cells_eq rfl rfl (λ _=>rfl) λ hk19 h1=>?_)
  refine nx 8 rfl (bd h1 λ r20 e21 h1=>?_)
  refine oK (o0 _ (lat l_0 t17) _ e21) rfl ⟨sr,trivial⟩ Tryz.call21 rfl (nx 3 rfl ?_)
  refine bd h1 λ o38 h2 h1=>kN o38 (λ v39=>⟨[(3,.p (eL eB r1)),(4,.vec 31 22 0 (out16.map ac)),(6,.ptr 6 0),(9,.p (eL ac l_0)),(10,.p (eI (l_0.length:Int))),(11,.p (eI t17))],[(6,[.p (eS r20.fAddr),.p (eS r20.fDeposed),.p (eS r20.fType),.p (eI r20.fAction),.p (eI r20.fReason),.p (eI r20.fBefore.fKind),.p (eI r20.fBefore.fNum),.p (eS r20.fBefore.fStr),.p (eL aQ r20.fBefore.fItems),.p (eL eS r20.fBefore.fKeys),.p (eI r20.fAfter.fKind),.p (eI r20.fAfter.fNum),.p (eS r20.fAfter.fStr),.p (eL aQ r20.fAfter.fItems),.p (eL eS r20.fAfter.fKeys),.p (eS r20.fID),.p (eL eS r20.fReplace),.p (eB v39),.p (eB r20.fProtect),.p (eB r20.fImport),.p (eL eS r20.fDeps),.p (eL eS r20.fOldDeps)])]⟩) ?_ ?_
  ·refine nx 4 rfl (mO rfl (bS ac [(aa.mk r20.fAddr r20.fDeposed r20.fType r20.fAction r20.fReason r20.fBefore r20.fAfter r20.fID r20.fReplace o38 r20.fProtect r20.fImport r20.fDeps r20.fOldDeps)] rfl rfl rfl rfl rfl rfl rfl rfl rfl rfl rfl rfl rfl (by first | rfl | (simp only [List.map_cons,List.map_nil,aa.agg_eq]; done) | (simp only [List.map_cons,List.map_nil,aa.agg_eq]; rfl)) ?_))
   refine cc' h1 λ hk27 h1=>mO rfl (fp ac out16 [(aa.mk r20.fAddr r20.fDeposed r20.fType r20.fAction r20.fReason r20.fBefore r20.fAfter r20.fID r20.fReplace o38 r20.fProtect r20.fImport r20.fDeps r20.fOldDeps)] rfl rfl rfl rfl rfl rfl rfl rfl rfl rfl rfl rfl rfl (λ x=>congrArg List.length (aa.cells_eq x)) rfl rfl rfl rfl hk27 ?_)
   refine nx 3 rfl (oA h1 rfl rfl λ hk28 h1=>?_)
   exact nx 2 rfl (eX (out16++[(aa.mk r20.fAddr r20.fDeposed r20.fType r20.fAction r20.fReason r20.fBefore r20.fAfter r20.fID r20.fReplace o38 r20.fProtect r20.fImport r20.fDeps r20.fOldDeps)],t17+1) h1 (gE rfl rfl))
  refine nx 1 rfl (bd h2 λ o40 h3 h2=>?_)
  refine kN o40 (λ v41=>⟨[(3,.p (eL eB r1)),(4,.vec 31 22 0 (out16.map ac)),(6,.ptr 6 0),(9,.p (eL ac l_0)),(10,.p (eI (l_0.length:Int))),(11,.p (eI t17)),(26,.p (eB v41))],[(6,(aa.cs r20).map .p)]⟩) ?_ ?_
  ·refine nx 1 rfl (fB [26] h2 rfl (λ c25 h2=>?_) λ c25 h2=>?_)
   ·exact nx 5 rfl (eX _ (oi h2).symm (gE rfl rfl))
   exact nx 2 rfl (eX _ (oi h2).symm (gE rfl rfl))
  refine nx 3 rfl (oE h3 (λ _=>rfl) rfl rfl (λ _=>rfl) λ hk22 h3=>?_)
  refine nx 2 rfl (fB [21,22] h3 rfl (λ c23 h3=>?_) λ c23 h3=>?_)
  ·exact nx 5 rfl (eX _ (oi h3).symm (gE rfl rfl))
  exact nx 5 rfl (eX _ (oi h3).symm (gE rfl rfl))
 exact nx 2 rfl (eXi _ (oi h1).symm (gE rfl rfl))
def bv (l_0:List aa):Nat→Int→Option (Unit⊕(Bytes×Bool))
 | 0,_=>none
 | m+1,t9 =>
 if t9 < (l_0.length:Int) then
  ck ((0:Int)≤t9∧t9 < (l_0.length:Int)) <|
  (
    if ((lat l_0 t9).fProtect)=true then
     if (lat l_0 t9).fAction=3 then
      some true
     else
      some (decide ((lat l_0 t9).fAction=4))
    else
     some false
   : Option Bool).bind λ t14 =>
  if t14=true then
   some (.inr ((lat l_0 t9).fAddr,true))
  else
   ck (inR (t9+1)) <|
   bv l_0 m (t9+1)
 else
  some (.inl ())
def cj (n:Nat)(l_0:List aa):Option (Bytes×Bool) :=
 jn (bv l_0 n 0) λ q18 =>
 some (([]:Bytes),false)
set_option maxHeartbeats 4000000 in
theorem gt (n:Nat)(l_0:List aa)(r:Bytes×Bool)(h0:cj n l_0=some r):aB Tryz.prog 13 [eL ac l_0] (·=.tuple [.p (eS r.1),.p (eB r.2)]):=by
 unfold cj at h0
 refine aU good Tryz.func13 rfl rfl rfl λ w0=>mP (λ v:Bytes×Bool=>.tuple [.p (eS v.1),.p (eB v.2)]) ?_
 refine nx 9 rfl (oLl (f:=ac) rfl rfl ?_)
 refine nx 3 rfl ?_
 obtain ⟨o20,h1,hL0,hR0⟩:=cU h0
 refine kEx 0 (λ v21:Unit=>o20=.inl v21) (λ v21=>⟨[],[]⟩) (λ v21 hv=>?_) ?_
 ·have h0:=hL0 _ hv
  exact nx 7 rfl (mQ (oi h0) rfl (az ⟨sr,sr,trivial⟩))
 refine lG (λ (q22:Int)=>⟨[(6,.p (eL ac l_0)),(7,.p (eI (l_0.length:Int))),(8,.p (eI q22))],[]⟩) (λ m (q22:Int)=>bv l_0 m q22) (λ _=>rfl) 0 h1 (gE rfl rfl) ?_
 rintro m t9 h1
 replace h1:bv l_0 (m+1) t9=some o20:=h1
 rw [bv] at h1
 refine nx 5 rfl (fD [9] h1 rfl (λ c10 h1=>?_) λ c10 h1=>?_)
 ·refine nx 6 rfl (oE h1 aa.cells_eq rfl rfl (λ _=>rfl) λ hk11 h1=>?_)
  refine nx 5 rfl (bd h1 λ o23 h2 h1=>?_)
  refine kN o23 (λ v24=>⟨[(5,.ptr 5 0),(6,.p (eL ac l_0)),(7,.p (eI (l_0.length:Int))),(8,.p (eI t9)),(23,.p (eB v24))],[(5,(aa.cs (lat l_0 t9)).map .p)]⟩) ?_ ?_
  ·refine nx 1 rfl (fB [23] h1 rfl (λ c15 h1=>?_) λ c15 h1=>?_)
   ·exact nx 9 rfl (mQ (hR0 _ (oi h1).symm) rfl (az ⟨sr,sr,trivial⟩))
   refine nx 3 rfl (oA h1 rfl rfl λ hk16 h1=>?_)
   exact nx 2 rfl (eX (t9+1) h1 (gE rfl rfl))
  refine nx 4 rfl (fB [13,14] h2 rfl (λ c12 h2=>?_) λ c12 h2=>?_)
  ·refine nx 4 rfl (fD [17,18] h2 rfl (λ c13 h2=>?_) λ c13 h2=>?_)
   ·exact nx 6 rfl (eX _ (oi h2).symm (gE rfl rfl))
   exact nx 6 rfl (eX _ (oi h2).symm (gE rfl rfl))
  exact nx 10 rfl (eX _ (oi h2).symm (gE rfl rfl))
 exact nx 2 rfl (eXi _ (oi h1).symm (gE rfl rfl))
def aD (s_0:List aa)(f_1:aa→Option Bool):Nat→Int→Option (Unit⊕Int)
 | 0,_=>none
 | m+1,t8 =>
 if t8 < (s_0.length:Int) then
  ck ((0:Int)≤t8∧t8 < (s_0.length:Int)) <|
  (f_1 (lat s_0 t8)).bind λ r11 =>
  if r11=true then
   some (.inr t8)
  else
   ck (inR (t8+1)) <|
   aD s_0 f_1 m (t8+1)
 else
  some (.inl ())
def ba (n:Nat)(s_0:List aa)(f_1:aa→Option Bool):Option Int :=
 jn (aD s_0 f_1 n 0) λ q16 =>
 some (-1)
set_option maxHeartbeats 4000000 in
theorem gx (n:Nat)(s_0:List aa)(f_1:aa→Option Bool)(F_f_1:FuncId)(C_f_1:List AV)(K_f_1:AV.mapA.go (λ _=>none) C_f_1=some C_f_1)(E_f_1:∀ vs w,(callFunc F_f_1 vs).run Tryz.prog w=.ok (.enter F_f_1 vs) w)(H_f_1:∀ (x0:aa) r,f_1 x0=some r→iH Tryz.prog F_f_1 ([.p (.agg (aa.cs x0))]++C_f_1) (·=.p (eB r)))(r:Int)(h0:ba n s_0 f_1=some r):iH Tryz.prog 35 [.p (eL ac s_0),.func (.func F_f_1) C_f_1] (·=.p (eI r)):=by
 unfold ba at h0
 refine xD good Tryz.func35 rfl rfl rfl λ w0=>mP (λ v:Int=>.p (eI v)) ?_
 refine nx 8 rfl (oLl (f:=ac) rfl rfl ?_)
 refine nx 3 rfl ?_
 obtain ⟨o17,h1,hL0,hR0⟩:=cU h0
 refine kEx 0 (λ v18:Unit=>o17=.inl v18) (λ v18=>⟨[],[]⟩) (λ v18 hv=>?_) ?_
 ·have h0:=hL0 _ hv
  exact nx 6 rfl (mQ (oi h0) rfl (sr))
 refine lG (λ (q19:Int)=>⟨[(0,.p (eL ac s_0)),(1,.func (.func F_f_1) C_f_1),(7,.p (eI (s_0.length:Int))),(8,.p (eI q19))],[]⟩) (λ m (q19:Int)=>aD s_0 f_1 m q19) (λ _=>rfl) 0 h1 (gE rfl rfl) ?_
 rintro m t8 h1
 replace h1:aD s_0 f_1 (m+1) t8=some o17:=h1
 rw [aD] at h1
 refine nx 5 rfl (fD [9] h1 rfl (λ c9 h1=>?_) λ c9 h1=>?_)
 ·refine nx 14 rfl (oE h1 aa.cells_eq rfl rfl (λ _=>rfl) λ hk10 h1=>?_)
  refine nx 1 rfl (bd h1 λ r11 e12 h1=>?_)
  refine mG (gFn 1 C_f_1 rfl (by simp only [we K_f_1])) (mG (gFn 11 C_f_1 rfl (by simp only [we K_f_1])) ?_)
  refine mO rfl (AH (q:=[.p (.agg (aa.cs (lat s_0 t8)))]) (H_f_1 (lat s_0 t8) _ e12) rfl rfl rfl rfl K_f_1 rfl rfl ⟨sr,trivial⟩ E_f_1 rfl ?_)
  refine nx 1 rfl (fB [16] h1 rfl (λ c13 h1=>?_) λ c13 h1=>?_)
  ·exact nx 7 rfl (mQ (hR0 _ (oi h1).symm) rfl (sr))
  refine nx 3 rfl (oA h1 rfl rfl λ hk14 h1=>?_)
  exact nx 2 rfl (eX (t8+1) h1 (gE rfl rfl))
 exact nx 2 rfl (eXi _ (oi h1).symm (gE rfl rfl))
def aS (n:Nat)(s_0:List aa)(f_1:aa→Option Bool):Option Bool :=
 (ba n s_0 f_1).bind λ r1 =>
 some (decide (0≤r1))
set_option maxHeartbeats 4000000 in
theorem fZ (n:Nat)(s_0:List aa)(f_1:aa→Option Bool)(F_f_1:FuncId)(C_f_1:List AV)(K_f_1:AV.mapA.go (λ _=>none) C_f_1=some C_f_1)(E_f_1:∀ vs w,(callFunc F_f_1 vs).run Tryz.prog w=.ok (.enter F_f_1 vs) w)(H_f_1:∀ (x0:aa) r,f_1 x0=some r→iH Tryz.prog F_f_1 ([.p (.agg (aa.cs x0))]++C_f_1) (·=.p (eB r)))(r:Bool)(h0:aS n s_0 f_1=some r):iH Tryz.prog 25 [.p (eL ac s_0),.func (.func F_f_1) C_f_1] (·=.p (eB r)):=by
 unfold aS at h0
 refine xD good Tryz.func25 rfl rfl rfl λ w0=>mP (λ v:Bool=>.p (eB v)) ?_
 refine nx 8 rfl (bd h0 λ r1 e2 h0=>?_)
 refine mO rfl (wa (gx _ s_0 f_1 F_f_1 C_f_1 K_f_1 E_f_1 H_f_1 _ e2) rfl rfl rfl rfl (lH rfl (lH (uE K_f_1) tM)) ⟨sr,sr,trivial⟩ Tryz.call35 rfl ?_)
 exact nx 4 rfl (mQ (oi h0) rfl (sr))
def bq (n:Nat)(c_0:aa)(cap_0:List Bytes)(cap_1:Int):Option Bool :=
 (
   if c_0.fAction=2 then
    (cq n c_0).bind λ r2 =>
    ck ((0:Int)≤cap_1∧cap_1 < (cap_0.length:Int)) <|
    some (decide (r2=lat cap_0 cap_1))
   else
    if c_0.fAction=3 then
     (cq n c_0).bind λ r6 =>
     ck ((0:Int)≤cap_1∧cap_1 < (cap_0.length:Int)) <|
     some (decide (r6=lat cap_0 cap_1))
    else
     some false
  : Option Bool).bind λ t9 =>
 some t9
set_option maxHeartbeats 4000000 in
theorem lS (n:Nat)(c_0:aa)(cap_0:List Bytes)(cap_1:Int)(r:Bool)(h0:bq n c_0 cap_0 cap_1=some r):iH Tryz.prog 26 [.p (.agg (aa.cs c_0)),.rptr ([(eL eS) cap_0]),.rptr ([eI cap_1])] (·=.p (eB r)):=by
 unfold bq at h0
 refine xD good Tryz.func26 rfl rfl rfl λ w0=>mP (λ v:Bool=>.p (eB v)) ?_
 refine nx 6 rfl (bd h0 λ o11 h1 h0=>?_)
 refine kN o11 (λ v12=>⟨[(4,.p (eB v12))],[]⟩) ?_ ?_
 ·exact nx 2 rfl (mQ (oi h0) rfl (sr))
 refine fD (p:=c_0.fAction=2) [] h1 rfl (λ c1 h1=>?_) λ c1 h1=>?_
 ·refine bd h1 λ r2 e3 h1=>cc' h1 λ hk4 h1=>mD [(1,.rptr [(eL eS) cap_0]),(2,.rptr [eI cap_1]),(3,.ptr 3 0)] rfl ⟨rfl,rfl,rfl,trivial⟩ rfl (dR 2 rfl ?_)
  refine dL (dt c1) rfl (dR 7 rfl ?_)
  refine dq (.p (eS r2)) [13,14] rfl (λ _ e _ q=>aA (aJ (gJ _ c_0 _ e3) rfl rfl rfl (au (e _ _ rfl) aK) ⟨sr,trivial⟩ Tryz.call27 rfl q) rfl rfl (e _ _ rfl) (rfl)) rfl (dR 2 rfl ?_)
  refine dq (.rptr [eS (lat cap_0 cap_1)]) [13,16,17] rfl (λ _ e _ q=>aA (bf (f:=eS) (l:=cap_0) (λ x=>[eS x]) rfl rfl rfl rfl rfl rfl (e _ _ rfl) rfl (e _ _ rfl) hk4 (λ _=>rfl) (λ _=>rfl) q) rfl rfl (e _ _ rfl) (rfl)) rfl (dR 1 rfl ?_)
  refine dq (.p (eB (decide (r2=lat cap_0 cap_1)))) [13,15,19] rfl (λ _ e _ q=>aA (ks rfl rfl rfl (e _ _ rfl) (e _ _ rfl) rfl q) rfl rfl (e _ _ rfl) (rfl)) rfl (dR 2 rfl ?_)
  refine dE rfl (nx 1 rfl ?_)
  exact eX _ (oi h1).symm (gE rfl rfl)
 refine fD (p:=c_0.fAction=3) [] h1 rfl (λ c5 h1=>?_) λ c5 h1=>?_
 ·refine bd h1 λ r6 e7 h1=>cc' h1 λ hk8 h1=>mD [(1,.rptr [(eL eS) cap_0]),(2,.rptr [eI cap_1]),(3,.ptr 3 0)] rfl ⟨rfl,rfl,rfl,trivial⟩ rfl (dR 2 rfl ?_)
  refine dL (df c1) rfl (dR 3 rfl ?_)
  refine dL (dt c5) rfl (dR 3 rfl ?_)
  refine dq (.p (eS r6)) [13,14] rfl (λ _ e _ q=>aA (aJ (gJ _ c_0 _ e7) rfl rfl rfl (au (e _ _ rfl) aK) ⟨sr,trivial⟩ Tryz.call27 rfl q) rfl rfl (e _ _ rfl) (rfl)) rfl (dR 2 rfl ?_)
  refine dq (.rptr [eS (lat cap_0 cap_1)]) [13,16,17] rfl (λ _ e _ q=>aA (bf (f:=eS) (l:=cap_0) (λ x=>[eS x]) rfl rfl rfl rfl rfl rfl (e _ _ rfl) rfl (e _ _ rfl) hk8 (λ _=>rfl) (λ _=>rfl) q) rfl rfl (e _ _ rfl) (rfl)) rfl (dR 1 rfl ?_)
  refine dq (.p (eB (decide (r6=lat cap_0 cap_1)))) [13,15,19] rfl (λ _ e _ q=>aA (ks rfl rfl rfl (e _ _ rfl) (e _ _ rfl) rfl q) rfl rfl (e _ _ rfl) (rfl)) rfl (dR 2 rfl ?_)
  refine dE rfl (nx 1 rfl ?_)
  exact eX _ (oi h1).symm (gE rfl rfl)
 refine mD [(1,.rptr [(eL eS) cap_0]),(2,.rptr [eI cap_1]),(3,.ptr 3 0)] rfl ⟨rfl,rfl,rfl,trivial⟩ rfl (dR 2 rfl ?_)
 refine dL (df c1) rfl (dR 3 rfl ?_)
 refine dL (df c5) rfl (dR 11 rfl ?_)
 refine dE rfl (nx 1 rfl ?_)
 exact eX _ (oi h1).symm (gE rfl rfl)
def bb (n:Nat)(triggers_0:List fH)(statics_1:List Bytes)(l_2:List aa):Nat→Int→Option (Unit⊕Bool)
 | 0,_=>none
 | m+1,t22 =>
 if t22 < (triggers_0.length:Int) then
  jn (
    ck ((0:Int)≤t22∧t22 < (triggers_0.length:Int)) <|
    (
      if (statics_1.length:Int)≤t22 then
       some true
      else
       some (!decide ((lat triggers_0 t22).fKind=3))
     : Option Bool).bind λ t26 =>
    if t26=true then
     some (.inl ())
    else
     (aS n l_2 (λ x0=>bq n x0 statics_1 t22)).bind λ r29 =>
     if r29=true then
      some (.inr (.inr true))
     else
      some (.inl ())
   : Option (Unit⊕(Unit⊕Bool))) λ q35 =>
  ck (inR (t22+1)) <|
  bb n triggers_0 statics_1 l_2 m (t22+1)
 else
  some (.inl ())
def cg (n:Nat)(triggers_0:List fH)(statics_1:List Bytes)(l_2:List aa):Option Bool :=
 jn (bb n triggers_0 statics_1 l_2 n 0) λ q34 =>
 some false
set_option maxHeartbeats 4000000 in
theorem gn (n:Nat)(triggers_0:List fH)(statics_1:List Bytes)(l_2:List aa)(r:Bool)(h0:cg n triggers_0 statics_1 l_2=some r):aB Tryz.prog 15 [eL ic triggers_0,eL eS statics_1,eL ac l_2] (·=.p (eB r)):=by
 unfold cg at h0
 refine aU good Tryz.func15 rfl rfl rfl λ w0=>mP (λ v:Bool=>.p (eB v)) ?_
 refine nx 9 rfl (oLl (f:=ic) rfl rfl ?_)
 refine nx 3 rfl (mG (pn 4 (cs:=[(eL eS) statics_1]) rfl rfl rfl) ?_)
 obtain ⟨o37,h1,hL0,hR0⟩:=cU h0
 refine kEx 0 (λ v38:Unit=>o37=.inl v38) (λ v38=>⟨[],[]⟩) (λ v38 hv=>?_) ?_
 ·have h0:=hL0 _ hv
  exact nx 6 rfl (mQ (oi h0) rfl (sr))
 refine lG (λ (q39:Int)=>⟨[(2,.p (eL ac l_2)),(4,.rptr [(eL eS) statics_1]),(9,.p (eL ic triggers_0)),(10,.p (eI (triggers_0.length:Int))),(11,.p (eI q39))],[]⟩) (λ m (q39:Int)=>bb n triggers_0 statics_1 l_2 m q39) (λ _=>rfl) 0 h1 (gE rfl rfl) ?_
 rintro m t22 h1
 replace h1:bb n triggers_0 statics_1 l_2 (m+1) t22=some o37:=h1
 rw [bb] at h1
 refine nx 5 rfl (fD [12] h1 rfl (λ c23 h1=>?_) λ c23 h1=>?_)
 ·refine nx 3 rfl ?_
  obtain ⟨o40,h2,hL1,hR1⟩:=cU h1
  refine kX (λ v41:Unit=>o40=.inl v41) (λ v41=>⟨[(2,.p (eL ac l_2)),(4,.rptr [(eL eS) statics_1]),(9,.p (eL ic triggers_0)),(10,.p (eI (triggers_0.length:Int))),(11,.p (eI t22))],[]⟩) (λ v41 hv=>?_) ?_
  ·have h1:=hL1 _ hv
   refine nx 2 rfl (oA h1 rfl rfl λ hk32 h1=>?_)
   exact nx 2 rfl (eX (t22+1) h1 (gE rfl rfl))
  refine nx 4 rfl (oE h2 fH.cells_eq rfl rfl (λ _=>rfl) λ hk24 h2=>?_)
  refine nx 8 rfl (bd h2 λ o42 h3 h2=>?_)
  refine kN o42 (λ v43=>⟨[(2,.p (eL ac l_2)),(4,.rptr [(eL eS) statics_1]),(7,.ptr 7 0),(9,.p (eL ic triggers_0)),(10,.p (eI (triggers_0.length:Int))),(11,.p (eI t22)),(24,.p (eB v43))],[(7,[.p (eI t22)])]⟩) ?_ ?_
  ·refine nx 1 rfl (fB [24] h2 rfl (λ c27 h2=>?_) λ c27 h2=>?_)
   ·exact nx 2 rfl (eX _ (oi h2).symm (gE rfl rfl))
   refine nx 5 rfl (mG (pn 7 (cs:=[eI t22]) rfl rfl rfl) ?_)
   refine mO rfl (wo rfl rfl rfl rfl ?_)
   refine bd h2 λ r29 e30 h2=>mO rfl (wa (fZ _ l_2 (λ x0=>bq n x0 statics_1 t22) 26 ([.rptr [(eL eS) statics_1],.rptr [eI t22]]) rfl Tryz.call26 (λ x0 r h=>lS _ x0 statics_1 t22 r h) _ e30) rfl rfl rfl rfl (lH rfl (lH (uE rfl) tM)) ⟨sr,sr,trivial⟩ Tryz.call25 rfl ?_)
   refine nx 1 rfl (fB [27] h2 rfl (λ c31 h2=>?_) λ c31 h2=>?_)
   ·exact nx 6 rfl (mQ (hR0 _ (hR1 _ (oi h2).symm).symm) rfl (sr))
   exact nx 2 rfl (eX _ (oi h2).symm (gE rfl rfl))
  refine nx 3 rfl (oLl (f:=eS) rfl rfl ?_)
  refine nx 2 rfl (fD [19,20] h3 rfl (λ c25 h3=>?_) λ c25 h3=>?_)
  ·exact nx 5 rfl (eX _ (oi h3).symm (gE rfl rfl))
  exact nx 5 rfl (eX _ (oi h3).symm (gE rfl rfl))
 exact nx 2 rfl (eXi _ (oi h1).symm (gE rfl rfl))
end Go.Ab.R06
end
section
set_option linter.unusedVariables false
set_option linter.unusedSimpArgs false
set_option linter.unnecessarySimpa false
namespace Go.Ab.R06
open Go.Proofs Go.Ab Go.Ab.RB
attribute [local irreducible] awp gO aY aB cD AV.sub M dh
def cF (n:Nat):Option Bool :=
 (bo n ([(aa.mk ([116,46,97]:Bytes) ([]:Bytes) ([]:Bytes) 3 0 (ah.mk 0 0 ([]:Bytes) [] []) (ah.mk 0 0 ([]:Bytes) [] []) ([]:Bytes) [] true false false ([([116,46,98]:Bytes)]) []),(aa.mk ([116,46,98,91,48,93]:Bytes) ([]:Bytes) ([]:Bytes) 0 0 (ah.mk 0 0 ([]:Bytes) [] []) (ah.mk 0 0 ([]:Bytes) [] []) ([]:Bytes) [] false false false [] ([([116,46,99]:Bytes)])),(aa.mk ([116,46,99]:Bytes) ([]:Bytes) ([]:Bytes) 3 0 (ah.mk 0 0 ([]:Bytes) [] []) (ah.mk 0 0 ([]:Bytes) [] []) ([]:Bytes) [] false true false [] [])])).bind λ r1 =>
 (cj n ([(aa.mk ([116,46,97]:Bytes) ([]:Bytes) ([]:Bytes) 3 0 (ah.mk 0 0 ([]:Bytes) [] []) (ah.mk 0 0 ([]:Bytes) [] []) ([]:Bytes) [] true false false ([([116,46,98]:Bytes)]) []),(aa.mk ([116,46,98,91,48,93]:Bytes) ([]:Bytes) ([]:Bytes) 0 0 (ah.mk 0 0 ([]:Bytes) [] []) (ah.mk 0 0 ([]:Bytes) [] []) ([]:Bytes) [] false false false [] ([([116,46,99]:Bytes)])),(aa.mk ([116,46,99]:Bytes) ([]:Bytes) ([]:Bytes) 3 0 (ah.mk 0 0 ([]:Bytes) [] []) (ah.mk 0 0 ([]:Bytes) [] []) ([]:Bytes) [] false true false [] [])])).bind λ r3 =>
 ck ((0:Int)≤0∧(0:Int)≤2∧(2:Int)≤(([(aa.mk ([116,46,97]:Bytes) ([]:Bytes) ([]:Bytes) 3 0 (ah.mk 0 0 ([]:Bytes) [] []) (ah.mk 0 0 ([]:Bytes) [] []) ([]:Bytes) [] true false false ([([116,46,98]:Bytes)]) []),(aa.mk ([116,46,98,91,48,93]:Bytes) ([]:Bytes) ([]:Bytes) 0 0 (ah.mk 0 0 ([]:Bytes) [] []) (ah.mk 0 0 ([]:Bytes) [] []) ([]:Bytes) [] false false false [] ([([116,46,99]:Bytes)])),(aa.mk ([116,46,99]:Bytes) ([]:Bytes) ([]:Bytes) 3 0 (ah.mk 0 0 ([]:Bytes) [] []) (ah.mk 0 0 ([]:Bytes) [] []) ([]:Bytes) [] false true false [] [])]).length:Int)) <|
 (cj n (sub ([(aa.mk ([116,46,97]:Bytes) ([]:Bytes) ([]:Bytes) 3 0 (ah.mk 0 0 ([]:Bytes) [] []) (ah.mk 0 0 ([]:Bytes) [] []) ([]:Bytes) [] true false false ([([116,46,98]:Bytes)]) []),(aa.mk ([116,46,98,91,48,93]:Bytes) ([]:Bytes) ([]:Bytes) 0 0 (ah.mk 0 0 ([]:Bytes) [] []) (ah.mk 0 0 ([]:Bytes) [] []) ([]:Bytes) [] false false false [] ([([116,46,99]:Bytes)])),(aa.mk ([116,46,99]:Bytes) ([]:Bytes) ([]:Bytes) 3 0 (ah.mk 0 0 ([]:Bytes) [] []) (ah.mk 0 0 ([]:Bytes) [] []) ([]:Bytes) [] false true false [] [])]) 0 2)).bind λ r6 =>
 (
   if (r1.length:Int)=3 then
    ck ((0:Int)≤0∧0 < (r1.length:Int)) <|
    if ((lat r1 0).fCreateFirst)=true then
     ck ((0:Int)≤1∧1 < (r1.length:Int)) <|
     if (!((lat r1 1).fCreateFirst))=true then
      ck ((0:Int)≤2∧2 < (r1.length:Int)) <|
      if ((lat r1 2).fCreateFirst)=true then
       ck ((0:Int)≤2∧2 < (([(aa.mk ([116,46,97]:Bytes) ([]:Bytes) ([]:Bytes) 3 0 (ah.mk 0 0 ([]:Bytes) [] []) (ah.mk 0 0 ([]:Bytes) [] []) ([]:Bytes) [] true false false ([([116,46,98]:Bytes)]) []),(aa.mk ([116,46,98,91,48,93]:Bytes) ([]:Bytes) ([]:Bytes) 0 0 (ah.mk 0 0 ([]:Bytes) [] []) (ah.mk 0 0 ([]:Bytes) [] []) ([]:Bytes) [] false false false [] ([([116,46,99]:Bytes)])),(aa.mk ([116,46,99]:Bytes) ([]:Bytes) ([]:Bytes) 3 0 (ah.mk 0 0 ([]:Bytes) [] []) (ah.mk 0 0 ([]:Bytes) [] []) ([]:Bytes) [] false true false [] [])]).length:Int)) <|
       if (!((lat ([(aa.mk ([116,46,97]:Bytes) ([]:Bytes) ([]:Bytes) 3 0 (ah.mk 0 0 ([]:Bytes) [] []) (ah.mk 0 0 ([]:Bytes) [] []) ([]:Bytes) [] true false false ([([116,46,98]:Bytes)]) []),(aa.mk ([116,46,98,91,48,93]:Bytes) ([]:Bytes) ([]:Bytes) 0 0 (ah.mk 0 0 ([]:Bytes) [] []) (ah.mk 0 0 ([]:Bytes) [] []) ([]:Bytes) [] false false false [] ([([116,46,99]:Bytes)])),(aa.mk ([116,46,99]:Bytes) ([]:Bytes) ([]:Bytes) 3 0 (ah.mk 0 0 ([]:Bytes) [] []) (ah.mk 0 0 ([]:Bytes) [] []) ([]:Bytes) [] false true false [] [])]) 2).fCreateFirst))=true then
        if r3.1=([116,46,99]:Bytes) then
         if r3.2=true then
          if (!r6.2)=true then
           (cg n ([(fH.mk 3 ([116]:Bytes) ([99]:Bytes) 0)]) ([([116,46,99]:Bytes)]) ([(aa.mk ([116,46,97]:Bytes) ([]:Bytes) ([]:Bytes) 3 0 (ah.mk 0 0 ([]:Bytes) [] []) (ah.mk 0 0 ([]:Bytes) [] []) ([]:Bytes) [] true false false ([([116,46,98]:Bytes)]) []),(aa.mk ([116,46,98,91,48,93]:Bytes) ([]:Bytes) ([]:Bytes) 0 0 (ah.mk 0 0 ([]:Bytes) [] []) (ah.mk 0 0 ([]:Bytes) [] []) ([]:Bytes) [] false false false [] ([([116,46,99]:Bytes)])),(aa.mk ([116,46,99]:Bytes) ([]:Bytes) ([]:Bytes) 3 0 (ah.mk 0 0 ([]:Bytes) [] []) (ah.mk 0 0 ([]:Bytes) [] []) ([]:Bytes) [] false true false [] [])])).bind λ r20 =>
           if r20=true then
            (cg n ([(fH.mk 3 ([116]:Bytes) ([99]:Bytes) 0)]) ([([116,46,98]:Bytes)]) ([(aa.mk ([116,46,97]:Bytes) ([]:Bytes) ([]:Bytes) 3 0 (ah.mk 0 0 ([]:Bytes) [] []) (ah.mk 0 0 ([]:Bytes) [] []) ([]:Bytes) [] true false false ([([116,46,98]:Bytes)]) []),(aa.mk ([116,46,98,91,48,93]:Bytes) ([]:Bytes) ([]:Bytes) 0 0 (ah.mk 0 0 ([]:Bytes) [] []) (ah.mk 0 0 ([]:Bytes) [] []) ([]:Bytes) [] false false false [] ([([116,46,99]:Bytes)])),(aa.mk ([116,46,99]:Bytes) ([]:Bytes) ([]:Bytes) 3 0 (ah.mk 0 0 ([]:Bytes) [] []) (ah.mk 0 0 ([]:Bytes) [] []) ([]:Bytes) [] false true false [] [])])).bind λ r23 =>
            some (!r23)
           else
            some false
          else
           some false
         else
          some false
        else
         some false
       else
        some false
      else
       some false
     else
      some false
    else
     some false
   else
    some false
  : Option Bool).bind λ t25 =>
 some t25
set_option maxHeartbeats 4000000 in
theorem dG (n:Nat)(r:Bool)(h0:cF n=some r):aB Tryz.prog 9 [] (·=.p (eB r)):=by
 unfold cF at h0
 refine aU good Tryz.func9 rfl rfl rfl λ w0=>mP (λ v:Bool=>.p (eB v)) ?_
 refine nx 6 rfl (mO rfl (bS eS [([116,46,98]:Bytes)] rfl rfl rfl rfl rfl rfl rfl rfl rfl rfl rfl rfl rfl rfl ?_))
 refine nx 1 rfl (mO rfl (bS eS [([116,46,99]:Bytes)] rfl rfl rfl rfl rfl rfl rfl rfl rfl rfl rfl rfl rfl rfl ?_))
 refine nx 2 rfl (mG (kL 9 (y:=.p (.agg (aa.cs (aa.mk ([116,46,97]:Bytes) ([]:Bytes) ([]:Bytes) 3 0 (ah.mk 0 0 ([]:Bytes) [] []) (ah.mk 0 0 ([]:Bytes) [] []) ([]:Bytes) [] true false false ([([116,46,98]:Bytes)]) [])))) rfl (gi ⟨.inl rfl,.inl rfl,.inl rfl,.inl rfl,.inl rfl,.inl rfl,.inl rfl,.inl rfl,.inr ⟨rfl,rfl⟩,.inr ⟨rfl,rfl⟩,.inl rfl,.inl rfl,.inl rfl,.inr ⟨rfl,rfl⟩,.inr ⟨rfl,rfl⟩,.inl rfl,.inr ⟨rfl,rfl⟩,.inl rfl,.inl rfl,.inl rfl,.inl rfl,.inr ⟨rfl,rfl⟩,trivial⟩)) ?_)
 refine mG (kL 11 (y:=.p (.agg (aa.cs (aa.mk ([116,46,98,91,48,93]:Bytes) ([]:Bytes) ([]:Bytes) 0 0 (ah.mk 0 0 ([]:Bytes) [] []) (ah.mk 0 0 ([]:Bytes) [] []) ([]:Bytes) [] false false false [] ([([116,46,99]:Bytes)]))))) rfl (gi ⟨.inl rfl,.inl rfl,.inl rfl,.inl rfl,.inl rfl,.inl rfl,.inl rfl,.inl rfl,.inr ⟨rfl,rfl⟩,.inr ⟨rfl,rfl⟩,.inl rfl,.inl rfl,.inl rfl,.inr ⟨rfl,rfl⟩,.inr ⟨rfl,rfl⟩,.inl rfl,.inr ⟨rfl,rfl⟩,.inl rfl,.inl rfl,.inl rfl,.inr ⟨rfl,rfl⟩,.inl rfl,trivial⟩)) (mG (kL 12 (y:=.p (.agg (aa.cs (aa.mk ([116,46,99]:Bytes) ([]:Bytes) ([]:Bytes) 3 0 (ah.mk 0 0 ([]:Bytes) [] []) (ah.mk 0 0 ([]:Bytes) [] []) ([]:Bytes) [] false true false [] [])))) rfl (gi ⟨.inl rfl,.inl rfl,.inl rfl,.inl rfl,.inl rfl,.inl rfl,.inl rfl,.inl rfl,.inr ⟨rfl,rfl⟩,.inr ⟨rfl,rfl⟩,.inl rfl,.inl rfl,.inl rfl,.inr ⟨rfl,rfl⟩,.inr ⟨rfl,rfl⟩,.inl rfl,.inr ⟨rfl,rfl⟩,.inl rfl,.inl rfl,.inl rfl,.inr ⟨rfl,rfl⟩,.inr ⟨rfl,rfl⟩,trivial⟩)) ?_)
 refine mO rfl (bS ac [(aa.mk ([116,46,97]:Bytes) ([]:Bytes) ([]:Bytes) 3 0 (ah.mk 0 0 ([]:Bytes) [] []) (ah.mk 0 0 ([]:Bytes) [] []) ([]:Bytes) [] true false false ([([116,46,98]:Bytes)]) []),(aa.mk ([116,46,98,91,48,93]:Bytes) ([]:Bytes) ([]:Bytes) 0 0 (ah.mk 0 0 ([]:Bytes) [] []) (ah.mk 0 0 ([]:Bytes) [] []) ([]:Bytes) [] false false false [] ([([116,46,99]:Bytes)])),(aa.mk ([116,46,99]:Bytes) ([]:Bytes) ([]:Bytes) 3 0 (ah.mk 0 0 ([]:Bytes) [] []) (ah.mk 0 0 ([]:Bytes) [] []) ([]:Bytes) [] false true false [] [])] rfl rfl rfl rfl rfl rfl rfl rfl rfl rfl rfl rfl rfl (by first | rfl | (simp only [List.map_cons,List.map_nil,aa.agg_eq]; done) | (simp only [List.map_cons,List.map_nil,aa.agg_eq]; rfl)) ?_)
 refine nx 5 rfl (bd h0 λ r1 e2 h0=>?_)
 refine oK (cH _ ([(aa.mk ([116,46,97]:Bytes) ([]:Bytes) ([]:Bytes) 3 0 (ah.mk 0 0 ([]:Bytes) [] []) (ah.mk 0 0 ([]:Bytes) [] []) ([]:Bytes) [] true false false ([([116,46,98]:Bytes)]) []),(aa.mk ([116,46,98,91,48,93]:Bytes) ([]:Bytes) ([]:Bytes) 0 0 (ah.mk 0 0 ([]:Bytes) [] []) (ah.mk 0 0 ([]:Bytes) [] []) ([]:Bytes) [] false false false [] ([([116,46,99]:Bytes)])),(aa.mk ([116,46,99]:Bytes) ([]:Bytes) ([]:Bytes) 3 0 (ah.mk 0 0 ([]:Bytes) [] []) (ah.mk 0 0 ([]:Bytes) [] []) ([]:Bytes) [] false true false [] [])]) _ e2) rfl ⟨sr,trivial⟩ Tryz.call10 rfl (nx 5 rfl ?_)
 refine bd h0 λ r3 e4 h0=>oK (gt _ ([(aa.mk ([116,46,97]:Bytes) ([]:Bytes) ([]:Bytes) 3 0 (ah.mk 0 0 ([]:Bytes) [] []) (ah.mk 0 0 ([]:Bytes) [] []) ([]:Bytes) [] true false false ([([116,46,98]:Bytes)]) []),(aa.mk ([116,46,98,91,48,93]:Bytes) ([]:Bytes) ([]:Bytes) 0 0 (ah.mk 0 0 ([]:Bytes) [] []) (ah.mk 0 0 ([]:Bytes) [] []) ([]:Bytes) [] false false false [] ([([116,46,99]:Bytes)])),(aa.mk ([116,46,99]:Bytes) ([]:Bytes) ([]:Bytes) 3 0 (ah.mk 0 0 ([]:Bytes) [] []) (ah.mk 0 0 ([]:Bytes) [] []) ([]:Bytes) [] false true false [] [])]) _ e4) rfl ⟨sr,trivial⟩ Tryz.call13 rfl (nx 9 rfl ?_)
 refine cc' h0 λ hk5 h0=>mO rfl (zQ (f:=ac) (l:=[(aa.mk ([116,46,97]:Bytes) ([]:Bytes) ([]:Bytes) 3 0 (ah.mk 0 0 ([]:Bytes) [] []) (ah.mk 0 0 ([]:Bytes) [] []) ([]:Bytes) [] true false false ([([116,46,98]:Bytes)]) []),(aa.mk ([116,46,98,91,48,93]:Bytes) ([]:Bytes) ([]:Bytes) 0 0 (ah.mk 0 0 ([]:Bytes) [] []) (ah.mk 0 0 ([]:Bytes) [] []) ([]:Bytes) [] false false false [] ([([116,46,99]:Bytes)])),(aa.mk ([116,46,99]:Bytes) ([]:Bytes) ([]:Bytes) 3 0 (ah.mk 0 0 ([]:Bytes) [] []) (ah.mk 0 0 ([]:Bytes) [] []) ([]:Bytes) [] false true false [] [])]) rfl rfl rfl rfl rfl rfl rfl rfl rfl rfl hk5 (λ x=>congrArg List.length (aa.cells_eq x)) ?_)
 refine bd h0 λ r6 e7 h0=>oK (gt _ (sub ([(aa.mk ([116,46,97]:Bytes) ([]:Bytes) ([]:Bytes) 3 0 (ah.mk 0 0 ([]:Bytes) [] []) (ah.mk 0 0 ([]:Bytes) [] []) ([]:Bytes) [] true false false ([([116,46,98]:Bytes)]) []),(aa.mk ([116,46,98,91,48,93]:Bytes) ([]:Bytes) ([]:Bytes) 0 0 (ah.mk 0 0 ([]:Bytes) [] []) (ah.mk 0 0 ([]:Bytes) [] []) ([]:Bytes) [] false false false [] ([([116,46,99]:Bytes)])),(aa.mk ([116,46,99]:Bytes) ([]:Bytes) ([]:Bytes) 3 0 (ah.mk 0 0 ([]:Bytes) [] []) (ah.mk 0 0 ([]:Bytes) [] []) ([]:Bytes) [] false true false [] [])]) 0 2) _ e7) rfl ⟨sr,trivial⟩ Tryz.call13 rfl (nx 9 rfl ?_)
 refine mO rfl (bS ic [(fH.mk 3 ([116]:Bytes) ([99]:Bytes) 0)] rfl rfl rfl rfl rfl rfl rfl rfl rfl rfl rfl rfl rfl (by first | rfl | (simp only [List.map_cons,List.map_nil,fH.agg_eq]; done) | (simp only [List.map_cons,List.map_nil,fH.agg_eq]; rfl)) ?_)
 refine nx 3 rfl (bd h0 λ o27 h1 h0=>?_)
 refine kN o27 (λ v28=>⟨[(0,.p (eB v28))],[]⟩) ?_ ?_
 ·exact nx 2 rfl (mQ (oi h0) rfl (sr))
 refine nx 2 rfl (oLl (f:=ac) rfl rfl ?_)
 refine nx 2 rfl (fD [31,32] h1 rfl (λ c8 h1=>?_) λ c8 h1=>?_)
 ·refine nx 1 rfl (oE h1 aa.cells_eq rfl rfl (λ _=>rfl) λ hk9 h1=>?_)
  refine nx 4 rfl (fB [36,37,38] h1 rfl (λ c10 h1=>?_) λ c10 h1=>?_)
  ·refine nx 1 rfl (oE h1 aa.cells_eq rfl rfl (λ _=>rfl) λ hk11 h1=>?_)
   refine nx 5 rfl (fB [43,44,45] h1 rfl (λ c12 h1=>?_) λ c12 h1=>?_)
   ·refine nx 1 rfl (oE h1 aa.cells_eq rfl rfl (λ _=>rfl) λ hk13 h1=>?_)
    refine nx 4 rfl (fB [49,50,51] h1 rfl (λ c14 h1=>?_) λ c14 h1=>?_)
    ·refine nx 1 rfl (oE h1 aa.cells_eq rfl rfl (λ _=>rfl) λ hk15 h1=>?_)
     refine nx 5 rfl (fB [56,57,58] h1 rfl (λ c16 h1=>?_) λ c16 h1=>?_)
     ·refine nx 1 rfl (oS rfl rfl ?_)
      refine nx 2 rfl (fD [60,61,62] h1 rfl (λ c17 h1=>?_) λ c17 h1=>?_)
      ·refine nx 3 rfl (fB [4,20,63,64,65] h1 rfl (λ c18 h1=>?_) λ c18 h1=>?_)
       ·refine nx 4 rfl (fB [67,68,69] h1 rfl (λ c19 h1=>?_) λ c19 h1=>?_)
        ·refine nx 1 rfl (mO rfl (bS eS [([116,46,99]:Bytes)] rfl rfl rfl rfl rfl rfl rfl rfl rfl rfl rfl rfl rfl rfl ?_))
         refine nx 1 rfl (bd h1 λ r20 e21 h1=>?_)
         refine oK (gn _ ([(fH.mk 3 ([116]:Bytes) ([99]:Bytes) 0)]) ([([116,46,99]:Bytes)]) ([(aa.mk ([116,46,97]:Bytes) ([]:Bytes) ([]:Bytes) 3 0 (ah.mk 0 0 ([]:Bytes) [] []) (ah.mk 0 0 ([]:Bytes) [] []) ([]:Bytes) [] true false false ([([116,46,98]:Bytes)]) []),(aa.mk ([116,46,98,91,48,93]:Bytes) ([]:Bytes) ([]:Bytes) 0 0 (ah.mk 0 0 ([]:Bytes) [] []) (ah.mk 0 0 ([]:Bytes) [] []) ([]:Bytes) [] false false false [] ([([116,46,99]:Bytes)])),(aa.mk ([116,46,99]:Bytes) ([]:Bytes) ([]:Bytes) 3 0 (ah.mk 0 0 ([]:Bytes) [] []) (ah.mk 0 0 ([]:Bytes) [] []) ([]:Bytes) [] false true false [] [])]) _ e21) rfl ⟨sr,sr,sr,trivial⟩ Tryz.call15 rfl (nx 2 rfl ?_)
         refine fB [73,74,75] h1 rfl (λ c22 h1=>?_) λ c22 h1=>?_
         ·refine nx 1 rfl (mO rfl (bS eS [([116,46,98]:Bytes)] rfl rfl rfl rfl rfl rfl rfl rfl rfl rfl rfl rfl rfl rfl ?_))
          refine nx 1 rfl (bd h1 λ r23 e24 h1=>?_)
          refine oK (gn _ ([(fH.mk 3 ([116]:Bytes) ([99]:Bytes) 0)]) ([([116,46,98]:Bytes)]) ([(aa.mk ([116,46,97]:Bytes) ([]:Bytes) ([]:Bytes) 3 0 (ah.mk 0 0 ([]:Bytes) [] []) (ah.mk 0 0 ([]:Bytes) [] []) ([]:Bytes) [] true false false ([([116,46,98]:Bytes)]) []),(aa.mk ([116,46,98,91,48,93]:Bytes) ([]:Bytes) ([]:Bytes) 0 0 (ah.mk 0 0 ([]:Bytes) [] []) (ah.mk 0 0 ([]:Bytes) [] []) ([]:Bytes) [] false false false [] ([([116,46,99]:Bytes)])),(aa.mk ([116,46,99]:Bytes) ([]:Bytes) ([]:Bytes) 3 0 (ah.mk 0 0 ([]:Bytes) [] []) (ah.mk 0 0 ([]:Bytes) [] []) ([]:Bytes) [] false true false [] [])]) _ e24) rfl ⟨sr,sr,sr,trivial⟩ Tryz.call15 rfl (nx 4 rfl ?_)
          exact eX _ (oi h1).symm (gE rfl rfl)
         exact nx 8 rfl (eX _ (oi h1).symm (gE rfl rfl))
        exact nx 14 rfl (eX _ (oi h1).symm (gE rfl rfl))
       exact nx 18 rfl (eX _ (oi h1).symm (gE rfl rfl))
      exact nx 21 rfl (eX _ (oi h1).symm (gE rfl rfl))
     exact nx 25 rfl (eX _ (oi h1).symm (gE rfl rfl))
    exact nx 32 rfl (eX _ (oi h1).symm (gE rfl rfl))
   exact nx 38 rfl (eX _ (oi h1).symm (gE rfl rfl))
  exact nx 45 rfl (eX _ (oi h1).symm (gE rfl rfl))
 exact nx 51 rfl (eX _ (oi h1).symm (gE rfl rfl))
def eP (l_0:List aa):Nat→Int→Option (Unit⊕Bool)
 | 0,_=>none
 | m+1,i13 =>
 (
   if i13 < (l_0.length:Int) then
    some (decide (i13 < 30))
   else
    some false
  : Option Bool).bind λ t15 =>
 if t15=true then
  (
    ck ((0:Int)≤i13∧i13 < (l_0.length:Int)) <|
    if 30 < (((lat l_0 i13).fDeps).length:Int) then
     some true
    else
     ck ((0:Int)≤i13∧i13 < (l_0.length:Int)) <|
     if 30 < (((lat l_0 i13).fOldDeps).length:Int) then
      some true
     else
      ck ((0:Int)≤i13∧i13 < (l_0.length:Int)) <|
      some (decide (30 < (((lat l_0 i13).fReplace).length:Int)))
   : Option Bool).bind λ t22 =>
  if t22=true then
   some (.inr false)
  else
   ck (inR (i13+1)) <|
   eP l_0 m (i13+1)
 else
  some (.inl ())
def hH (n:Nat)(l_0:List aa):Option Bool :=
 jn (eP l_0 n 0) λ q26 =>
 some (decide ((l_0.length:Int)≤30))
set_option maxHeartbeats 4000000 in
theorem ju (n:Nat)(l_0:List aa)(r:Bool)(h0:hH n l_0=some r):aB Tryz.prog 8 [eL ac l_0] (·=.p (eB r)):=by
 unfold hH at h0
 refine aU good Tryz.func8 rfl rfl rfl λ w0=>mP (λ v:Bool=>.p (eB v)) ?_
 refine nx 10 rfl ?_
 obtain ⟨o29,h1,hL0,hR0⟩:=cU h0
 refine kEx 0 (λ v30:Unit=>o29=.inl v30) (λ v30=>⟨[(0,.p (eL ac l_0))],[]⟩) (λ v30 hv=>?_) ?_
 ·have h0:=hL0 _ hv
  refine nx 4 rfl (oLl (f:=ac) rfl rfl ?_)
  exact nx 4 rfl (mQ (oi h0) rfl (sr))
 refine lG (λ (q31:Int)=>⟨[(0,.p (eL ac l_0)),(3,.p (eI q31))],[]⟩) (λ m (q31:Int)=>eP l_0 m q31) (λ _=>rfl) 0 h1 (gE rfl rfl) ?_
 rintro m i13 h1
 replace h1:eP l_0 (m+1) i13=some o29:=h1
 rw [eP] at h1
 refine nx 2 rfl (bd h1 λ o32 h2 h1=>?_)
 refine kN o32 (λ v33=>⟨[(0,.p (eL ac l_0)),(3,.p (eI i13)),(11,.p (eB v33))],[]⟩) ?_ ?_
 ·refine nx 1 rfl (fB [11] h1 rfl (λ c16 h1=>?_) λ c16 h1=>?_)
  ·refine nx 5 rfl (bd h1 λ o34 h2 h1=>?_)
   refine kN o34 (λ v35=>⟨[(0,.p (eL ac l_0)),(3,.p (eI i13)),(38,.p (eB v35))],[]⟩) ?_ ?_
   ·refine nx 1 rfl (fB [38] h1 rfl (λ c23 h1=>?_) λ c23 h1=>?_)
    ·exact nx 6 rfl (mQ (hR0 _ (oi h1).symm) rfl (sr))
    refine nx 4 rfl (oA h1 rfl rfl λ hk24 h1=>?_)
    exact nx 2 rfl (eX (i13+1) h1 (gE rfl rfl))
   refine nx 3 rfl (oE h2 aa.cells_eq rfl rfl (λ _=>rfl) λ hk17 h2=>?_)
   refine nx 2 rfl (oLl (f:=eS) rfl rfl ?_)
   refine nx 2 rfl (fD [20,21] h2 rfl (λ c18 h2=>?_) λ c18 h2=>?_)
   ·exact nx 18 rfl (eX _ (oi h2).symm (gE rfl rfl))
   refine nx 2 rfl (oE h2 aa.cells_eq rfl rfl (λ _=>rfl) λ hk19 h2=>?_)
   refine nx 2 rfl (oLl (f:=eS) rfl rfl ?_)
   refine nx 3 rfl (fD [28,29,30] h2 rfl (λ c20 h2=>?_) λ c20 h2=>?_)
   ·exact nx 9 rfl (eX _ (oi h2).symm (gE rfl rfl))
   refine nx 2 rfl (oE h2 aa.cells_eq rfl rfl (λ _=>rfl) λ hk21 h2=>?_)
   refine nx 2 rfl (oLl (f:=eS) rfl rfl ?_)
   exact nx 3 rfl (eX _ (oi h2).symm (gE rfl rfl))
  exact nx 2 rfl (eXi _ (oi h1).symm (gE rfl rfl))
 refine nx 3 rfl (oLl (f:=ac) rfl rfl ?_)
 refine nx 2 rfl (fD [7,8] h2 rfl (λ c14 h2=>?_) λ c14 h2=>?_)
 ·exact nx 4 rfl (eX _ (oi h2).symm (gE rfl rfl))
 exact nx 4 rfl (eX _ (oi h2).symm (gE rfl rfl))
def iW (c_0:aa):Option Bool :=
 (
   if c_0.fAction=3 then
    some c_0.fCreateFirst
   else
    some false
  : Option Bool).bind λ t2 =>
 some t2
set_option maxHeartbeats 4000000 in
theorem jh (c_0:aa)(r:Bool)(h0:iW c_0=some r):aB Tryz.prog 18 [.agg (aa.cs c_0)] (·=.p (eB r)):=by
 unfold iW at h0
 refine aU good Tryz.func18 rfl rfl rfl λ w0=>mP (λ v:Bool=>.p (eB v)) ?_
 refine nx 6 rfl (bd h0 λ o4 h1 h0=>?_)
 refine kN o4 (λ v5=>⟨[(2,.p (eB v5))],[]⟩) ?_ ?_
 ·exact nx 2 rfl (mQ (oi h0) rfl (sr))
 refine nx 5 rfl (fD [5,6] h1 rfl (λ c1 h1=>?_) λ c1 h1=>?_)
 ·exact nx 5 rfl (eX _ (oi h1).symm (gE rfl rfl))
 exact nx 5 rfl (eX _ (oi h1).symm (gE rfl rfl))
def gV (n:Nat)(c_0:aa):Option Bytes :=
 (g7 n c_0.fAddr).bind λ r1 =>
 if r1.2=0 then
  some r1.1
 else
  some c_0.fAddr
set_option maxHeartbeats 4000000 in
theorem qh (n:Nat)(c_0:aa)(r:Bytes)(h0:gV n c_0=some r):aB Tryz.prog 29 [.agg (aa.cs c_0)] (·=.p (eS r)):=by
 unfold gV at h0
 refine aU good Tryz.func29 rfl rfl rfl λ w0=>mP (λ v:Bytes=>.p (eS v)) ?_
 refine nx 9 rfl (bd h0 λ r1 e2 h0=>?_)
 refine oK (nh _ c_0.fAddr _ e2) rfl ⟨sr,trivial⟩ Tryz.call37 rfl (nx 12 rfl ?_)
 refine fN [12] h0 rfl (λ c3 h0=>?_) λ c3 h0=>?_
 ·exact nx 8 rfl (mQ (oi h0) rfl (sr))
 exact nx 8 rfl (mQ (oi h0) rfl (sr))
def dU (a_0:aa)(r1:Bytes):Nat→Int→Option (Unit⊕Bool)
 | 0,_=>none
 | m+1,i8 =>
 if i8 < (a_0.fDeps.length:Int) then
  ck ((0:Int)≤i8∧i8 < (a_0.fDeps.length:Int)) <|
  if lat a_0.fDeps i8=r1 then
   some (.inr true)
  else
   ck (inR (i8+1)) <|
   dU a_0 r1 m (i8+1)
 else
  some (.inl ())
def dW (a_0:aa)(r1:Bytes):Nat→Int→Option (Unit⊕Bool)
 | 0,_=>none
 | m+1,i19 =>
 if i19 < (a_0.fOldDeps.length:Int) then
  ck ((0:Int)≤i19∧i19 < (a_0.fOldDeps.length:Int)) <|
  if lat a_0.fOldDeps i19=r1 then
   some (.inr true)
  else
   ck (inR (i19+1)) <|
   dW a_0 r1 m (i19+1)
 else
  some (.inl ())
def fQ (n:Nat)(a_0:aa)(b_1:aa):Option Bool :=
 (gV n b_1).bind λ r1 =>
 jn (dU a_0 r1 n 0) λ q25 =>
 jn (dW a_0 r1 n 0) λ q26 =>
 some false
set_option maxHeartbeats 4000000 in
theorem jG (n:Nat)(a_0:aa)(b_1:aa)(r:Bool)(h0:fQ n a_0 b_1=some r):aB Tryz.prog 19 [.agg (aa.cs a_0),.agg (aa.cs b_1)] (·=.p (eB r)):=by
 unfold fQ at h0
 refine aU good Tryz.func19 rfl rfl rfl λ w0=>mP (λ v:Bool=>.p (eB v)) ?_
 refine nx 9 rfl (bd h0 λ r1 e2 h0=>?_)
 refine oK (qh _ b_1 _ e2) rfl ⟨sr,trivial⟩ Tryz.call29 rfl (nx 8 rfl ?_)
 obtain ⟨o27,h1,hL0,hR0⟩:=cU h0
 refine kEx 0 (λ v28:Unit=>o27=.inl v28) (λ v28=>⟨[(2,.ptr 2 0),(5,.p (eS r1))],[(2,(aa.cs a_0).map .p)]⟩) (λ v28 hv=>?_) ?_
 ·have h0:=hL0 _ hv
  refine nx 7 rfl ?_
  obtain ⟨o29,h1,hL0,hR0⟩:=cU h0
  refine kEx 2 (λ v30:Unit=>o29=.inl v30) (λ v30=>⟨[],[]⟩) (λ v30 hv=>?_) ?_
  ·have h0:=hL0 _ hv
   exact nx 6 rfl (mQ (oi h0) rfl (sr))
  refine lG (λ (q31:Int)=>⟨[(2,.ptr 2 0),(5,.p (eS r1)),(7,.p (eI q31))],[(2,(aa.cs a_0).map .p)]⟩) (λ m (q31:Int)=>dW a_0 r1 m q31) (λ _=>rfl) 0 h1 (gE rfl rfl) ?_
  rintro m i19 h1
  replace h1:dW a_0 r1 (m+1) i19=some o29:=h1
  rw [dW] at h1
  refine nx 6 rfl (oLl (f:=eS) rfl rfl ?_)
  refine nx 2 rfl (fD [28] h1 rfl (λ c20 h1=>?_) λ c20 h1=>?_)
  ·refine nx 9 rfl (oE h1 (λ _=>rfl) rfl rfl (λ _=>rfl) λ hk21 h1=>?_)
   refine nx 2 rfl (oS rfl rfl ?_)
   refine nx 1 rfl (fD [37] h1 rfl (λ c22 h1=>?_) λ c22 h1=>?_)
   ·exact nx 6 rfl (mQ (hR0 _ (oi h1).symm) rfl (sr))
   refine nx 4 rfl (oA h1 rfl rfl λ hk23 h1=>?_)
   exact nx 2 rfl (eX (i19+1) h1 (gE rfl rfl))
  exact nx 2 rfl (eXi _ (oi h1).symm (gE rfl rfl))
 refine lG (λ (q32:Int)=>⟨[(2,.ptr 2 0),(5,.p (eS r1)),(6,.p (eI q32))],[(2,(aa.cs a_0).map .p)]⟩) (λ m (q32:Int)=>dU a_0 r1 m q32) (λ _=>rfl) 0 h1 (gE rfl rfl) ?_
 rintro m i8 h1
 replace h1:dU a_0 r1 (m+1) i8=some o27:=h1
 rw [dU] at h1
 refine nx 6 rfl (oLl (f:=eS) rfl rfl ?_)
 refine nx 2 rfl (fD [14] h1 rfl (λ c9 h1=>?_) λ c9 h1=>?_)
 ·refine nx 9 rfl (oE h1 (λ _=>rfl) rfl rfl (λ _=>rfl) λ hk10 h1=>?_)
  refine nx 2 rfl (oS rfl rfl ?_)
  refine nx 1 rfl (fD [23] h1 rfl (λ c11 h1=>?_) λ c11 h1=>?_)
  ·exact nx 6 rfl (mQ (hR0 _ (oi h1).symm) rfl (sr))
  refine nx 4 rfl (oA h1 rfl rfl λ hk12 h1=>?_)
  exact nx 2 rfl (eX (i8+1) h1 (gE rfl rfl))
 exact nx 2 rfl (eXi _ (oi h1).symm (gE rfl rfl))
def fe (n:Nat)(c_0:aa):Option Bytes :=
 (g7 n c_0.fAddr).bind λ r1 =>
 if r1.2=0 then
  some r1.1
 else
  some c_0.fAddr
set_option maxHeartbeats 4000000 in
theorem gK (n:Nat)(c_0:aa)(r:Bytes)(h0:fe n c_0=some r):aB Tryz.prog 28 [.agg (aa.cs c_0)] (·=.p (eS r)):=by
 unfold fe at h0
 refine aU good Tryz.func28 rfl rfl rfl λ w0=>mP (λ v:Bytes=>.p (eS v)) ?_
 refine nx 9 rfl (bd h0 λ r1 e2 h0=>?_)
 refine oK (nh _ c_0.fAddr _ e2) rfl ⟨sr,trivial⟩ Tryz.call37 rfl (nx 12 rfl ?_)
 refine fN [12] h0 rfl (λ c3 h0=>?_) λ c3 h0=>?_
 ·exact nx 8 rfl (mQ (oi h0) rfl (sr))
 exact nx 8 rfl (mQ (oi h0) rfl (sr))
end Go.Ab.R06
end
