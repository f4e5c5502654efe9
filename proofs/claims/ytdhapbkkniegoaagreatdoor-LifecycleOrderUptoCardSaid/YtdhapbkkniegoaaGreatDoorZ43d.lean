/- Texts of the proof, one behind the other. No statement is proved here. -/
import Derived.Lib.MapLaws
import Derived.Lib.ValidLaws
import Derived.Lib.IndexLaws
import Derived.Test.YtdhapbkkniegoaaGreatDoorZ43a
import Derived.Test.YtdhapbkkniegoaaGreatDoorZ43b
import Derived.Test.YtdhapbkkniegoaaGreatDoorZ43c
section
set_option linter.unusedVariables false
set_option linter.unusedSimpArgs false
set_option linter.unnecessarySimpa false
namespace Go.Ab.R06
open Go.Ab Go.Ab.RB
section
variable {α β:Type} {P:α→Prop}
theorem ai {g:Nat→Nat→Option β}{k:Nat→Nat→β→Option α}(x:β)(h:Ev2 g (·=x))(hk:Ev2 (λ n m=>k n m x) P):Ev2 (λ n m=>(g n m).bind (k n m)) P :=
 dw (·=x) h λ y hy=>by subst hy; exact hk
theorem xR {p:Prop} [Decidable p] {f g:Nat→Nat→Option α}{x y:α}(h1:p→Ev2 f (·=x))(h2:¬p→Ev2 g (·=y)):Ev2 (λ n m=>if p then f n m else g n m) (·=if p then x else y) :=
 ar (λ h=>by simpa only [if_pos h] using h1 h) (λ h=>by simpa only [if_neg h] using h2 h)
end
def pg (b:UInt8):Bool:=(decide (97≤b.toNat)&&decide (b.toNat≤122))||(decide (65≤b.toNat)&&decide (b.toNat≤90))||decide (b.toNat=95)
def dv (b:UInt8):Bool:=decide (48≤b.toNat)&&decide (b.toNat≤57)
def idB (b:UInt8):Bool:=pg b||dv b
def bR:Bytes→Bool
 | []=>false
 | b::r=>decide ((b::r).length≤64)&&pg b&&r.all idB
def wO (s:Bytes)(i:Nat):Bool:=pg (s.getD i 0)||(decide (i≠0)&&dv (s.getD i 0))
def lK (p:Nat→Bool):Nat→Nat→Bool
 | _,0=>true
 | i,k+1=>p i&&lK p (i+1) k
theorem nI (p:Nat→Bool):∀ (k i:Nat),lK p i k=true↔∀ j,i≤j→j < i+k→p j=true
 | 0,i=>by simp [lK]; intro j h1 h2; omega
 | k+1,i=>by
  rw [lK,Bool.and_eq_true,nI p k (i+1)]
  constructor
  ·rintro ⟨h1,h2⟩ j h3 h4
   by_cases e:j=i
   ·rw [e]; exact h1
   ·exact h2 j (by omega) (by omega)
  ·intro h
   exact ⟨h i (by omega) (by omega),λ j h1 h2=>h j (by omega) (by omega)⟩
theorem or32:(List.range 256).all (λ n=>(decide ((97:Int)≤iOr .u8 (n:Int) 32)&&decide (iOr .u8 (n:Int) 32≤122)) == ((decide (97≤n)&&decide (n≤122))||(decide (65≤n)&&decide (n≤90))))=true:=by kernel_rfl
theorem EQ (b:UInt8):(97≤iOr .u8 ((b.toNat:Nat):Int) 32∧iOr .u8 ((b.toNat:Nat):Int) 32≤122)↔((97≤b.toNat∧b.toNat≤122)∨(65≤b.toNat∧b.toNat≤90)):=by
 have h:=List.all_eq_true.1 or32 b.toNat (List.mem_range.2 b.toNat_lt)
 have h:=eq_of_beq h
 rw [Bool.eq_iff_iff] at h
 simpa using h
theorem pX (b:UInt8):pg b=true↔(97≤b.toNat∧b.toNat≤122)∨(65≤b.toNat∧b.toNat≤90)∨b.toNat=95:=by
 simp [pg,or_assoc]
theorem ix (b:UInt8):dv b=true↔48≤b.toNat∧b.toNat≤57:=by simp [dv]
theorem eqB {a b:Bool}(h:a=true↔b=true):a=b:=Bool.eq_iff_iff.2 h
theorem kM (s:Bytes)(i:Nat):wO s i=true↔pg (s.getD i 0)=true∨(i≠0∧dv (s.getD i 0)=true):=by simp [wO]
theorem pw (s:Bytes):bR s=true↔s≠[]∧s.length≤64∧lK (wO s) 0 s.length=true:=by
 rw [nI]
 cases s with
 | nil=>simp [bR]
 | cons b r =>
  simp only [bR,Bool.and_eq_true,decide_eq_true_eq,List.all_eq_true]
  constructor
  ·rintro ⟨⟨h1,h2⟩,h3⟩
   refine ⟨by simp,h1,λ j _ hj=>?_⟩
   rw [kM]
   cases j with
   | zero=>exact .inl h2
   | succ j =>
    have hm:r.getD j 0∈r:=by
     rw [List.getD_eq_getElem?_getD,List.getElem?_eq_getElem (by simp at hj; omega)]
     exact List.getElem_mem _
    have:=h3 _ hm
    simp only [idB,Bool.or_eq_true] at this
    rcases this with h | h
    ·exact .inl h
    ·exact .inr ⟨by omega,h⟩
  ·rintro ⟨_,h1,h2⟩
   refine ⟨⟨h1,?_⟩,λ x hx=>?_⟩
   ·have:=(kM _ _).1 (h2 0 (by omega) (by simp))
    simpa using this
   ·obtain ⟨j,hj,rfl⟩:=List.getElem_of_mem hx
    have:=(kM _ _).1 (h2 (j+1) (by omega) (by simp; omega))
    rw [show (b::r).getD (j+1) 0=r[j] by simp [hj]] at this
    simp only [idB,Bool.or_eq_true]
    rcases this with h | h
    ·exact .inl h
    ·exact .inr h.2
theorem rl (s:Bytes):bR s=true↔s≠[]∧s.length≤64∧pg (s.getD 0 0)=true∧lK (λ j=>idB (s.getD j 0)) 0 s.length=true:=by
 rw [pw,nI,nI]
 constructor
 ·rintro ⟨h1,h2,h3⟩
  have hl:0 < s.length:=List.length_pos_iff.2 h1
  refine ⟨h1,h2,?_,λ j _ hj=>?_⟩
  ·have:=(kM s 0).1 (h3 0 (by omega) (by omega))
   simpa using this
  ·have:=(kM s j).1 (h3 j (by omega) hj)
   simp only [idB,Bool.or_eq_true]
   rcases this with h | h
   ·exact .inl h
   ·exact .inr h.2
 ·rintro ⟨h1,h2,h3,h4⟩
  refine ⟨h1,h2,λ j _ hj=>(kM s j).2 ?_⟩
  have:=h4 j (by omega) hj
  simp only [idB,Bool.or_eq_true] at this
  by_cases e:j=0
  ·subst e; exact .inl h3
  ·rcases this with h | h
   ·exact .inl h
   ·exact .inr ⟨e,h⟩
end Go.Ab.R06
namespace Go.Ab.R06
open Go.Ab Go.Ab.RB Go.Lib
def fv (acc:Nat)(l:Bytes):Nat:=l.foldl (λ a b=>a*10+(b.toNat - 48)) acc
theorem md (a:Nat):fv a []=a:=rfl
theorem oo (a:Nat)(b:UInt8)(l:Bytes):fv a (b::l)=fv (a*10+(b.toNat - 48)) l:=by simp only [fv,List.foldl_cons]
theorem wk (a:Nat)(l m:Bytes):fv a (l++m)=fv (fv a l) m:=by simp [fv]
theorem qL (a:Nat)(l:Bytes)(b:UInt8):fv a (l++[b])=fv a l*10+(b.toNat - 48):=by rw [wk]; rfl
theorem yz:∀ (l:Bytes) (a:Nat),a≤fv a l
 | [],a=>Nat.le_of_eq (md a).symm
 | b::r,a=>by
  rw [oo]
  have:=yz r (a*10+(b.toNat - 48))
  generalize fv (a*10+(b.toNat - 48)) r=v at this ⊢
  omega
theorem jO {l:Bytes}(h:l.all dv=true){b:UInt8}(hb:b∈l):48≤b.toNat∧b.toNat≤57:=(ix b).1 (List.all_eq_true.1 h b hb)
theorem B7:∀ (l:Bytes) (acc:Nat),l.all dv=true→(fv acc l≤18446744073709551615→parseUintM 18446744073709551615 acc l=.ok (fv acc l))∧(18446744073709551615 < fv acc l→acc≤18446744073709551615→parseUintM 18446744073709551615 acc l=.range)
 | [],acc,_=>by
  rw [md]
  exact ⟨λ _=>rfl,λ h h'=>by omega⟩
 | b::r,acc,h=>by
  have hb:=jO h List.mem_cons_self
  have hr:r.all dv=true:=by simp only [List.all_cons,Bool.and_eq_true] at h; exact h.2
  rw [parseUintM,if_pos hb,oo]
  have hg:=yz r (acc*10+(b.toNat - 48))
  have ih:=B7 r (acc*10+(b.toNat - 48)) hr
  generalize fv (acc*10+(b.toNat - 48)) r=v at hg ih ⊢
  by_cases h1:1844674407370955162≤acc
  ·rw [if_pos h1]
   exact ⟨λ h2=>by omega,λ _ _=>rfl⟩
  ·rw [if_neg h1]
   by_cases h2:18446744073709551615 < acc*10+(b.toNat - 48)
   ·rw [if_pos h2]
    exact ⟨λ h3=>by omega,λ _ _=>rfl⟩
   ·rw [if_neg h2]
    exact ⟨ih.1,λ h3 _=>ih.2 h3 (by omega)⟩
theorem Ee (l:Bytes)(hne:l≠[])(h:l.all dv=true):parseUintB 64 l=if fv 0 l≤18446744073709551615 then .ok (fv 0 l) else .range:=by
 rw [parseUintB,if_neg hne]
 show parseUintM (2 ^ 64 - 1) 0 l=_
 rw [show (2 ^ 64 - 1:Nat)=18446744073709551615 from rfl]
 have:=B7 l 0 h
 generalize fv 0 l=v at this ⊢
 by_cases q:v≤18446744073709551615
 ·rw [if_pos q]; exact this.1 q
 ·rw [if_neg q]; exact this.2 (by omega) (by omega)
def pr (l:Bytes):Bool:=!l.isEmpty&&l.all dv&&(decide (l.getD 0 0≠48)||decide (l.length=1))
theorem jw (l:Bytes):pr l=true↔l≠[]∧l.all dv=true∧(l.getD 0 0≠48∨l.length=1):=by
 simp [pr,and_assoc]
def pb (s:Bytes):Bool:=decide (0 < s.length)&&decide (s.getD 0 0=45)
def digits (s:Bytes):Bytes:=if pb s=true then s.drop 1 else s
def qv (s:Bytes):Bool:=!(pb s&&decide (s.drop 1=[48]))&&pr (digits s)
def lW (s:Bytes):Int:=if pb s=true then -(fv 0 (digits s):Int) else (fv 0 (digits s):Int)
def io:Int:=9007199254740992
def qY (s:Bytes):Int×Int:=if qv s=true then (if -io≤lW s∧lW s≤io then (lW s,0) else (0,5)) else (0,2)
theorem AA (s:Bytes)(hs:s.length≤1000000000):∀ (k i:Nat),i+k=s.length→Ev2 (λ _ m=>bL s m (i:Int)) (·=if lK (λ j=>dv (s.getD j 0)) i k then .inl () else .inr false):=by
 intro k
 induction k with
 | zero =>
  intro i hi
  refine ap ?_
  simp only [bL]
  refine am (by omega) (ab rfl)
 | succ k ih =>
  intro i hi
  refine ap ?_
  simp only [bL]
  refine al (by omega) ?_
  have hb:byt s i=((s.getD i 0).toNat:Int):=dM s i
  rw [hb]
  refine ai (!dv (s.getD i 0)) ?_ ?_
  ·have h:=ix (s.getD i 0)
   generalize s.getD i 0=b at h ⊢
   refine ag (by omega) (ar (λ h1=>ab ?_) (λ h1=>ag (by omega) (ab ?_)))
   ·have:dv b=false:=by rw [← Bool.not_eq_true,h]; omega
    simp [this]
   ·refine eqB ?_
    rw [decide_eq_true_eq,Bool.not_eq_true',← Bool.not_eq_true,h]
    omega
  ·cases hk:dv (s.getD i 0) with
   | false=>exact al rfl (ab (by simp only [lK,hk,Bool.false_and]; rfl))
   | true =>
    refine am (by simp) (ag (aF (by omega) (by omega)) ?_)
    have:=ih (i+1) (by omega)
    rw [Int.natCast_add,Int.natCast_one] at this
    simp only [lK,hk,Bool.true_and]
    exact this
theorem sB (s:Bytes)(p:UInt8→Bool):lK (λ j=>p (s.getD j 0)) 0 s.length=s.all p:=by
 refine eqB ?_
 rw [nI,List.all_eq_true]
 constructor
 ·intro h x hx
  obtain ⟨j,hj,rfl⟩:=List.getElem_of_mem hx
  have:=h j (by omega) (by omega)
  simpa [hj] using this
 ·intro h j _ hj
  have hj:j < s.length:=by omega
  have:=h s[j] (List.getElem_mem hj)
  simpa [hj] using this
theorem vw (s:Bytes)(hs:s.length≤1000000000):Ev2 (λ n _=>dQ n s) (·=qv s):=by
 simp only [dQ]
 have hb:byt s 0=((s.getD 0 0).toNat:Int):=dM s 0
 have hneg:pb s=true↔0 < s.length∧s.getD 0 0=45:=by simp [pb]
 have h45:(s.getD 0 0).toNat=45↔s.getD 0 0=45:=⟨λ h=>UInt8.toNat_inj.1 h,λ h=>by rw [h]; rfl⟩
 have body:∀ t:Bytes,t.length≤1000000000→Ev2 (λ n m=>jn (bL t n 0) λ q31 =>
   ((if t=([]:Bytes) then some false else ck ((0:Int)≤0∧0 < (t.length:Int)) <| if byt t 0=48 then some (decide ((t.length:Int)=1)) else some true):Option Bool).bind λ t28=>some t28) (·=pr t):=by
  intro t ht
  have l:=AA t ht t.length 0 (by omega)
  rw [sB] at l
  have hc:=jw t
  have hb':byt t 0=((t.getD 0 0).toNat:Int):=dM t 0
  have h48:(t.getD 0 0).toNat=48↔t.getD 0 0=48:=⟨λ h=>UInt8.toNat_inj.1 h,λ h=>by rw [h]; rfl⟩
  cases ha:t.all dv with
  | false =>
   rw [ha] at l hc
   refine fW false (aH l) (eqB ?_)
   rw [hc]; simp
  | true =>
   rw [ha] at l hc
   refine dF () (aH l) (dw (·=pr t) ?_ (λ x hx=>ab hx))
   refine ar (λ h=>ab (eqB ?_)) (λ h=>ag ?_ ?_)
   ·rw [hc]; simp [h]
   ·have:=List.length_pos_iff.2 h; omega
   ·rw [hb']
    refine ar (λ h1=>ab (eqB ?_)) (λ h1=>ab (eqB ?_))
    ·have h2:=h48.1 (by omega)
     rw [hc,decide_eq_true_eq]
     constructor
     ·intro q; exact ⟨h,by simp,.inr (by omega)⟩
     ·rintro ⟨_,_,q | q⟩
      ·exact absurd h2 q
      ·omega
    ·rw [hc]; simp only [true_iff]
     exact ⟨h,by simp,.inl λ q=>h1 (by have:=h48.2 q; omega)⟩
 refine ls (ai (pb s) ?_ ?_)
 ·refine ar (λ h=>ag (by omega) (ab (eqB ?_))) (λ h=>ab (eqB ?_))
  ·rw [hneg,hb,decide_eq_true_eq]
   constructor
   ·intro q; exact ⟨by omega,h45.1 (by omega)⟩
   ·rintro ⟨_,q⟩; have:=h45.2 q; omega
  ·rw [hneg]
   constructor
   ·intro q; cases q
   ·rintro ⟨q,_⟩; omega
 ·rw [fk]
  show Ev2 (λ n m=>if pb s=true then ck _ (if s.drop 1=[48] then some (Sum.inr false) else some (Sum.inl (s.drop 1))) else some (Sum.inl s)) _
  refine ar (λ h=>ag ?_ (ar (λ h1=>ab ?_) (λ h1=>ab ?_))) (λ h=>ab ?_)
  ·have:=hneg.1 h; omega
  ·simp [qv,h,h1]
  ·have e:qv s=pr (s.drop 1):=by unfold qv digits; rw [if_pos h,decide_eq_false h1]; simp
   rw [e]
   exact body _ (by simp; omega)
  ·have e:qv s=pr s:=by simp [qv,h,digits]
   rw [e]
   exact body _ hs
theorem DW (v:Int):jt v=some (decide (-io≤v∧v≤io)):=by
 simp only [jt]
 by_cases h:(-9007199254740992:Int)≤v
 ·rw [if_pos h]
  by_cases h2:v≤9007199254740992
  ·simp [h2,io,h]
  ·simp [h2,io]
 ·rw [if_neg h,Option.bind_some]
  refine congrArg some (eqB ?_)
  rw [decide_eq_true_eq]; unfold io
  constructor
  ·intro q; cases q
  ·intro q; exact absurd q.1 h
theorem rC {s:Bytes}(h:qv s=true):digits s≠[]∧(digits s).all dv=true:=by
 simp only [qv,Bool.and_eq_true] at h
 have:=(jw _).1 h.2
 exact ⟨this.1,this.2.1⟩
theorem DO (s:Bytes)(h:qv s=true):parseIntB 64 s=if (if pb s=true then 9223372036854775808 < fv 0 (digits s) else 9223372036854775808≤fv 0 (digits s)) then .range else .ok (lW s):=by
 obtain ⟨h1,h2⟩:=rC h
 cases s with
 | nil=>exact absurd (by simp [digits,pb]) h1
 | cons c r =>
  have e45:c.toNat=45↔c=45:=⟨λ h=>UInt8.toNat_inj.1 h,λ h=>by rw [h]; rfl⟩
  have hneg:pb (c::r)=decide (c=45):=by simp [pb]
  have hd:(if c.toNat=43∨c.toNat=45 then r else c::r)=digits (c::r):=by
   unfold digits
   rw [hneg]
   by_cases q:c=45
   ·rw [if_pos (.inr (e45.2 q)),if_pos (by simp [q])]; rfl
   ·have e:digits (c::r)=c::r:=by unfold digits; rw [hneg,if_neg (by simp [q])]
    have e2:(if decide (c=45)=true then List.drop 1 (c::r) else c::r)=c::r:=if_neg (by simp [q])
    rw [e2,if_neg]
    rintro (k | k)
    ·rw [e] at h2
     have:=jO h2 List.mem_cons_self
     omega
    ·exact q (e45.1 k)
  have hp:=Ee _ h1 h2
  unfold parseIntB
  simp only [hd,hp]
  rw [hneg]
  unfold lW
  rw [hneg]
  generalize fv 0 (digits (c::r))=v
  by_cases q:c=45
  ·subst q
   by_cases hv:v≤18446744073709551615
   ·simp only [hv,if_true]
    by_cases hw:9223372036854775808 < v
    ·simp [hw]
    ·simp [hw]
   ·simp only [hv,if_false]
    rw [if_pos]; simp; omega
  ·have q':¬ c.toNat=45:=λ k=>q (e45.1 k)
   by_cases hv:v≤18446744073709551615
   ·simp only [hv,if_true]
    by_cases hw:9223372036854775808≤v
    ·simp [q,q',hw]
    ·simp [q,q',hw]
   ·simp only [hv,if_false]
    rw [if_pos]; simp [q]; omega
theorem wA (s:Bytes)(hs:s.length≤1000000000):Ev2 (λ n _=>fE n s) (·=qY s):=by
 simp only [fE]
 refine ai _ (vw s hs) ?_
 cases hc:qv s with
 | false=>exact al rfl (ab (by simp [qY,hc]))
 | true =>
  refine am (by simp) ?_
  have hp:hZ s 10 64=some (match parseIntB 64 s with | .ok v=>(v,false) | .range=>(intSat 64 s,true) | _=>(0,true)):=by
   unfold hZ
   exact bI ⟨rfl,rfl,by omega⟩
  rw [DO s hc] at hp
  have e:qY s=(if -io≤lW s∧lW s≤io then (lW s,0) else (0,5)):=by simp [qY,hc]
  rw [e]
  by_cases hr:(if pb s=true then 9223372036854775808 < fv 0 (digits s) else 9223372036854775808≤fv 0 (digits s))
  ·rw [if_pos hr] at hp
   refine ai _ (aR hp rfl) ?_
   refine ai true (al rfl (ab rfl)) (al rfl (ab ?_))
   rw [if_neg]
   unfold lW io
   cases hn:pb s with
   | true=>rw [hn,if_pos rfl] at hr; rw [if_pos rfl]; omega
   | false=>rw [hn,if_neg (by simp)] at hr; rw [if_neg (by simp)]; omega
  ·rw [if_neg hr] at hp
   refine ai _ (aR hp rfl) ?_
   refine ai (!decide (-io≤lW s∧lW s≤io)) ?_ ?_
   ·exact am (by simp) (ai _ (aR (DW _) rfl) (ab rfl))
   ·by_cases q:-io≤lW s∧lW s≤io
    ·rw [if_pos q]
     exact am (by simp [q]) (ab rfl)
    ·rw [if_neg q]
     exact al (by simp only [q,decide_false,Bool.not_false]) (ab rfl)
theorem u9:∀ (n u:Nat),u < n→fv 0 (decDigits u)=u∧(decDigits u).all dv=true∧decDigits u≠[]∧((decDigits u).getD 0 0≠48∨(decDigits u).length=1)∧(1≤u→(decDigits u).getD 0 0≠48):=by
 intro n
 induction n with
 | zero=>intro u h; omega
 | succ n ih =>
  intro u hu
  have hdig:∀ k,k < 10→(UInt8.ofNat (48+k)).toNat=48+k:=λ k hk=>by
   rw [UInt8.toNat_ofNat']; omega
  rw [decDigits]
  by_cases h:u < 10
  ·rw [dif_pos h]
   have:=hdig u h
   refine ⟨by rw [oo,md,this]; omega,by simp only [List.all_cons,List.all_nil,Bool.and_true,ix,this]; omega,by simp,.inr rfl,λ h1=>?_⟩
   intro q
   have q':(UInt8.ofNat (48+u))=48:=q
   rw [q'] at this
   have:(48:UInt8).toNat=48:=rfl
   omega
  ·rw [dif_neg h]
   obtain ⟨a1,a2,a3,a4,a5⟩:=ih (u / 10) (by omega)
   have hd:=hdig (u % 10) (by omega)
   have hh:(decDigits (u / 10)++[UInt8.ofNat (48+u % 10)]).getD 0 0=(decDigits (u / 10)).getD 0 0:=by
    cases hx:decDigits (u / 10) with
    | nil=>exact absurd hx a3
    | cons c r=>rfl
   refine ⟨?_,?_,by simp,?_,?_⟩
   ·rw [qL,a1,hd]; omega
   ·rw [List.all_append,a2]; simp only [List.all_cons,List.all_nil,Bool.and_true,Bool.true_and,ix,hd]; omega
   ·rw [hh]; exact .inl (a5 (by omega))
   ·rw [hh]; exact λ _=>a5 (by omega)
theorem rm:∀ (n:Nat) (l:Bytes),l.length≤n→pr l=true→decDigits (fv 0 l)=l∧(l.getD 0 0≠48→1≤fv 0 l):=by
 intro n
 induction n with
 | zero=>intro l hl h; have:=((jw l).1 h).1; cases l <;> simp_all
 | succ n ih =>
  intro l hl h
  obtain ⟨h1,h2,h3⟩:=(jw l).1 h
  have hof:∀ b:UInt8,48≤b.toNat→UInt8.ofNat (48+(b.toNat - 48))=b:=λ b hb=>by
   rw [show 48+(b.toNat - 48)=b.toNat by omega]; simp
  rcases List.eq_nil_or_concat l with rfl | ⟨m,b,rfl⟩
  ·exact absurd rfl h1
  ·simp only [List.concat_eq_append] at *
   have hb:=jO h2 (b:=b) (by simp)
   rw [qL]
   by_cases hm:m=[]
   ·subst hm
    rw [md,decDigits,dif_pos (by omega)]
    refine ⟨by simp [hof b hb.1],λ q=>?_⟩
    have q:b≠48:=q
    have:b.toNat≠48:=λ k=>q (UInt8.toNat_inj.1 k)
    omega
   ·have hcm:pr m=true:=by
     rw [jw]
     refine ⟨hm,?_,?_⟩
     ·rw [List.all_append,Bool.and_eq_true] at h2; exact h2.1
     ·rcases h3 with q | q
      ·left
       cases m with
       | nil=>exact absurd rfl hm
       | cons c r=>exact q
      ·cases m with
       | nil=>exact absurd rfl hm
       | cons c r=>simp at q
    obtain ⟨i1,i2⟩:=ih m (by simp at hl; omega) hcm
    have hne:m.getD 0 0≠48:=by
     rcases h3 with q | q
     ·cases m with
      | nil=>exact absurd rfl hm
      | cons c r=>exact q
     ·cases m with
      | nil=>exact absurd rfl hm
      | cons c r=>simp at q
    have hpos:=i2 hne
    refine ⟨?_,λ _=>by omega⟩
    rw [decDigits,dif_neg (by omega)]
    rw [show (fv 0 m*10+(b.toNat - 48)) / 10=fv 0 m by omega,show (fv 0 m*10+(b.toNat - 48)) % 10=b.toNat - 48 by omega,i1,hof b hb.1]
theorem zG (v:Int)(h0:0≤v)(h1:v≤io):qY (itoa v)=(v,0):=by
 obtain ⟨u,rfl⟩:∃ u:Nat,v=u:=⟨v.toNat,by omega⟩
 have e:itoa (u:Int)=decDigits u:=by unfold itoa; rw [if_neg (by omega)]; simp
 obtain ⟨a1,a2,a3,a4,a5⟩:=u9 (u+1) u (by omega)
 have hn:pb (decDigits u)=false:=by
  rw [← Bool.not_eq_true]
  intro q
  simp only [pb,Bool.and_eq_true,decide_eq_true_eq] at q
  have hm:(decDigits u).getD 0 0∈decDigits u:=by
   rw [List.getD_eq_getElem?_getD,List.getElem?_eq_getElem q.1]; exact List.getElem_mem _
  have:=jO a2 hm
  rw [q.2] at this
  have:(45:UInt8).toNat=45:=rfl
  omega
 have hd:digits (decDigits u)=decDigits u:=by simp [digits,hn]
 have hc:qv (decDigits u)=true:=by
  simp only [qv,hn,hd,Bool.false_and,Bool.not_false,Bool.true_and]
  exact (jw _).2 ⟨a3,a2,a4⟩
 have hv:lW (decDigits u)=u:=by simp [lW,hn,hd,a1]
 rw [e,qY,if_pos hc,hv,if_pos ⟨by unfold io at *; omega,h1⟩]
theorem yO (s:Bytes)(v:Int)(h:qY s=(v,0))(h0:0≤v):itoa v=s∧v≤io:=by
 unfold qY at h
 split at h
 ·rename_i hc
  split at h
  ·rename_i hr
   have hv:lW s=v:=congrArg Prod.fst h
   obtain ⟨h1,h2⟩:=rC hc
   simp only [qv,Bool.and_eq_true] at hc
   have hb:=(rm _ (digits s) (Nat.le_refl _) hc.2)
   have hcn:=(jw _).1 hc.2
   cases hn:pb s with
   | true =>
    exfalso
    have hv2:lW s=-(fv 0 (digits s):Int):=by simp [lW,hn]
    have hz:fv 0 (digits s)=0:=by omega
    have:decDigits 0=digits s:=by rw [← hz]; exact hb.1
    rw [decDigits,dif_pos (by omega)] at this
    have hd:digits s=s.drop 1:=by simp [digits,hn]
    rw [hd] at this
    have h48:s.drop 1=[48]:=this.symm
    simp [hn,h48] at hc
   | false =>
    have hd:digits s=s:=by simp [digits,hn]
    have hv2:lW s=(fv 0 s:Int):=by simp [lW,hn,hd]
    rw [hd] at hb
    refine ⟨?_,by rw [← hv]; exact hr.2⟩
    rw [← hv,hv2]
    unfold itoa
    rw [if_neg (by omega)]
    simpa using hb.1
  ·have:=congrArg Prod.snd h; simp at this
 ·have:=congrArg Prod.snd h; simp at this
end Go.Ab.R06
namespace Go.Ab.R06
open Go.Ab Go.Ab.RB Go.Lib
theorem qg (x:Int):IntKind.wrap .u8 x=x % 256:=by simp [IntKind.wrap,IntKind.bits,IntKind.signed]
theorem wrap32 (x:Int):IntKind.wrap .u32 x=x % 4294967296:=by simp [IntKind.wrap,IntKind.bits,IntKind.signed]
theorem shr6 (x:Int):cK .i32 x 6=x / 64:=by
 show x.fdiv (2 ^ 6)=x / 64
 rw [Int.fdiv_eq_ediv_of_nonneg _ (by decide)]; rfl
theorem E2 (x:Int):cK .i32 x 12=x / 4096:=by
 show x.fdiv (2 ^ 12)=x / 4096
 rw [Int.fdiv_eq_ediv_of_nonneg _ (by decide)]; rfl
theorem E4 (x:Int):cK .i32 x 18=x / 262144:=by
 show x.fdiv (2 ^ 18)=x / 262144
 rw [Int.fdiv_eq_ediv_of_nonneg _ (by decide)]; rfl
theorem t63:(List.range 256).all (λ n=>bz .u8 (n:Int) 63 == ((n % 64:Nat):Int))=true:=by kernel_rfl
theorem t128:(List.range 64).all (λ n=>iOr .u8 128 (n:Int) == ((128+n:Nat):Int))=true:=by kernel_rfl
theorem t192:(List.range 32).all (λ n=>iOr .u8 192 (n:Int) == ((192+n:Nat):Int))=true:=by kernel_rfl
theorem t224:(List.range 16).all (λ n=>iOr .u8 224 (n:Int) == ((224+n:Nat):Int))=true:=by kernel_rfl
theorem t240:(List.range 8).all (λ n=>iOr .u8 240 (n:Int) == ((240+n:Nat):Int))=true:=by kernel_rfl
theorem tab {f g:Nat→Int}{m:Nat}(h:(List.range m).all (λ n=>f n == g n)=true)(n:Nat)(hn:n < m):f n=g n:=eq_of_beq (List.all_eq_true.1 h n (List.mem_range.2 hn))
theorem BS (x:Int):bz .u8 (IntKind.wrap .u8 x) 63=x % 64:=by
 rw [qg]
 obtain ⟨n,hn⟩:∃ n:Nat,x % 256=n:=⟨(x % 256).toNat,by omega⟩
 rw [hn,tab t63 n (by omega)]; omega
theorem BF {x:Int}(h0:0≤x)(h1:x < 64):iOr .u8 128 x=128+x:=by
 obtain ⟨n,rfl⟩:∃ n:Nat,x=n:=⟨x.toNat,by omega⟩
 rw [tab t128 n (by omega)]; omega
theorem E3 {x:Int}(h0:0≤x)(h1:x < 32):iOr .u8 192 x=192+x:=by
 obtain ⟨n,rfl⟩:∃ n:Nat,x=n:=⟨x.toNat,by omega⟩
 rw [tab t192 n (by omega)]; omega
theorem E7 {x:Int}(h0:0≤x)(h1:x < 16):iOr .u8 224 x=224+x:=by
 obtain ⟨n,rfl⟩:∃ n:Nat,x=n:=⟨x.toNat,by omega⟩
 rw [tab t224 n (by omega)]; omega
theorem EU {x:Int}(h0:0≤x)(h1:x < 8):iOr .u8 240 x=240+x:=by
 obtain ⟨n,rfl⟩:∃ n:Nat,x=n:=⟨x.toNat,by omega⟩
 rw [tab t240 n (by omega)]; omega
def fw (r:Int):Prop:=(0≤r∧r < 55296)∨(57343 < r∧r≤1114111)
theorem vI (p:Bytes)(r:Int)(h:fw r)(hp:p.length≤100000000000):dP p r=some (p++encodeRune r):=by
 have h0:0≤r∧r≤1114111:=by unfold fw at h; omega
 have hw:IntKind.wrap .u32 r=r:=by rw [wrap32]; omega
 unfold dP
 rw [hw]
 by_cases h1:r≤127
 ·have hw8:IntKind.wrap .u8 r=r:=by rw [qg]; omega
  rw [if_pos h1,hw8,bI (by omega),bI (by simp; omega)]
  simp only [encodeRune,encodeRuneZ,if_pos (show 0≤r∧r≤127 from ⟨h0.1,h1⟩),List.map_cons,List.map_nil,u8]
 rw [if_neg h1]
 unfold dc
 rw [hw,BS,shr6,E2,E4,BS,BS]
 have o1:iOr .u8 128 (r % 64)=128+r % 64:=BF (by omega) (by omega)
 have o2:iOr .u8 128 (r / 64 % 64)=128+r / 64 % 64:=BF (by omega) (by omega)
 have o3:iOr .u8 128 (r / 4096 % 64)=128+r / 4096 % 64:=BF (by omega) (by omega)
 rw [o1,o2,o3]
 have n1:¬ (0≤r∧r≤127):=by omega
 by_cases h2:r≤2047
 ·have hw8:IntKind.wrap .u8 (r / 64)=r / 64:=by rw [qg]; omega
  rw [if_pos h2,hw8,E3 (by omega) (by omega),bI (by omega),bI (by omega),bI (by omega),bI (by simp; omega)]
  simp only [encodeRune,encodeRuneZ,if_neg n1,if_pos (show 128≤r∧r≤2047 by omega),List.map_cons,List.map_nil,u8,Option.bind_some]
 rw [if_neg h2]
 have n2:¬ (128≤r∧r≤2047):=by omega
 by_cases h3:r < 55296∨(57343 < r∧r≤65535)
 ·have hw8:IntKind.wrap .u8 (r / 4096)=r / 4096:=by rw [qg]; omega
  have e:((if r < 55296 then some true else if 57343 < r then some (decide (r≤65535)) else some false):Option Bool)=some true:=by
   rcases h3 with q | q
   ·rw [if_pos q]
   ·rw [if_neg (by omega),if_pos q.1]; simp [q.2]
  rw [e,Option.bind_some,if_pos rfl,hw8,E7 (by omega) (by omega),bI (by omega),bI (by omega),bI (by omega),bI (by omega),bI (by omega),bI (by simp; omega)]
  simp only [encodeRune,encodeRuneZ,if_neg n1,if_neg n2,if_pos (show (2048≤r∧r < 55296)∨(57343 < r∧r≤65535) by omega),List.map_cons,List.map_nil,u8,Option.bind_some]
 ·have h4:65535 < r:=by unfold fw at h; omega
  have hw8:IntKind.wrap .u8 (r / 262144)=r / 262144:=by rw [qg]; omega
  have e:((if r < 55296 then some true else if 57343 < r then some (decide (r≤65535)) else some false):Option Bool)=some false:=by
   rw [if_neg (by omega),if_pos (by omega)]; simp; omega
  have e2:((if 65535 < r then some (decide (r≤1114111)) else some false):Option Bool)=some true:=by rw [if_pos h4]; simp; omega
  rw [e,Option.bind_some,if_neg (by simp),e2,Option.bind_some,if_pos rfl,hw8,EU (by omega) (by omega),bI (by omega),bI (by omega),bI (by omega),bI (by omega),bI (by omega),bI (by omega),bI (by omega),bI (by simp; omega)]
  simp only [encodeRune,encodeRuneZ,if_neg n1,if_neg n2,if_neg (show ¬ ((2048≤r∧r < 55296)∨(57343 < r∧r≤65535)) by omega),if_pos (show 65536≤r∧r≤1114111 by omega),List.map_cons,List.map_nil,u8,Option.bind_some]
theorem gL (l:Bytes)(h:l≠[]):decodeGo (str l)=decodeL l:=by
 unfold decodeGo
 rw [if_neg]
 ·rfl
 ·rw [gR]; intro q; exact h (List.length_eq_zero_iff.1 q)
theorem lD (r:Int)(h:fw r):1≤(encodeRune r).length∧(encodeRune r).length≤4:=by
 unfold encodeRune encodeRuneZ
 rw [List.length_map]
 repeat' split
 all_goals simp
theorem yL (r:Int)(h:fw r)(t:Bytes):decodeL (encodeRune r++t)=(r.toNat,(encodeRune r).length):=by
 have h0:0≤r∧r≤1114111:=by unfold fw at h; omega
 have hb:∀ x:Int,0≤x→x < 256→(x.toNat.toUInt8).toNat=x.toNat:=λ x a b=>by
  show (UInt8.ofNat x.toNat).toNat=_
  rw [UInt8.toNat_ofNat']; omega
 rw [decodeL_N]
 by_cases h1:r≤127
 ·have e:encodeRune r=[r.toNat.toUInt8]:=by simp only [encodeRune,encodeRuneZ,if_pos (show 0≤r∧r≤127 from ⟨h0.1,h1⟩),List.map_cons,List.map_nil]
  rw [e]
  have b0:=hb r (by omega) (by omega)
  simp only [List.cons_append,List.getD_cons_zero,b0]
  unfold decodeN
  rw [if_pos (by omega)]; rfl
 have n1:¬ (0≤r∧r≤127):=by omega
 by_cases h2:r≤2047
 ·have e:encodeRune r=[(192+r / 64).toNat.toUInt8,(128+r % 64).toNat.toUInt8]:=by
   simp only [encodeRune,encodeRuneZ,if_neg n1,if_pos (show 128≤r∧r≤2047 by omega),List.map_cons,List.map_nil]
  rw [e]
  have b0:=hb (192+r / 64) (by omega) (by omega)
  have b1:=hb (128+r % 64) (by omega) (by omega)
  simp only [List.cons_append,List.getD_cons_zero,List.getD_cons_succ,b0,b1,List.length_cons,List.nil_append]
  unfold decodeN
  rw [if_neg (by omega),if_pos (by omega),if_pos (by omega)]
  refine Prod.ext ?_ rfl
  show _=r.toNat
  simp only; omega
 have n2:¬ (128≤r∧r≤2047):=by omega
 by_cases h3:r < 55296∨(57343 < r∧r≤65535)
 ·have e:encodeRune r=[(224+r / 4096).toNat.toUInt8,(128+r / 64 % 64).toNat.toUInt8,(128+r % 64).toNat.toUInt8]:=by
   simp only [encodeRune,encodeRuneZ,if_neg n1,if_neg n2,if_pos (show (2048≤r∧r < 55296)∨(57343 < r∧r≤65535) by omega),List.map_cons,List.map_nil]
  rw [e]
  have b0:=hb (224+r / 4096) (by omega) (by omega)
  have b1:=hb (128+r / 64 % 64) (by omega) (by omega)
  have b2:=hb (128+r % 64) (by omega) (by omega)
  simp only [List.cons_append,List.getD_cons_zero,List.getD_cons_succ,b0,b1,b2,List.length_cons,List.nil_append]
  unfold decodeN
  rw [if_neg (by omega),if_neg (by omega),if_pos (by omega),if_pos (by omega)]
  refine Prod.ext ?_ rfl
  show _=r.toNat
  simp only; omega
 ·have h4:65535 < r:=by unfold fw at h; omega
  have e:encodeRune r=[(240+r / 262144).toNat.toUInt8,(128+r / 4096 % 64).toNat.toUInt8,(128+r / 64 % 64).toNat.toUInt8,(128+r % 64).toNat.toUInt8]:=by
   simp only [encodeRune,encodeRuneZ,if_neg n1,if_neg n2,if_neg (show ¬ ((2048≤r∧r < 55296)∨(57343 < r∧r≤65535)) by omega),if_pos (show 65536≤r∧r≤1114111 by omega),List.map_cons,List.map_nil]
  rw [e]
  have b0:=hb (240+r / 262144) (by omega) (by omega)
  have b1:=hb (128+r / 4096 % 64) (by omega) (by omega)
  have b2:=hb (128+r / 64 % 64) (by omega) (by omega)
  have b3:=hb (128+r % 64) (by omega) (by omega)
  simp only [List.cons_append,List.getD_cons_zero,List.getD_cons_succ,b0,b1,b2,b3,List.length_cons,List.nil_append]
  unfold decodeN
  rw [if_neg (by omega),if_neg (by omega),if_neg (by omega),if_pos (by omega),if_pos (by omega)]
  refine Prod.ext ?_ rfl
  show _=r.toNat
  simp only; omega
theorem uP (r:Int)(h:fw r)(t:Bytes):validD (encodeRune r++t)=validD t:=by
 have hl:=lD r h
 have hne:encodeRune r++t≠[]:=by
  intro q; rw [List.append_eq_nil_iff] at q; rw [q.1] at hl; simp at hl
 rw [validD_step _ hne,yL r h t,if_neg]
 ·simp
 ·rintro ⟨a,b⟩
  have hr:r=65533:=by omega
  subst hr
  simp [encodeRune,encodeRuneZ] at b
theorem kB (l:Bytes)(h:l≠[]):1≤(decodeL l).2∧(decodeL l).2≤l.length∧(¬ ((decodeL l).1=65533∧(decodeL l).2=1)→fw ((decodeL l).1:Int)∧encodeRune ((decodeL l).1:Int)=l.take (decodeL l).2):=by
 have hl:0 < l.length:=List.length_pos_iff.2 h
 have hd:=Dv l.length (l.getD 0 0).toNat (l.getD 1 0).toNat (l.getD 2 0).toNat (l.getD 3 0).toNat (by omega) (UInt8.toNat_lt _)
 rw [← decodeL_N] at hd
 refine ⟨hd.1,hd.2.1,λ q=>⟨?_,encode_decode l h q⟩⟩
 have:=hd.2.2.2.2.2
 unfold fw; omega
theorem sJ (l:Bytes)(h:l≠[]):validD l=true↔¬ ((decodeL l).1=65533∧(decodeL l).2=1)∧validD (l.drop (decodeL l).2)=true:=by
 rw [validD_step l h]
 by_cases q:(decodeL l).1=65533∧(decodeL l).2=1
 ·simp [q]
 ·simp [q]
end Go.Ab.R06
namespace Go.Ab.R06
open Go.Ab Go.Ab.RB Go.Lib
theorem w2 (f x:Bytes)(h:f.length+x.length≤100000000000):aZ (aE.mk f) x=some ((x.length:Int),false,aE.mk (f++x)):=by
 unfold aZ cm
 rw [Option.bind_some,bI (by simp only; omega)]
theorem wP (f:Bytes)(b:UInt8)(h:f.length≤100000000000):bD (aE.mk f) (b.toNat:Int)=some (false,aE.mk (f++[b])):=by
 have:=b.toNat_lt
 unfold bD cm
 rw [Option.bind_some,bI (by omega),bI (by simp; omega),Ax]
theorem Dy (f:Bytes)(r:Int)(hr:fw r)(h:f.length≤10000000000):du (aE.mk f) r=some (((encodeRune r).length:Int),false,aE.mk (f++encodeRune r)):=by
 have hl:=lD r hr
 unfold du cm
 rw [Option.bind_some,vI f r hr (by omega),Option.bind_some]
 have e:((f++encodeRune r).length:Int) - (f.length:Int)=(encodeRune r).length:=by rw [List.length_append]; omega
 rw [e,bI (aF (by omega) (by omega))]
theorem DU (f:Bytes)(h:f.length≤1000000000000):dl (aE.mk f)=some (f,aE.mk f):=by
 unfold dl
 rw [bI (by simp only; omega)]
def fJ (b:UInt8):Bytes :=
 if b.toNat=10 then [92,110] else if b.toNat=13 then [92,114] else if b.toNat=9 then [92,116]
 else if b.toNat=34∨b.toNat=92 then [92,b] else if b.toNat < 32∨b.toNat=127 then [92,117,123]++dA b.toNat++[125] else [b]
def dI (s:Bytes):Bytes:=34::(s.flatMap fJ++[34])
theorem x8 {b:UInt8}(h:b.toNat=10):fJ b=[92,110]:=by unfold fJ; rw [if_pos h]
theorem yI {b:UInt8}(h:b.toNat=13):fJ b=[92,114]:=by unfold fJ; rw [if_neg (by omega),if_pos h]
theorem ym {b:UInt8}(h:b.toNat=9):fJ b=[92,116]:=by unfold fJ; rw [if_neg (by omega),if_neg (by omega),if_pos h]
theorem Br {b:UInt8}(h:b.toNat=34∨b.toNat=92):fJ b=[92,b]:=by unfold fJ; rw [if_neg (by omega),if_neg (by omega),if_neg (by omega),if_pos h]
theorem yv {b:UInt8}(h1:b.toNat≠10)(h2:b.toNat≠13)(h3:b.toNat≠9)(h:b.toNat < 32∨b.toNat=127):fJ b=[92,117,123]++dA b.toNat++[125]:=by
 unfold fJ; rw [if_neg h1,if_neg h2,if_neg h3,if_neg (by omega),if_pos h]
theorem wd {b:UInt8}(h1:b.toNat≠34)(h2:b.toNat≠92)(h:¬ (b.toNat < 32∨b.toNat=127)):fJ b=[b]:=by
 unfold fJ; rw [if_neg (by omega),if_neg (by omega),if_neg (by omega),if_neg (by omega),if_neg h]
theorem nE (n:Nat):1≤(dA n).length∧(dA n).length≤2:=by
 unfold dA; split <;> simp
theorem pW (b:UInt8):1≤(fJ b).length∧(fJ b).length≤6:=by
 have:=nE b.toNat
 unfold fJ
 repeat' split
 all_goals (simp; try omega)
theorem sy (s:Bytes):s.length≤(s.flatMap fJ).length∧(s.flatMap fJ).length≤6*s.length:=by
 induction s with
 | nil=>simp
 | cons b r ih=>have:=pW b; simp only [List.flatMap_cons,List.length_append,List.length_cons]; omega
theorem Ao (s:Bytes)(hs:s.length≤1000000000):∀ (k i:Nat) (f:Bytes),i+k=s.length→f.length≤6*i+1→Ev2 (λ _ m=>cN s m (i:Int) f) (·=f++(s.drop i).flatMap fJ):=by
 intro k
 induction k with
 | zero =>
  intro i f hi hf
  refine ap ?_
  simp only [cN]
  refine am (by omega) (ab ?_)
  rw [List.drop_of_length_le (by omega)]; simp
 | succ k ih =>
  intro i f hi hf
  refine ap ?_
  simp only [cN]
  refine al (by omega) (ag (by omega) ?_)
  have hb:byt s i=((s.getD i 0).toNat:Int):=dM s i
  rw [hb]
  have hd:s.drop i=s.getD i 0::s.drop (i+1):=by
   rw [List.getD_eq_getElem?_getD,List.getElem?_eq_getElem (by omega),Option.getD_some]
   exact List.drop_eq_getElem_cons (by omega)
  rw [hd,List.flatMap_cons]
  generalize s.getD i 0=b
  have hbl:=b.toNat_lt
  have he:=pW b
  refine ai (f++fJ b) ?_ ?_
  ·refine ar (λ h1=>?_) (λ h1=>ar (λ h2=>?_) (λ h2=>ar (λ h3=>?_) (λ h3=>?_)))
   ·rw [x8 (by omega)]
    exact ai _ (aR (w2 f [92,110] (by simp only [List.length_cons,List.length_nil]; omega)) rfl) (ab rfl)
   ·rw [yI (by omega)]
    exact ai _ (aR (w2 f [92,114] (by simp only [List.length_cons,List.length_nil]; omega)) rfl) (ab rfl)
   ·rw [ym (by omega)]
    exact ai _ (aR (w2 f [92,116] (by simp only [List.length_cons,List.length_nil]; omega)) rfl) (ab rfl)
   refine ai (decide (b.toNat=34∨b.toNat=92)) ?_ ?_
   ·by_cases h:b.toNat=34
    ·exact al (by omega) (ab (by simp [h]))
    ·exact am (by omega) (ab (eqB (by rw [decide_eq_true_eq,decide_eq_true_eq]; omega)))
   by_cases h4:b.toNat=34∨b.toNat=92
   ·rw [Br h4]
    refine al (by simp [h4]) ?_
    refine ai _ (aR (wP f 92 (by omega)) rfl) (ai _ (aR (wP (f++[92]) b (by simp only [List.length_append,List.length_cons,List.length_nil]; omega)) rfl) (ab ?_))
    simp
   refine am (by simp only [decide_eq_true_eq]; exact h4) ?_
   refine ai (decide (b.toNat < 32∨b.toNat=127)) ?_ ?_
   ·by_cases h:b.toNat < 32
    ·exact al (by omega) (ab (by simp [h]))
    ·exact am (by omega) (ab (eqB (by rw [decide_eq_true_eq,decide_eq_true_eq]; omega)))
   by_cases h5:b.toNat < 32∨b.toNat=127
   ·rw [yv (by omega) (by omega) (by omega) h5]
    refine al (by simp [h5]) (ag (aF (by omega) (by omega)) ?_)
    have hx:gM (b.toNat:Int) 16=some (dA b.toNat):=by
     unfold gM
     rw [bI ⟨rfl,by omega,by omega⟩]; rfl
    have hxl:=nE b.toNat
    refine ai _ (aR hx rfl) (ag (by simp only [List.length_cons,List.length_nil]; omega) (ag (by simp only [List.length_append,List.length_cons,List.length_nil]; omega) ?_))
    exact ai _ (aR (w2 f _ (by simp only [List.length_append,List.length_cons,List.length_nil]; omega)) rfl) (ab (by simp))
   ·rw [wd (by omega) (by omega) h5]
    refine am (by simp only [decide_eq_true_eq]; exact h5) ?_
    exact ai _ (aR (wP f b (by omega)) rfl) (ab rfl)
  ·refine ag (aF (by omega) (by omega)) ?_
   have:=ih (i+1) (f++fJ b) (by omega) (by rw [List.length_append]; omega)
   rw [Int.natCast_add,Int.natCast_one] at this
   simpa using this
theorem sF (s:Bytes)(hs:s.length≤1000000000):Ev2 (λ n _=>eQ n s) (·=dI s):=by
 simp only [eQ]
 have hf:=sy s
 refine ai _ (aR (wP [] 34 (by simp)) rfl) ?_
 have l:=Ao s hs s.length 0 [34] (by omega) (by simp)
 rw [List.drop_zero] at l
 refine ai _ (aH l) ?_
 refine ai _ (aR (wP _ 34 (by simp only [List.length_append,List.length_cons,List.length_nil]; omega)) rfl) (ai _ (aR (DU _ (by simp only [List.length_append,List.length_cons,List.length_nil]; omega)) rfl) (ab ?_))
 simp [dI]
theorem Ep (s:Bytes):jv s=some (decide (s.length≤4096)&&validD s):=by
 unfold jv
 by_cases h:(s.length:Int)≤4096
 ·have hv:en s=some (validD s):=by unfold en; exact bI (by omega)
  rw [if_pos h,hv]
  simp; omega
 ·rw [if_neg h]
  simp; intro q; omega
end Go.Ab.R06
namespace Go.Ab.R06
open Go.Ab Go.Ab.RB Go.Lib
def qK (b:UInt8):Option Nat:=if 48≤b.toNat∧b.toNat≤57 then some (b.toNat - 48) else if 97≤b.toNat∧b.toNat≤102 then some (b.toNat - 87) else none
def CZ:Bytes:=[48,49,50,51,52,53,54,55,56,57,97,98,99,100,101,102]
theorem hexT:(List.range 256).all (λ n=>indexByte CZ (UInt8.ofNat n) == (match qK (UInt8.ofNat n) with | some d=>(d:Int) | none=>-1))=true:=by kernel_rfl
theorem zj (b:UInt8):indexByte CZ b=match qK b with | some d=>(d:Int) | none=>-1:=by
 have:=eq_of_beq (List.all_eq_true.1 hexT b.toNat (List.mem_range.2 b.toNat_lt))
 simpa using this
theorem yK {b:UInt8}{d:Nat}(h:qK b=some d):d < 16:=by
 unfold qK at h
 split at h
 ·cases h; omega
 ·split at h
  ·cases h; omega
  ·cases h
def di:Nat→Bytes→Nat→Nat×Nat
 | 0,_,a=>(a,0)
 | _+1,[],a=>(a,0)
 | k+1,b::r,a=>match qK b with
  | some d=>((di k r (16*a+d)).1,(di k r (16*a+d)).2+1)
  | none=>(a,0)
theorem oB:∀ (k:Nat) (l:Bytes) (a:Nat),(di k l a).2≤k∧(di k l a).2≤l.length
 | 0,_,_=>⟨Nat.le_refl _,Nat.zero_le _⟩
 | _+1,[],_=>⟨Nat.zero_le _,Nat.le_refl _⟩
 | k+1,b::r,a=>by
  unfold di
  cases qK b with
  | none=>exact ⟨Nat.zero_le _,Nat.zero_le _⟩
  | some d=>have:=oB k r (16*a+d); simp only [List.length_cons]; omega
theorem oG (n:Int)(h0:0≤n)(h1:n < 2147483648):IntKind.wrap .i32 n=n:=by
 simp [IntKind.wrap,IntKind.bits,IntKind.signed]
 omega
theorem DT (s:Bytes)(hs:s.length≤1000000000):∀ (k i a:Nat),i+k=6→i≤s.length→a < 16 ^ i→Ev2 (λ _ m=>bG s m (a:Int) (i:Int))
  (·=(((di k (s.drop i) a).1:Int),((i+(di k (s.drop i) a).2:Nat):Int))):=by
 intro k
 induction k with
 | zero =>
  intro i a hi hl ha
  refine ap ?_
  simp only [bG]
  refine ai false ?_ (am (by simp) (ab (by simp [di])))
  exact ar (λ h=>ab (by simp; omega)) (λ h=>ab rfl)
 | succ k ih =>
  intro i a hi hl ha
  refine ap ?_
  simp only [bG]
  by_cases h:i < s.length
  ·refine ai true (al (by omega) (ab (by simp; omega))) (al rfl (ag (by omega) ?_))
   have hb:byt s i=((s.getD i 0).toNat:Int):=dM s i
   rw [hb]
   have hd:s.drop i=s.getD i 0::s.drop (i+1):=by
    rw [List.getD_eq_getElem?_getD,List.getElem?_eq_getElem h,Option.getD_some]
    exact List.drop_eq_getElem_cons h
   rw [hd]
   generalize s.getD i 0=b
   have hx:strings_IndexByte ([48,49,50,51,52,53,54,55,56,57,97,98,99,100,101,102]:Bytes) (b.toNat:Int)=some (indexByte CZ b):=by
    unfold strings_IndexByte
    have:((b.toNat:Int).toNat.toUInt8)=b:=by simp
    rw [this]; rfl
   refine ai _ (aR hx rfl) ?_
   rw [zj]
   unfold di
   cases hh:qK b with
   | none=>exact al (by decide) (ab (by simp))
   | some d =>
    have hlt:=yK hh
    have hp:16 ^ i≤16 ^ 5:=Nat.pow_le_pow_right (by decide) (by omega)
    have hp5:(16:Nat) ^ 5=1048576:=rfl
    refine am (by simp) (ag (aF (by omega) (by omega)) ?_)
    have e1:IntKind.wrap .i32 (16*(a:Int))=16*(a:Int):=oG _ (by omega) (by omega)
    have e2:IntKind.wrap .i32 (d:Int)=(d:Int):=oG _ (by omega) (by omega)
    have e3:IntKind.wrap .i32 (16*(a:Int)+(d:Int))=((16*a+d:Nat):Int):=by
     rw [oG _ (by omega) (by omega)]; omega
    rw [e1,e2,e3]
    have:=ih (i+1) (16*a+d) (by omega) (by omega) (by rw [Nat.pow_succ]; omega)
    rw [show (((i+1:Nat)):Int)=(i:Int)+1 by omega] at this
    refine dZ this λ r hr=>?_
    rw [hr]
    refine Prod.ext rfl ?_
    show ((i+1+_:Nat):Int)=((i+(_+1):Nat):Int)
    omega
  ·refine ai false (am (by omega) (ab rfl)) (am (by simp) (ab ?_))
   rw [List.drop_of_length_le (by omega)]
   simp [di]
def ja (s:Bytes):Int×Int×Int :=
 let h:=di 6 s 0
 if h.2=s.length then (0,0,40)
 else if s.getD h.2 0≠125∨h.2=0∨(1 < h.2∧s.getD 0 0=48)∨validRune (h.1:Int)=false then (0,0,2)
 else ((h.1:Int),((h.2+1:Nat):Int),0)
theorem kW {b:UInt8}{n:Nat}(hn:n < 256):b.toNat=n↔b=UInt8.ofNat n:=by
 constructor
 ·intro h; apply UInt8.toNat_inj.1; rw [h,UInt8.toNat_ofNat']; omega
 ·intro h; rw [h,UInt8.toNat_ofNat']; omega
theorem sk {s:Bytes}{v c:Nat}(h:di 6 s 0=(v,c)):ja s=if c=s.length then (0,0,40) else if s.getD c 0≠125∨c=0∨(1 < c∧s.getD 0 0=48)∨validRune (v:Int)=false then (0,0,2) else ((v:Int),((c+1:Nat):Int),0):=by
 unfold ja; rw [h]
theorem Du (s:Bytes)(hs:s.length≤1000000000):Ev2 (λ n _=>cJ n s) (·=ja s):=by
 simp only [cJ]
 have l:=DT s hs 6 0 0 rfl (Nat.zero_le _) (by decide)
 rw [List.drop_zero,Nat.zero_add] at l
 have hle:=oB 6 s 0
 refine ai _ (aH l) ?_
 obtain ⟨v,c,hh⟩:∃ v c,di 6 s 0=(v,c):=⟨_,_,rfl⟩
 have hP:=sk hh
 rw [hh] at hle ⊢
 simp only at hle ⊢
 refine ar (λ h=>ab ?_) (λ h=>?_)
 ·rw [hP,if_pos (by omega)]
 rw [if_neg (show ¬ c=s.length by omega)] at hP
 have hb:byt s c=((s.getD c 0).toNat:Int):=dM s c
 have hb0:byt s 0=((s.getD 0 0).toNat:Int):=dM s 0
 have h125:(s.getD c 0).toNat=125↔s.getD c 0=125:=kW (by decide)
 have h48:(s.getD 0 0).toNat=48↔s.getD 0 0=48:=kW (by decide)
 have hv:dp (v:Int)=some (validRune (v:Int)):=rfl
 have key:Ev2 (λ _ _=>(ck ((0:Int)≤(c:Int)∧(c:Int) < (s.length:Int)) <|
  if byt s c=125 then
   if (c:Int)=0 then some true
   else
   if 1 < (c:Int) then
    ck ((0:Int)≤0∧0 < (s.length:Int)) <|
    if byt s 0=48 then some true
    else (dp (v:Int)).bind λ r32=>some (!r32)
   else (dp (v:Int)).bind λ r34=>some (!r34)
  else some true:Option Bool)) (·=decide (s.getD c 0≠125∨c=0∨(1 < c∧s.getD 0 0=48)∨validRune (v:Int)=false)):=by
  refine ag (by omega) ?_
  rw [hb,hb0]
  refine ar (λ h1=>ar (λ h2=>ab ?_) (λ h2=>ar (λ h3=>ag (by omega) (ar (λ h4=>ab ?_) (λ h4=>?_))) (λ h3=>?_))) (λ h1=>ab ?_)
  ·symm; rw [decide_eq_true_eq]; right; left; omega
  ·symm; rw [decide_eq_true_eq]; right; right; left; exact ⟨by omega,h48.1 (by omega)⟩
  ·have q1:¬ s.getD c 0≠125:=λ q=>q (h125.1 (by omega))
   have q2:¬ (1 < c∧s.getD 0 0=48):=λ q=>h4 (by have:=h48.2 q.2; omega)
   refine ai _ (aR hv rfl) (ab (eqB ?_))
   rw [decide_eq_true_eq]
   have:¬ c=0:=by omega
   simp only [q1,q2,false_or,this,Bool.not_eq_true']
  ·have q1:¬ s.getD c 0≠125:=λ q=>q (h125.1 (by omega))
   refine ai _ (aR hv rfl) (ab (eqB ?_))
   rw [decide_eq_true_eq]
   have a1:¬ c=0:=by omega
   have a2:¬ 1 < c:=by omega
   simp only [q1,a1,a2,false_or,false_and,Bool.not_eq_true']
  ·symm; rw [decide_eq_true_eq]; left; intro q; exact h1 (by have:=h125.2 q; omega)
 refine ai _ key ?_
 refine ar (λ h1=>ab ?_) (λ h1=>ag (aF (by omega) (by omega)) (ab ?_))
 ·rw [hP,if_pos (of_decide_eq_true h1)]
 ·rw [hP,if_neg (λ q=>h1 (decide_eq_true q))]
  refine Prod.ext rfl (Prod.ext ?_ rfl)
  show (c:Int)+1=((c+1:Nat):Int)
  omega
def jK (s:Bytes):Int×Int×Int:=match s with
 | []=>(0,0,40)
 | b::r=>if b.toNat=110 then (10,1,0) else if b.toNat=114 then (13,1,0) else if b.toNat=116 then (9,1,0)
  else if b.toNat=34∨b.toNat=92 then ((b.toNat:Int),1,0)
  else if b.toNat=117 then (match r with
   | []=>(0,0,40)
   | c::t=>if c.toNat=123 then ((ja t).1,(ja t).2.1+2,(ja t).2.2) else (0,0,2))
  else (0,0,2)
theorem ol (b:UInt8)(r:Bytes):jK (b::r)=if b.toNat=110 then (10,1,0) else if b.toNat=114 then (13,1,0) else if b.toNat=116 then (9,1,0)
  else if b.toNat=34∨b.toNat=92 then ((b.toNat:Int),1,0)
  else if b.toNat=117 then (match r with
   | []=>(0,0,40)
   | c::t=>if c.toNat=123 then ((ja t).1,(ja t).2.1+2,(ja t).2.2) else (0,0,2))
  else (0,0,2):=rfl
theorem vz (s:Bytes):0≤(ja s).2.1∧(ja s).2.1≤s.length∧((ja s).2.2=0→fw (ja s).1)∧0≤(ja s).2.2:=by
 have hle:=oB 6 s 0
 unfold ja
 generalize di 6 s 0=h at hle ⊢
 obtain ⟨v,c⟩:=h
 simp only at hle ⊢
 split
 ·simp <;> omega
 ·split
  ·simp <;> omega
  ·rename_i h1 h2
   refine ⟨by simp only; omega,by simp only; omega,λ _=>?_,by simp⟩
   have:validRune (v:Int)=true:=by
    cases hv:validRune (v:Int) with
    | true=>rfl
    | false=>exact absurd (.inr (.inr (.inr hv))) h2
   simp only [validRune,decide_eq_true_eq] at this
   unfold fw; simp only; omega
theorem vh (s:Bytes):0≤(jK s).2.1∧(jK s).2.1≤s.length+1∧((jK s).2.2=0→fw (jK s).1∧(jK s).2.1≤s.length)∧0≤(jK s).2.2:=by
 unfold jK
 split
 ·simp
 ·rename_i b r
  have hb:=b.toNat_lt
  split
  ·simp [fw] <;> omega
  split
  ·simp [fw] <;> omega
  split
  ·simp [fw] <;> omega
  split
  ·simp [fw] <;> omega
  split
  ·split
   ·simp
   ·rename_i c t
    have:=vz t
    split
    ·refine ⟨by simp only; omega,by simp only [List.length_cons]; omega,λ q=>⟨this.2.2.1 q,by simp only [List.length_cons]; omega⟩,this.2.2.2⟩
    ·simp <;> omega
  ·simp <;> omega
theorem Cu (s:Bytes)(hs:s.length≤1000000000):Ev2 (λ n _=>eV n s) (·=jK s):=by
 simp only [eV]
 cases s with
 | nil=>exact al rfl (ab rfl)
 | cons b r =>
  have hl:((b::r).length:Int)=(r.length:Int)+1:=by simp
  refine am (by simp) (ag (by omega) ?_)
  have hb:byt (b::r) 0=(b.toNat:Int):=rfl
  have hbl:=b.toNat_lt
  rw [hb]
  have hP:=ol b r
  refine ar (λ h=>ab (by rw [hP,if_pos (by omega)])) (λ h1=>?_)
  rw [if_neg (show ¬ b.toNat=110 by omega)] at hP
  refine ar (λ h=>ab (by rw [hP,if_pos (by omega)])) (λ h2=>?_)
  rw [if_neg (show ¬ b.toNat=114 by omega)] at hP
  refine ar (λ h=>ab (by rw [hP,if_pos (by omega)])) (λ h3=>?_)
  rw [if_neg (show ¬ b.toNat=116 by omega)] at hP
  refine ai (decide (b.toNat=34∨b.toNat=92)) ?_ ?_
  ·by_cases h:b.toNat=34
   ·exact al (by omega) (ab (by simp [h]))
   ·exact am (by omega) (ab (eqB (by rw [decide_eq_true_eq,decide_eq_true_eq]; omega)))
  by_cases h4:b.toNat=34∨b.toNat=92
  ·rw [if_pos h4] at hP
   rw [hP]
   refine al (by simp [h4]) (ag (by omega) (ab ?_))
   rw [oG _ (by omega) (by omega)]
  rw [if_neg h4] at hP
  refine am (by simp only [decide_eq_true_eq]; exact h4) ?_
  refine ar (λ h5=>?_) (λ h5=>ab (by rw [hP,if_neg (by omega)]))
  rw [if_pos (show b.toNat=117 by omega)] at hP
  rw [hP]
  cases r with
  | nil=>exact al (by simp) (ab rfl)
  | cons c t =>
   have hl2:((b::c::t).length:Int)=(t.length:Int)+2:=by simp <;> omega
   refine am (by omega) (ag (by omega) ?_)
   have hc:byt (b::c::t) 1=(c.toNat:Int):=rfl
   rw [hc]
   refine ar (λ h6=>ag (by omega) ?_) (λ h6=>ab (by show _=if c.toNat=123 then _ else _; rw [if_neg (by omega)]))
   have e6:(if c.toNat=123 then ((ja t).1,(ja t).2.1+2,(ja t).2.2) else ((0,0,2):Int×Int×Int))=((ja t).1,(ja t).2.1+2,(ja t).2.2):=if_pos (by omega)
   show Ev2 _ (·=if c.toNat=123 then ((ja t).1,(ja t).2.1+2,(ja t).2.2) else ((0,0,2):Int×Int×Int))
   rw [e6,fk]
   show Ev2 (λ n m=>(cJ n t).bind _) _
   have hle:=vz t
   have htl:t.length≤1000000000:=by simp at hs; omega
   exact ai _ (Du t htl) (ag (aF (by omega) (by omega)) (ab rfl))
end Go.Ab.R06
namespace Go.Ab.R06
open Go.Ab Go.Ab.RB Go.Lib
def pF (c:Nat×Nat):Prop:=(c.1=65533∧c.2=1)∨c.1 < 32∨c.1=127
instance (c:Nat×Nat):Decidable (pF c):=inferInstanceAs (Decidable (_∨_))
def kr:Nat→Bytes→Nat→Bytes→(Int×Bytes)⊕(Bytes×Int×Int)
 | 0,_,at',acc=>.inl ((at':Int),acc)
 | _+1,[],at',acc=>.inl ((at':Int),acc)
 | n+1,b::r,at',acc=>if b.toNat=34 then .inl ((at':Int),acc)
  else if (decodeL (b::r)).1=92 then
   (if (jK r).2.2=0 then kr n (r.drop (jK r).2.1.toNat) (at'+((jK r).2.1.toNat+1)) (acc++encodeRune (jK r).1) else .inr ([],0,(jK r).2.2))
  else if pF (decodeL (b::r)) then .inr ([],0,2)
  else kr n ((b::r).drop (decodeL (b::r)).2) (at'+(decodeL (b::r)).2) (acc++encodeRune ((decodeL (b::r)).1:Int))
theorem iQ (n:Nat)(b:UInt8)(r:Bytes)(at':Nat)(acc:Bytes):kr (n+1) (b::r) at' acc=if b.toNat=34 then .inl ((at':Int),acc)
  else if (decodeL (b::r)).1=92 then
   (if (jK r).2.2=0 then kr n (r.drop (jK r).2.1.toNat) (at'+((jK r).2.1.toNat+1)) (acc++encodeRune (jK r).1) else .inr ([],0,(jK r).2.2))
  else if pF (decodeL (b::r)) then .inr ([],0,2)
  else kr n ((b::r).drop (decodeL (b::r)).2) (at'+(decodeL (b::r)).2) (acc++encodeRune ((decodeL (b::r)).1:Int)):=by rw [kr]
theorem Eu (s:Bytes)(hs:s.length≤1000000000):∀ (k:Nat) (l:Bytes) (i:Nat) (f:Bytes),l.length < k→s.drop i=l→i+l.length=s.length→f.length≤4*i→Ev2 (λ n m=>cB n s m (i:Int) f) (·=kr k l i f):=by
 intro k
 induction k with
 | zero=>intro l i f h; omega
 | succ k ih =>
  intro l i f hk hl hi hf
  refine ap ?_
  simp only [cB]
  cases l with
  | nil =>
   simp only [List.length_nil] at hi
   refine ai false (am (by omega) (ab rfl)) (am (by simp) (ab ?_))
   rw [kr]
  | cons b r =>
   have hil:i < s.length:=by simp only [List.length_cons] at hi; omega
   have hb:byt s i=(b.toNat:Int):=by
    rw [dM]
    have:s.getD i 0=b:=by
     have:=List.drop_eq_getElem_cons hil
     rw [hl] at this
     rw [List.getD_eq_getElem?_getD,List.getElem?_eq_getElem hil]
     exact (List.cons.inj this).1.symm
    rw [this]
   have hr:s.drop (i+1)=r:=by
    have:=List.drop_eq_getElem_cons hil
    rw [hl] at this
    exact (List.cons.inj this).2.symm
   have hlr:r.length+i+1=s.length:=by simp only [List.length_cons] at hi; omega
   have hU:=iQ k b r i f
   rw [hb]
   by_cases h34:b.toNat=34
   ·rw [if_pos h34] at hU
    exact ai false (al (by omega) (ag (by omega) (ab (by simp; omega)))) (am (by simp) (ab hU.symm))
   rw [if_neg h34] at hU
   refine ai true (al (by omega) (ag (by omega) (ab (by simp; omega)))) (al rfl (ag (by omega) ?_))
   rw [fk,Int.toNat_natCast,hl]
   have hd:db (b::r)=some (((decodeL (b::r)).1:Int),((decodeL (b::r)).2:Int)):=by
    unfold db
    rw [gL _ (by simp)]
   refine ai _ (aR hd rfl) ?_
   have hdf:=kB (b::r) (by simp)
   generalize hD:decodeL (b::r)=D at hU hdf ⊢
   obtain ⟨c,w⟩:=D
   simp only at hU hdf ⊢
   by_cases h92:c=92
   ·rw [if_pos h92] at hU
    have hes:=vh r
    have hev:=Cu r (by omega)
    have sub1:sub s ((i:Int)+1) (s.length:Int)=r:=by
     rw [fk,show ((i:Int)+1).toNat=i+1 by omega,hr]
    generalize jK r=E at hU hes hev
    obtain ⟨x,y,z⟩:=E
    simp only at hU hes hev
    by_cases hz:z=0
    ·rw [if_pos hz] at hU
     refine ls (al (by omega) (ag (aF (by omega) (by omega)) (ag (by omega) ?_)))
     rw [sub1]
     obtain ⟨e1,e2⟩:=hes.2.2.1 hz
     obtain ⟨y',rfl⟩:∃ y':Nat,y=y':=⟨y.toNat,by omega⟩
     rw [Int.toNat_natCast] at hU
     refine ai _ hev (al hz (ag (aF (by dsimp only; omega) (by dsimp only; omega)) (ab ?_)))
     refine ai _ (aR (Dy f x e1 (by omega)) rfl) (ag (aF (by dsimp only; omega) (by dsimp only; omega)) ?_)
     have hle:=lD x e1
     have:=ih (r.drop y') (i+(y'+1)) (f++encodeRune x) (by rw [List.length_drop]; simp only [List.length_cons] at hk; omega) (by rw [← hr,List.drop_drop]; congr 1; omega) (by rw [List.length_drop]; omega) (by rw [List.length_append]; omega)
     rw [← hU] at this
     rw [show ((i+(y'+1):Nat):Int)=(i:Int)+((y':Int)+1) by omega] at this
     exact this
    ·rw [if_neg hz] at hU
     refine ls (al (by omega) (ag (aF (by omega) (by omega)) (ag (by omega) ?_)))
     rw [sub1]
     refine ai _ hev (am hz (ab ?_))
     exact hU.symm
   ·rw [if_neg h92] at hU
    have hbad:Ev2 (λ _ _=>(if (c:Int)=65533 then if (w:Int)=1 then some true else if (c:Int) < 32 then some true else some (decide ((c:Int)=127)) else if (c:Int) < 32 then some true else some (decide ((c:Int)=127)):Option Bool)) (·=decide (pF (c,w))):=by
     refine ar (λ h1=>ar (λ h2=>ab ?_) (λ h2=>ar (λ h3=>ab ?_) (λ h3=>ab (eqB ?_)))) (λ h1=>ar (λ h3=>ab ?_) (λ h3=>ab (eqB ?_)))
     ·symm; rw [decide_eq_true_eq]; left; simp only; omega
     ·symm; rw [decide_eq_true_eq]; right; left; simp only; omega
     ·rw [decide_eq_true_eq,decide_eq_true_eq]; unfold pF; simp only; omega
     ·symm; rw [decide_eq_true_eq]; right; left; simp only; omega
     ·rw [decide_eq_true_eq,decide_eq_true_eq]; unfold pF; simp only; omega
    by_cases hbd:pF (c,w)
    ·rw [if_pos hbd] at hU
     refine ls (am (by omega) (ai _ hbad (al (by simp only [decide_eq_true_eq]; exact hbd) (ab ?_))))
     exact hU.symm
    ·rw [if_neg hbd] at hU
     refine ls (am (by omega) (ai _ hbad (am (by simp only [decide_eq_true_eq]; exact hbd) (ab ?_))))
     have hgood:=hdf.2.2 (λ q=>hbd (.inl q))
     refine ai _ (aR (Dy f c hgood.1 (by omega)) rfl) (ag (aF (by simp only [List.length_cons] at hdf; omega) (by simp only [List.length_cons] at hdf; omega)) ?_)
     have hle:=lD c hgood.1
     have hw:w≤r.length+1:=by simpa using hdf.2.1
     have hw1:=hdf.1
     have:=ih ((b::r).drop w) (i+w) (f++encodeRune (c:Int)) (by rw [List.length_drop]; simp only [List.length_cons] at hk ⊢; omega) (by rw [← hl,List.drop_drop]) (by rw [List.length_drop]; simp only [List.length_cons]; omega) (by rw [List.length_append]; omega)
     rw [← hU] at this
     rw [show ((i+w:Nat):Int)=(i:Int)+(w:Int) by omega] at this
     exact this
def jF:Bytes→Bytes×Int×Int
 | []=>([],0,40)
 | b::r=>if b.toNat=34 then (match kr (r.length+1) r 1 [] with
   | .inl q=>if q.1=((r.length+1:Nat):Int) then ([],0,40) else if 4096 < q.2.length then ([],0,3) else (q.2,q.1+1,0)
   | .inr e=>e)
  else ([],0,2)
theorem l9 (b:UInt8)(r:Bytes):jF (b::r)=if b.toNat=34 then (match kr (r.length+1) r 1 [] with
   | .inl q=>if q.1=((r.length+1:Nat):Int) then ([],0,40) else if 4096 < q.2.length then ([],0,3) else (q.2,q.1+1,0)
   | .inr e=>e)
  else ([],0,2):=rfl
theorem vd:∀ (k:Nat) (l:Bytes) (i:Nat) (f:Bytes),(∀ a g,kr k l i f=.inl (a,g)→(i:Int)≤a∧a≤((i+l.length:Nat):Int)∧g.length≤f.length+4*l.length∧((∀ t,validD (f++t)=validD t)→∀ t,validD (g++t)=validD t))∧(∀ x,kr k l i f=.inr x→x.1=[]∧x.2.1=0∧x.2.2≠0):=by
 intro k
 induction k with
 | zero =>
  intro l i f
  refine ⟨λ a g h=>?_,λ x h=>(by rw [kr] at h; cases h)⟩
  rw [kr] at h; cases h
  exact ⟨by omega,by omega,by omega,λ q=>q⟩
 | succ k ih =>
  intro l i f
  cases l with
  | nil =>
   refine ⟨λ a g h=>?_,λ x h=>(by rw [kr] at h; cases h)⟩
   rw [kr] at h; cases h
   exact ⟨by omega,by simp,by simp,λ q=>q⟩
  | cons b r =>
   rw [iQ]
   have hdf:=kB (b::r) (by simp)
   have hes:=vh r
   split
   ·refine ⟨λ a g h=>?_,λ x h=>(by cases h)⟩
    cases h
    exact ⟨by omega,by simp only [List.length_cons]; omega,by omega,λ q=>q⟩
   split
   ·split
    ·rename_i hz
     obtain ⟨e1,e2⟩:=hes.2.2.1 hz
     have hle:=lD _ e1
     have hi:=ih (r.drop (jK r).2.1.toNat) (i+((jK r).2.1.toNat+1)) (f++encodeRune (jK r).1)
     refine ⟨λ a g h=>?_,hi.2⟩
     have:=hi.1 a g h
     rw [List.length_drop,List.length_append] at this
     refine ⟨by omega,by simp only [List.length_cons]; omega,by simp only [List.length_cons]; omega,λ q=>this.2.2.2 λ t=>?_⟩
     rw [List.append_assoc,q,uP _ e1]
    ·rename_i hz
     refine ⟨λ a g h=>(by cases h),λ x h=>?_⟩
     cases h
     exact ⟨rfl,rfl,hz⟩
   split
   ·refine ⟨λ a g h=>(by cases h),λ x h=>?_⟩
    cases h
    exact ⟨rfl,rfl,by decide⟩
   ·rename_i hbd
    have hgood:=hdf.2.2 (λ q=>hbd (.inl q))
    have hle:=lD _ hgood.1
    have hi:=ih ((b::r).drop (decodeL (b::r)).2) (i+(decodeL (b::r)).2) (f++encodeRune ((decodeL (b::r)).1:Int))
    refine ⟨λ a g h=>?_,hi.2⟩
    have:=hi.1 a g h
    rw [List.length_drop,List.length_append] at this
    simp only [List.length_cons] at this hdf ⊢
    refine ⟨by omega,by omega,by omega,λ q=>this.2.2.2 λ t=>?_⟩
    rw [List.append_assoc,q,uP _ hgood.1]
theorem Ei (s:Bytes)(hs:s.length≤1000000000):Ev2 (λ n _=>eC n s) (·=jF s):=by
 simp only [eC]
 cases s with
 | nil=>exact al rfl (ab rfl)
 | cons b r =>
  have hl:((b::r).length:Int)=(r.length:Int)+1:=by simp
  have hln:(b::r).length=r.length+1:=by simp
  refine am (by simp) (ag (by omega) ?_)
  have hb:byt (b::r) 0=(b.toNat:Int):=rfl
  rw [hb]
  rw [l9]
  refine ar (λ h=>?_) (λ h=>ab (by rw [if_neg (show ¬ b.toNat=34 by omega)]))
  have l:=Eu (b::r) hs (r.length+1) r 1 [] (by omega) rfl (by omega) (by simp)
  have hle:=vd (r.length+1) r 1 []
  have e34:b.toNat=34:=by omega
  simp only [e34,if_true]
  generalize kr (r.length+1) r 1 []=U at l hle ⊢
  cases U with
  | inr e=>exact fW e (aH l) rfl
  | inl q =>
   obtain ⟨a,g⟩:=q
   have hq:=hle.1 a g rfl
   simp only [List.length_nil,Nat.zero_add] at hq
   refine dF (a,g) (aH l) ?_
   refine ar (λ h=>ab (by simp only at h ⊢; rw [if_pos (by omega)])) (λ h=>?_)
   simp only at h ⊢
   rw [if_neg (by omega)]
   refine ai _ (aR rfl rfl) (ar (λ h1=>ab (by simp only at h1; rw [if_pos (by omega)])) (λ h1=>?_))
   simp only at h1
   rw [if_neg (by omega)]
   refine ai _ (aR (DU g (by omega)) rfl) (ag (aF (by omega) (by omega)) (ab rfl))
theorem vu {s x:Bytes}{n:Int}(h:jF s=(x,n,0)):x.length≤4096∧validD x=true∧2≤n∧n≤s.length:=by
 cases s with
 | nil=>cases h
 | cons b r =>
  rw [l9] at h
  split at h
  ·have hle:=vd (r.length+1) r 1 []
   split at h
   ·rename_i q hq
    obtain ⟨a,g⟩:=q
    have hg:=hle.1 a g hq
    simp only at h
    split at h
    ·cases h
    ·split at h
     ·cases h
     ·rename_i h1 h2
      cases h
      simp only [List.length_cons]
      refine ⟨by omega,?_,by omega,by omega⟩
      have:=hg.2.2.2 (λ t=>by simp) []
      simpa [validD_nil] using this
   ·rename_i e he
    subst h
    exact absurd rfl (hle.2 _ he).2.2
  ·cases h
theorem yd (s:Bytes):0≤(jF s).2.1∧(jF s).2.1≤s.length∧((jF s).2.2≠0→(jF s).1=[]∧(jF s).2.1=0)∧(jF s).1.length≤4096:=by
 cases s with
 | nil=>exact ⟨Int.le_refl _,Int.le_refl _,λ _=>⟨rfl,rfl⟩,Nat.zero_le _⟩
 | cons b r =>
  rw [l9]
  split
  ·have hle:=vd (r.length+1) r 1 []
   split
   ·rename_i q hq
    obtain ⟨a,g⟩:=q
    have hg:=hle.1 a g hq
    simp only
    split
    ·simp; omega
    ·split
     ·simp; omega
     ·rename_i h1 h2
      simp only [List.length_cons] at *
      exact ⟨by omega,by omega,λ q=>absurd rfl q,by omega⟩
   ·rename_i e he
    have:=hle.2 _ he
    rw [this.1,this.2.1]
    simp; omega
  ·simp; omega
theorem tm:∀ n:Fin 16,qK (hexDigit n.1)=some n.1∧((hexDigit n.1)=48→n.1=0):=by decide
theorem tN {n:Nat}(h:n < 16):qK (hexDigit n)=some n:=(tm ⟨n,h⟩).1
theorem Cj (u:Nat)(h:u < 256)(t:Bytes):ja (dA u++125::t)=((u:Int),(((dA u).length+1:Nat):Int),0):=by
 have hv:validRune (u:Int)=true:=by simp only [validRune,decide_eq_true_eq]; omega
 have h125:qK 125=none:=by decide
 by_cases h1:u < 16
 ·have e:dA u=[hexDigit u]:=if_pos h1
  have hr:di 6 (dA u++125::t) 0=(u,1):=by
   rw [e]
   show di (5+1) (hexDigit u::125::t) 0=_
   rw [di,tN h1]
   show ((di (4+1) (125::t) (16*0+u)).1,(di (4+1) (125::t) (16*0+u)).2+1)=_
   rw [di,h125]; simp
  rw [sk hr,e,if_neg (by simp),if_neg]
  ·simp
  ·rintro (q | q | q | q)
   ·exact q rfl
   ·cases q
   ·omega
   ·rw [hv] at q; cases q
 ·have e:dA u=[hexDigit (u / 16),hexDigit (u % 16)]:=if_neg h1
  have hr:di 6 (dA u++125::t) 0=(u,2):=by
   rw [e]
   show di (5+1) (hexDigit (u / 16)::hexDigit (u % 16)::125::t) 0=_
   rw [di,tN (by omega)]
   show ((di (4+1) (hexDigit (u % 16)::125::t) (16*0+u / 16)).1,(di (4+1) (hexDigit (u % 16)::125::t) (16*0+u / 16)).2+1)=_
   rw [di,tN (by omega)]
   show ((di (3+1) (125::t) (16*(16*0+u / 16)+u % 16)).1,(di (3+1) (125::t) (16*(16*0+u / 16)+u % 16)).2+1+1)=_
   rw [di,h125]
   refine Prod.ext ?_ rfl
   show 16*(16*0+u / 16)+u % 16=u
   omega
  rw [sk hr,e,if_neg (by simp),if_neg]
  ·simp
  ·rintro (q | q | q | q)
   ·exact q rfl
   ·cases q
   ·have:=(tm ⟨u / 16,by omega⟩).2 q.2
    simp only at this; omega
   ·rw [hv] at q; cases q
theorem qZ (b:UInt8)(h:b.toNat < 128):encodeRune (b.toNat:Int)=[b]:=by
 simp only [encodeRune,encodeRuneZ,if_pos (show (0:Int)≤(b.toNat:Int)∧(b.toNat:Int)≤127 by omega),List.map_cons,List.map_nil]
 simp
theorem Ah (b:UInt8)(h:b.toNat < 128)(c:UInt8)(rest:Bytes)(he:fJ b=92::c::rest)(t:Bytes):jK (c::rest++t)=((b.toNat:Int),((rest.length+1:Nat):Int),0):=by
 have hl:∀ x y:UInt8,([x,y]:Bytes)=92::c::rest→c=y∧rest=[]:=λ x y q=>by
  have:=(List.cons.inj q).2
  exact ⟨((List.cons.inj this).1).symm,((List.cons.inj this).2).symm⟩
 by_cases h10:b.toNat=10
 ·rw [x8 h10] at he
  obtain ⟨rfl,rfl⟩:=hl _ _ he
  rw [h10]; rfl
 by_cases h13:b.toNat=13
 ·rw [yI h13] at he
  obtain ⟨rfl,rfl⟩:=hl _ _ he
  rw [h13]; rfl
 by_cases h9:b.toNat=9
 ·rw [ym h9] at he
  obtain ⟨rfl,rfl⟩:=hl _ _ he
  rw [h9]; rfl
 by_cases hq:b.toNat=34∨b.toNat=92
 ·rw [Br hq] at he
  obtain ⟨rfl,rfl⟩:=hl _ _ he
  rw [List.cons_append,ol,if_neg (by omega),if_neg (by omega),if_neg (by omega),if_pos hq]
  rfl
 by_cases hu:b.toNat < 32∨b.toNat=127
 ·rw [yv h10 h13 h9 hu] at he
  have he:(92:UInt8)::117::(123::(dA b.toNat++[125]))=92::c::rest:=he
  obtain ⟨hc,hr⟩:=List.cons.inj (List.cons.inj he).2
  subst hc
  subst hr
  have hh:=Cj b.toNat (by omega) t
  have e2:(123::(dA b.toNat++[125]):Bytes)++t=123::(dA b.toNat++125::t):=by simp
  rw [List.cons_append,e2,ol,if_neg (by decide),if_neg (by decide),if_neg (by decide),if_neg (by decide),if_pos (by decide)]
  show (if (123:UInt8).toNat=123 then _ else _)=_
  rw [if_pos (by decide),hh]
  refine Prod.ext rfl (Prod.ext ?_ rfl)
  simp only [List.length_cons,List.length_append,List.length_nil]
  omega
 ·rw [wd (by omega) (by omega) hu] at he
  cases he
theorem uX:∀ p:Bytes,(∀ y∈p,128≤y.toNat)→p.flatMap fJ=p
 | [],_=>rfl
 | y::r,h=>by
  have hy:=h y List.mem_cons_self
  rw [List.flatMap_cons,uX r (λ z hz=>h z (List.mem_cons_of_mem _ hz)),wd (by omega) (by omega) (by omega)]
  rfl
theorem xO:∀ (n:Nat) (x:Bytes) (k i:Nat) (acc t:Bytes),x.length≤n→validD x=true→(x.flatMap fJ++34::t).length < k →
  kr k (x.flatMap fJ++34::t) i acc=.inl (((i+(x.flatMap fJ).length:Nat):Int),acc++x):=by
 intro n
 induction n with
 | zero =>
  intro x k i acc t hx hv hk
  obtain rfl:x=[]:=by cases x <;> simp_all
  obtain ⟨k,rfl⟩:∃ k',k=k'+1:=⟨k - 1,by omega⟩
  show kr (k+1) (34::t) i acc=_
  rw [iQ,if_pos (by decide)]
  simp
 | succ n ih =>
  intro x k i acc t hx hv hk
  obtain ⟨k,rfl⟩:∃ k',k=k'+1:=⟨k - 1,by omega⟩
  cases x with
  | nil =>
   show kr (k+1) (34::t) i acc=_
   rw [iQ,if_pos (by decide)]
   simp
  | cons b r =>
   by_cases hb:b.toNat < 128
   ·have hvr:validD r=true:=by rw [← validD_cons b r hb]; exact hv
    rw [List.flatMap_cons] at hk ⊢
    have hlen:=pW b
    have hxr:r.length≤n:=by simpa using hx
    by_cases hp:b.toNat≠34∧b.toNat≠92∧¬ (b.toNat < 32∨b.toNat=127)
    ·rw [wd hp.1 hp.2.1 hp.2.2] at hk ⊢
     show kr (k+1) (b::(r.flatMap fJ++34::t)) i acc=_
     rw [iQ,if_neg hp.1,decodeL_ascii b _ hb,if_neg (by simp only; omega),if_neg]
     ·have:=ih r k (i+1) (acc++[b]) t hxr hvr (by simp only [List.length_append,List.length_cons,List.length_nil] at hk ⊢; omega)
      simp only [List.drop_succ_cons,List.drop_zero]
      rw [qZ b hb,this]
      refine congrArg Sum.inl (Prod.ext ?_ ?_)
      ·simp only [List.length_append,List.length_cons,List.length_nil]; omega
      ·simp
     ·unfold pF; simp only; omega
    ·obtain ⟨c,rest,he⟩:∃ c rest,fJ b=92::c::rest:=by
      by_cases h10:b.toNat=10
      ·exact ⟨_,_,x8 h10⟩
      by_cases h13:b.toNat=13
      ·exact ⟨_,_,yI h13⟩
      by_cases h9:b.toNat=9
      ·exact ⟨_,_,ym h9⟩
      by_cases hq:b.toNat=34∨b.toNat=92
      ·exact ⟨_,_,Br hq⟩
      ·exact ⟨_,_,yv h10 h13 h9 (by omega)⟩
     have hesc:=Ah b hb c rest he (r.flatMap fJ++34::t)
     rw [he] at hk ⊢
     have e:(92::c::rest++r.flatMap fJ)++34::t=92::(c::rest++(r.flatMap fJ++34::t)):=by simp
     rw [e,iQ,if_neg (by decide),decodeL_ascii 92 _ (by decide),if_pos (by decide),hesc]
     simp only [if_true,Int.toNat_natCast]
     have hd:(c::rest++(r.flatMap fJ++34::t)).drop (rest.length+1)=r.flatMap fJ++34::t:=by
      have:rest.length+1=(c::rest).length:=by simp
      rw [this,List.drop_left]
     rw [hd,qZ b hb]
     have:=ih r k (i+(rest.length+1+1)) (acc++[b]) t hxr hvr (by simp only [List.length_append,List.length_cons,List.length_nil] at hk ⊢; omega)
     rw [this]
     refine congrArg Sum.inl (Prod.ext ?_ ?_)
     ·simp only [List.length_append,List.length_cons,List.length_nil]; omega
     ·simp
   ·have hne:b::r≠[]:=by simp
    obtain ⟨hnb,hvr⟩:=(sJ _ hne).1 hv
    have hdf:=kB _ hne
    have hgood:=hdf.2.2 hnb
    have hN:=Dv (b::r).length ((b::r).getD 0 0).toNat ((b::r).getD 1 0).toNat ((b::r).getD 2 0).toNat ((b::r).getD 3 0).toNat (by simp) (UInt8.toNat_lt _)
    rw [← decodeL_N] at hN
    generalize hD:decodeL (b::r)=D at hnb hvr hdf hgood hN
    obtain ⟨c,w⟩:=D
    simp only at hnb hvr hdf hgood hN
    have hc:128≤c:=by
     rcases Nat.lt_or_ge c 128 with q | q
     ·have:=(hN.2.2.2.1 q).2
      have hb0:((b::r).getD 0 0).toNat=b.toNat:=rfl
      omega
     ·exact q
    have hhigh:=hN.2.2.2.2.1 hc
    have hp:∀ y∈(b::r).take w,128≤y.toNat:=by
     intro y hy
     obtain ⟨j,hj,rfl⟩:=List.getElem_of_mem hy
     rw [List.length_take] at hj
     have hj2:j < (b::r).length:=by omega
     have hg:((b::r).getD j 0)=((b::r).take w)[j]'(by rw [List.length_take]; exact hj):=by
      rw [List.getElem_take,List.getD_eq_getElem?_getD,List.getElem?_eq_getElem hj2]; rfl
     rw [← hg]
     obtain rfl | rfl | rfl | rfl:j=0∨j=1∨j=2∨j=3:=by omega
     ·exact hhigh.1
     ·exact hhigh.2.1 (by omega)
     ·exact hhigh.2.2.1 (by omega)
     ·exact hhigh.2.2.2 (by omega)
    have hsplit:(b::r).flatMap fJ=encodeRune (c:Int)++((b::r).drop w).flatMap fJ:=by
     conv=>lhs; rw [← List.take_append_drop w (b::r)]
     rw [List.flatMap_append,uX _ hp,hgood.2]
    have hel:(encodeRune (c:Int)).length=w:=by
     rw [hgood.2,List.length_take]; omega
    obtain ⟨y,p',hp'⟩:∃ y p',encodeRune (c:Int)=y::p':=by
     cases hx:encodeRune (c:Int) with
     | nil=>rw [hx] at hel; simp at hel; omega
     | cons y p'=>exact ⟨y,p',rfl⟩
    have hy:128≤y.toNat:=hp y (by rw [← hgood.2,hp']; exact List.mem_cons_self)
    have hdec:=yL (c:Int) hgood.1 (((b::r).drop w).flatMap fJ++34::t)
    rw [hsplit,List.append_assoc] at hk ⊢
    have hlk:(encodeRune (c:Int)++(((b::r).drop w).flatMap fJ++34::t)).drop w=((b::r).drop w).flatMap fJ++34::t:=by
     rw [← hel,List.drop_left]
    have:=ih ((b::r).drop w) k (i+w) (acc++encodeRune (c:Int)) t (by rw [List.length_drop]; simp only [List.length_cons] at hx ⊢; omega) hvr (by rw [List.length_append] at hk; omega)
    rw [hp',List.cons_append] at hdec hlk ⊢
    rw [iQ,if_neg (by omega),hdec]
    simp only [Int.toNat_natCast]
    rw [if_neg (by omega),if_neg]
    ·rw [← hp',hel,hlk,this]
     refine congrArg Sum.inl (Prod.ext ?_ ?_)
     ·rw [hp'] at hel
      simp only [List.length_append,hel,hp']; omega
     ·rw [List.append_assoc,hgood.2,List.take_append_drop]
    ·rw [← hp',hel]
     unfold pF; simp only; omega
theorem tA (x t:Bytes)(hv:validD x=true)(hl:x.length≤4096):jF (dI x++t)=(x,((dI x).length:Int),0):=by
 have e:dI x++t=34::(x.flatMap fJ++34::t):=by simp [dI]
 rw [e,l9,if_pos (by decide),xO x.length x _ 1 [] t (Nat.le_refl _) hv (by omega)]
 simp only
 rw [if_neg (by simp only [List.length_append,List.length_cons]; omega),if_neg (by simp only [List.nil_append]; omega)]
 refine Prod.ext (by simp) (Prod.ext ?_ rfl)
 simp only [dI,List.length_cons,List.length_append,List.length_nil]; omega
theorem Dk:∀ (k u:Nat),u < 10 ^ (k+1)→(decDigits u).length≤k+1:=by
 intro k
 induction k with
 | zero=>intro u h; rw [decDigits,dif_pos (by simpa using h)]; simp
 | succ k ih =>
  intro u h
  rw [decDigits]
  split
  ·simp
  ·have:=ih (u / 10) (by rw [Nat.pow_succ] at h; omega)
   rw [List.length_append]; simp; omega
theorem pY {v:Int}(h0:0≤v)(h1:v≤io):(itoa v).length≤16:=by
 obtain ⟨u,rfl⟩:∃ u:Nat,v=u:=⟨v.toNat,by omega⟩
 unfold itoa
 rw [if_neg (by omega),Int.toNat_natCast]
 exact Dk 15 u (by unfold io at h1; omega)
end Go.Ab.R06
end
section
set_option linter.unusedVariables false
set_option linter.unusedSimpArgs false
set_option linter.unnecessarySimpa false
namespace Go.Ab.R06
open Go.Proofs Go.Ab Go.Ab.RB
attribute [local irreducible] awp gO aY aB cD AV.sub M dh
def ek (r_0:av)(s_1:Bytes):Option (Bool×av) :=
 (strings_CutPrefix r_0.frest s_1).bind λ r1 =>
 some (r1.2,(av.mk r1.1 r_0.fbad))
set_option maxHeartbeats 4000000 in
theorem gI (r_0:av)(s_1:Bytes)(r:Bool×av)(h0:ek r_0 s_1=some r):cD Tryz.prog 47 [.ptr 1000000 0,.p (eS s_1)] [(1000000,[.p (eS r_0.frest),.p (eB r_0.fbad)])] (λ x y=>x=.p (eB r.1)∧y=[(1000000,[.p (eS r.2.frest),.p (eB r.2.fbad)])]):=by
 unfold ek at h0
 refine jk good [] [1000000] Tryz.func47 rfl rfl rfl rfl rfl λ w0 F=>mPo (λ v:Bool×av=>.p (eB v.1)) (λ v=>[(1000000,[.p (eS v.2.frest),.p (eB v.2.fbad)])]) ?_
 refine nx 11 rfl (bd h0 λ r1 e2 h0=>?_)
 refine oK (j3 r_0.frest s_1 _ e2) rfl ⟨sr,sr,trivial⟩ Tryz.call62 rfl (nx 20 rfl ?_)
 exact mQo (oi h0) (ca _) rfl rfl rfl rfl (sr) ⟨⟨_,rfl,⟨sr,sr,trivial⟩⟩,trivial⟩
def bE (s_0:Bytes):Nat→Int→Option (Unit⊕Bool)
 | 0,_=>none
 | m+1,t19 =>
 if t19 < (s_0.length:Int) then
  ck ((0:Int)≤t19∧t19 < (s_0.length:Int)) <|
  (
    ck ((0:Int)≤t19∧t19 < (s_0.length:Int)) <|
    if byt s_0 t19=95 then
     some false
    else
     if iOr .u8 (byt s_0 t19) 32 < 97 then
      if t19=0 then
       some true
      else
       ck ((0:Int)≤t19∧t19 < (s_0.length:Int)) <|
       if byt s_0 t19 < 48 then
        some true
       else
        ck ((0:Int)≤t19∧t19 < (s_0.length:Int)) <|
        some (decide (57 < byt s_0 t19))
     else
      if 122 < iOr .u8 (byt s_0 t19) 32 then
       if t19=0 then
        some true
       else
        ck ((0:Int)≤t19∧t19 < (s_0.length:Int)) <|
        if byt s_0 t19 < 48 then
         some true
        else
         ck ((0:Int)≤t19∧t19 < (s_0.length:Int)) <|
         some (decide (57 < byt s_0 t19))
      else
       some false
   : Option Bool).bind λ t34 =>
  if t34=true then
   some (.inr false)
  else
   ck (inR (t19+1)) <|
   bE s_0 m (t19+1)
 else
  some (.inl ())
def ce (n:Nat)(s_0:Bytes):Option Bool :=
 jn (bE s_0 n 0) λ q40 =>
 (
   if s_0=([]:Bytes) then
    some false
   else
    some (decide ((s_0.length:Int)≤64))
  : Option Bool).bind λ t39 =>
 some t39
set_option maxHeartbeats 4000000 in
theorem fu (n:Nat)(s_0:Bytes)(r:Bool)(h0:ce n s_0=some r):aB Tryz.prog 64 [eS s_0] (·=.p (eB r)):=by
 unfold ce at h0
 refine aU good Tryz.func64 rfl rfl rfl λ w0=>mP (λ v:Bool=>.p (eB v)) ?_
 refine nx 8 rfl (oLs rfl ?_)
 refine nx 3 rfl ?_
 obtain ⟨o43,h1,hL0,hR0⟩:=cU h0
 refine kEx 0 (λ v44:Unit=>o43=.inl v44) (λ v44=>⟨[(0,.p (eS s_0))],[]⟩) (λ v44 hv=>?_) ?_
 ·have h0:=hL0 _ hv
  refine nx 2 rfl (bd h0 λ o45 h1 h0=>?_)
  refine kN o45 (λ v46=>⟨[(2,.p (eB v46))],[]⟩) ?_ ?_
  ·exact nx 2 rfl (mQ (oi h0) rfl (sr))
  refine nx 2 rfl (oS rfl rfl ?_)
  refine nx 1 rfl (fN [44,45] h1 rfl (λ c38 h1=>?_) λ c38 h1=>?_)
  ·exact nx 6 rfl (eX _ (oi h1).symm (gE rfl rfl))
  refine nx 1 rfl (oLs rfl ?_)
  exact nx 4 rfl (eX _ (oi h1).symm (gE rfl rfl))
 refine lG (λ (q47:Int)=>⟨[(0,.p (eS s_0)),(6,.p (eI (s_0.length:Int))),(7,.p (eI q47))],[]⟩) (λ m (q47:Int)=>bE s_0 m q47) (λ _=>rfl) 0 h1 (gE rfl rfl) ?_
 rintro m t19 h1
 replace h1:bE s_0 (m+1) t19=some o43:=h1
 rw [bE] at h1
 refine nx 5 rfl (fD [8] h1 rfl (λ c20 h1=>?_) λ c20 h1=>?_)
 ·refine nx 13 rfl (oI h1 rfl λ hk21 h1=>?_)
  refine nx 4 rfl (bd h1 λ o48 h2 h1=>?_)
  refine kN o48 (λ v49=>⟨[(0,.p (eS s_0)),(6,.p (eI (s_0.length:Int))),(7,.p (eI t19)),(41,.p (eB v49))],[]⟩) ?_ ?_
  ·refine nx 1 rfl (fB [41] h1 rfl (λ c35 h1=>?_) λ c35 h1=>?_)
   ·exact nx 6 rfl (mQ (hR0 _ (oi h1).symm) rfl (sr))
   refine nx 3 rfl (oA h1 rfl rfl λ hk36 h1=>?_)
   exact nx 2 rfl (eX (t19+1) h1 (gE rfl rfl))
  refine nx 3 rfl (oI h2 rfl λ hk22 h2=>?_)
  refine nx 2 rfl (fN [17,18] h2 rfl (λ c23 h2=>?_) λ c23 h2=>?_)
  ·exact nx 24 rfl (eX _ (oi h2).symm (gE rfl rfl))
  refine nx 3 rfl (fD [20,21] h2 rfl (λ c24 h2=>?_) λ c24 h2=>?_)
  ·refine nx 8 rfl (fD [28,29] h2 rfl (λ c25 h2=>?_) λ c25 h2=>?_)
   ·exact nx 13 rfl (eX _ (oi h2).symm (gE rfl rfl))
   refine nx 2 rfl (oI h2 rfl λ hk26 h2=>?_)
   refine nx 3 rfl (fD [33,34,35] h2 rfl (λ c27 h2=>?_) λ c27 h2=>?_)
   ·exact nx 7 rfl (eX _ (oi h2).symm (gE rfl rfl))
   refine nx 2 rfl (oI h2 rfl λ hk28 h2=>?_)
   exact nx 4 rfl (eX _ (oi h2).symm (gE rfl rfl))
  refine nx 5 rfl (fD [23,24,25,26] h2 rfl (λ c29 h2=>?_) λ c29 h2=>?_)
  ·refine nx 3 rfl (fD [28,29] h2 rfl (λ c30 h2=>?_) λ c30 h2=>?_)
   ·exact nx 13 rfl (eX _ (oi h2).symm (gE rfl rfl))
   refine nx 2 rfl (oI h2 rfl λ hk31 h2=>?_)
   refine nx 3 rfl (fD [33,34,35] h2 rfl (λ c32 h2=>?_) λ c32 h2=>?_)
   ·exact nx 7 rfl (eX _ (oi h2).symm (gE rfl rfl))
   refine nx 2 rfl (oI h2 rfl λ hk33 h2=>?_)
   exact nx 4 rfl (eX _ (oi h2).symm (gE rfl rfl))
  exact nx 16 rfl (eX _ (oi h2).symm (gE rfl rfl))
 exact nx 2 rfl (eXi _ (oi h1).symm (gE rfl rfl))
def ci (n:Nat)(r_0:av):Option (Bytes×av) :=
 (strings_IndexAny r_0.frest ([46,91]:Bytes)).bind λ r1 =>
 (
   if r1 < 0 then
    some (r_0.frest.length:Int)
   else
    some r1
  : Option Int).bind λ n4 =>
 ck ((0:Int)≤0∧0≤n4∧n4≤(r_0.frest.length:Int)) <|
 ck ((0:Int)≤n4∧n4≤(r_0.frest.length:Int)∧(r_0.frest.length:Int)≤(r_0.frest.length:Int)) <|
 (
   if r_0.fbad=true then
    some true
   else
    (ce n (sub r_0.frest 0 n4)).bind λ r8 =>
    some (!r8)
  : Option Bool).bind λ f10 =>
 some (sub r_0.frest 0 n4,(av.mk (sub r_0.frest n4 (r_0.frest.length:Int)) f10))
set_option maxHeartbeats 4000000 in
theorem gr (n:Nat)(r_0:av)(r:Bytes×av)(h0:ci n r_0=some r):cD Tryz.prog 50 [.ptr 1000000 0] [(1000000,[.p (eS r_0.frest),.p (eB r_0.fbad)])] (λ x y=>x=.p (eS r.1)∧y=[(1000000,[.p (eS r.2.frest),.p (eB r.2.fbad)])]):=by
 unfold ci at h0
 refine jk good [] [1000000] Tryz.func50 rfl rfl rfl rfl rfl λ w0 F=>mPo (λ v:Bytes×av=>.p (eS v.1)) (λ v=>[(1000000,[.p (eS v.2.frest),.p (eB v.2.fbad)])]) ?_
 refine nx 10 rfl (bd h0 λ r1 e2 h0=>?_)
 refine oK (oW r_0.frest ([46,91]:Bytes) _ e2) rfl ⟨sr,sr,trivial⟩ Tryz.call63 rfl (nx 3 rfl ?_)
 refine bd h0 λ o13 h1 h0=>kN o13 (λ v14=>⟨[(0,.ptr 1000000 0),(3,.p (eI v14))],[(1000000,[.p (eS r_0.frest),.p (eB r_0.fbad)])]⟩) ?_ ?_
 ·refine nx 8 rfl (oP h0 rfl rfl rfl λ hk5 h0=>?_)
  refine nx 10 rfl (oP h0 rfl rfl rfl λ hk6 h0=>?_)
  refine nx 5 rfl (bd h0 λ o15 h1 h0=>?_)
  refine kN o15 (λ v16=>⟨[(4,.p (eS (sub r_0.frest 0 o13)))],[(1000000,[.p (eS (sub r_0.frest o13 (r_0.frest.length:Int))),.p (eB v16)])]⟩) ?_ ?_
  ·exact nx 7 rfl (mQo (oi h0) (ca _) rfl rfl rfl rfl (sr) ⟨⟨_,rfl,⟨sr,sr,trivial⟩⟩,trivial⟩)
  refine nx 7 rfl (fB [36,37] h1 rfl (λ c7 h1=>?_) λ c7 h1=>?_)
  ·exact nx 8 rfl (eX _ (oi h1).symm (gE rfl rfl))
  refine nx 1 rfl (bd h1 λ r8 e9 h1=>?_)
  refine oK (fu _ (sub r_0.frest 0 o13) _ e9) rfl ⟨sr,trivial⟩ Tryz.call64 rfl (nx 6 rfl ?_)
  exact eX _ (oi h1).symm (gE rfl rfl)
 refine nx 5 rfl (fD [11] h1 rfl (λ c3 h1=>?_) λ c3 h1=>?_)
 ·refine nx 6 rfl (oLs rfl ?_)
  exact nx 2 rfl (eX _ (oi h1).symm (gE rfl rfl))
 exact nx 2 rfl (eX _ (oi h1).symm (gE rfl rfl))
def dx (r_0:av)(s_1:Bytes):Option av :=
 (strings_CutPrefix r_0.frest s_1).bind λ r1 =>
 if r_0.fbad=true then
  some (av.mk r1.1 true)
 else
  some (av.mk r1.1 (!r1.2))
set_option maxHeartbeats 4000000 in
theorem gp (r_0:av)(s_1:Bytes)(r:av)(h0:dx r_0 s_1=some r):cD Tryz.prog 49 [.ptr 1000000 0,.p (eS s_1)] [(1000000,[.p (eS r_0.frest),.p (eB r_0.fbad)])] (λ x y=>x=.tuple []∧y=[(1000000,[.p (eS r.frest),.p (eB r.fbad)])]):=by
 unfold dx at h0
 refine jk good [] [1000000] Tryz.func49 rfl rfl rfl rfl rfl λ w0 F=>mPo (λ v:av=>.tuple []) (λ v=>[(1000000,[.p (eS v.frest),.p (eB v.fbad)])]) ?_
 refine nx 7 rfl (bd h0 λ r1 e2 h0=>?_)
 refine oK (j3 r_0.frest s_1 _ e2) rfl ⟨sr,sr,trivial⟩ Tryz.call62 rfl (nx 21 rfl ?_)
 refine fB [23,24] h0 rfl (λ c3 h0=>?_) λ c3 h0=>?_
 ·exact nx 7 rfl (mQon (oi h0) (ca _) rfl rfl rfl rfl (sr) ⟨⟨_,rfl,⟨sr,sr,trivial⟩⟩,trivial⟩)
 exact nx 7 rfl (mQon (oi h0) (ca _) rfl rfl rfl rfl (sr) ⟨⟨_,rfl,⟨sr,sr,trivial⟩⟩,trivial⟩)
def cI (n:Nat)(r_0:av):Option (bA×av) :=
 (
   if r_0.fbad=true then
    some (true,r_0.frest,r_0.fbad)
   else
    (ek r_0 ([91]:Bytes)).bind λ r2 =>
    some (!r2.1,r2.2.frest,r2.2.fbad)
  : Option (Bool×Bytes×Bool)).bind λ q35 =>
 if q35.1=true then
  some ((bA.mk 0 0 ([]:Bytes)),(av.mk q35.2.1 q35.2.2))
 else
  jn (
    (strings_HasPrefix q35.2.1 ([34]:Bytes)).bind λ r8 =>
    if r8=true then
     (eC n q35.2.1).bind λ r11 =>
     (
       if r11.2.2=0 then
        (eQ n r11.1).bind λ r14 =>
        ck ((0:Int)≤0∧0≤r11.2.1∧r11.2.1≤(q35.2.1.length:Int)) <|
        some (!decide (r14=sub q35.2.1 0 r11.2.1))
       else
        some true
      : Option Bool).bind λ t17 =>
     if t17=true then
      some (.inr ((bA.mk 0 0 ([]:Bytes)),(av.mk q35.2.1 true)))
     else
      ck ((0:Int)≤r11.2.1∧r11.2.1≤(q35.2.1.length:Int)∧(q35.2.1.length:Int)≤(q35.2.1.length:Int)) <|
      some (.inl (2,0,r11.1,sub q35.2.1 r11.2.1 (q35.2.1.length:Int),q35.2.2))
    else
     (strings_IndexByte q35.2.1 93).bind λ r20 =>
     ck ((0:Int)≤0∧0≤(if r20 < 0 then 0 else r20)∧(if r20 < 0 then 0 else r20)≤(q35.2.1.length:Int)) <|
     (fE n (sub q35.2.1 0 (if r20 < 0 then 0 else r20))).bind λ r23 =>
     (
       if r23.2=0 then
        some (decide (r23.1 < 0))
       else
        some true
      : Option Bool).bind λ f26 =>
     ck ((0:Int)≤(if r20 < 0 then 0 else r20)∧(if r20 < 0 then 0 else r20)≤(q35.2.1.length:Int)∧(q35.2.1.length:Int)≤(q35.2.1.length:Int)) <|
     some (.inl (1,r23.1,([]:Bytes),sub q35.2.1 (if r20 < 0 then 0 else r20) (q35.2.1.length:Int),f26))
   : Option ((Int×Int×Bytes×Bytes×Bool)⊕(bA×av))) λ q36 =>
  (dx (av.mk q36.2.2.2.1 q36.2.2.2.2) ([93]:Bytes)).bind λ r33 =>
  some ((bA.mk q36.1 q36.2.1 q36.2.2.1),r33)
set_option maxHeartbeats 4000000 in
theorem jB (n:Nat)(r_0:av)(r:bA×av)(h0:cI n r_0=some r):cD Tryz.prog 51 [.ptr 1000000 0] [(1000000,[.p (eS r_0.frest),.p (eB r_0.fbad)])] (λ x y=>x=.p (.agg (bA.cs r.1))∧y=[(1000000,[.p (eS r.2.frest),.p (eB r.2.fbad)])]):=by
 unfold cI at h0
 refine jk good [] [1000000] Tryz.func51 rfl rfl rfl rfl rfl λ w0 F=>mPo (λ v:bA×av=>.p (.agg (bA.cs v.1))) (λ v=>[(1000000,[.p (eS v.2.frest),.p (eB v.2.fbad)])]) ?_
 refine nx 6 rfl (bd h0 λ o39 h1 h0=>?_)
 refine kN o39 (λ v40=>⟨[(0,.ptr 1000000 0),(2,.ptr 2 0),(18,.p (eB v40.1))],[(2,[.p (eI 0),.p (eI 0),.p (eS ([]:Bytes))]),(1000000,[.p (eS v40.2.1),.p (eB v40.2.2)])]⟩) ?_ ?_
 ·refine nx 1 rfl (fB [18] h0 rfl (λ c7 h0=>?_) λ c7 h0=>?_)
  ·exact nx 7 rfl (mQo (oi h0) (ca _) rfl rfl rfl rfl (sr) ⟨⟨_,rfl,⟨sr,sr,trivial⟩⟩,trivial⟩)
  refine nx 7 rfl ?_
  obtain ⟨o41,h1,hL0,hR0⟩:=cU h0
  refine kX (λ v42:Int×Int×Bytes×Bytes×Bool=>o41=.inl v42) (λ v42=>⟨[(0,.ptr 1000000 0),(2,.ptr 2 0),(3,.ptr 3 0)],[(2,[.p (eI 0),.p (eI 0),.p (eS ([]:Bytes))]),(3,[.p (eI v42.1),.p (eI v42.2.1),.p (eS v42.2.2.1)]),(1000000,[.p (eS v42.2.2.2.1),.p (eB v42.2.2.2.2)])]⟩) (λ v42 hv=>?_) ?_
  ·have h0:=hL0 _ hv
   refine nx 4 rfl (bd h0 λ r33 e34 h0=>?_)
   refine mO rfl (bF [1000000] [] 102000 102000 (gp (av.mk v42.2.2.2.1 v42.2.2.2.2) ([93]:Bytes) _ e34) rfl rfl rfl rfl rfl ⟨sr,sr,trivial⟩ rfl rfl ⟨⟨_,rfl,⟨sr,sr,trivial⟩⟩,trivial⟩ rfl rfl rfl rfl rfl rfl rfl rfl Tryz.call49 rfl rfl ?_)
   exact nx 7 rfl (mQo (oi h0) (ca _) rfl rfl rfl rfl (sr) ⟨⟨_,rfl,⟨sr,sr,trivial⟩⟩,trivial⟩)
  refine nx 6 rfl (bd h1 λ r8 e9 h1=>?_)
  refine oK (nS o39.2.1 ([34]:Bytes) _ e9) rfl ⟨sr,sr,trivial⟩ Tryz.call65 rfl (nx 1 rfl ?_)
  refine fB [24] h1 rfl (λ c10 h1=>?_) λ c10 h1=>?_
  ·refine nx 7 rfl (bd h1 λ r11 e12 h1=>?_)
   refine oK (qc _ o39.2.1 _ e12) rfl ⟨sr,trivial⟩ Tryz.call66 rfl (nx 10 rfl ?_)
   refine bd h1 λ o43 h2 h1=>kN o43 (λ v44=>⟨[(0,.ptr 1000000 0),(2,.ptr 2 0),(3,.ptr 3 0),(4,.p (eS r11.1)),(5,.p (eI r11.2.1)),(46,.p (eB v44))],[(2,[.p (eI 0),.p (eI 0),.p (eS ([]:Bytes))]),(3,[.p (eI 0),.p (eI 0),.p (eS ([]:Bytes))]),(1000000,[.p (eS o39.2.1),.p (eB o39.2.2)])]⟩) ?_ ?_
   ·refine nx 1 rfl (fB [46] h1 rfl (λ c18 h1=>?_) λ c18 h1=>?_)
    ·exact nx 14 rfl (mQo (hR0 _ (oi h1).symm) (ca _) rfl rfl rfl rfl (sr) ⟨⟨_,rfl,⟨sr,sr,trivial⟩⟩,trivial⟩)
    refine nx 15 rfl (oP h1 rfl rfl rfl λ hk19 h1=>?_)
    exact nx 4 rfl (eX _ (oi h1).symm (gE rfl rfl))
   refine fN (p:=r11.2.2=0) [] h2 rfl (λ c13 h2=>?_) λ c13 h2=>?_
   ·refine bd h2 λ r14 e15 h2=>cc' h2 λ hk16 h2=>mD [(0,.ptr 1000000 0),(2,.ptr 2 0),(3,.ptr 3 0),(4,.p (eS r11.1)),(5,.p (eI r11.2.1)),(6,.p (eI r11.2.2))] rfl ⟨rfl,rfl,rfl,rfl,rfl,rfl,trivial⟩ rfl (dR 1 rfl ?_)
    refine dL (j7 c13) rfl (dR 2 rfl ?_)
    refine dq (.p (eS r14)) [36,37] rfl (λ _ e _ q=>aA (aJ (nr _ r11.1 _ e15) rfl rfl rfl (au (e _ _ rfl) aK) ⟨sr,trivial⟩ Tryz.call67 rfl q) rfl rfl (e _ _ rfl) (rfl)) rfl (dR 5 rfl ?_)
    refine dq (.p (eS (sub o39.2.1 0 r11.2.1))) [36,42,43] rfl (λ _ e _ q=>aA (gH (a:=o39.2.1) (l:=0) (h:=r11.2.1) rfl rfl rfl rfl rfl (e _ _ rfl) rfl (sj (e _ _ rfl)) hk16 q) rfl rfl (e _ _ rfl) (rfl)) rfl (dq (.p (eB (!decide (r14=sub o39.2.1 0 r11.2.1)))) [36,38,44] rfl (λ _ e _ q=>aA (ks rfl rfl rfl (e _ _ rfl) (e _ _ rfl) rfl q) rfl rfl (e _ _ rfl) (rfl)) rfl ?_)
    refine dR 1 rfl (dE rfl ?_)
    exact nx 1 rfl (eX _ (oi h2).symm (gE rfl rfl))
   refine mD [(0,.ptr 1000000 0),(2,.ptr 2 0),(3,.ptr 3 0),(4,.p (eS r11.1)),(5,.p (eI r11.2.1)),(6,.p (eI r11.2.2))] rfl ⟨rfl,rfl,rfl,rfl,rfl,rfl,trivial⟩ rfl (dR 1 rfl ?_)
   refine dL (se c13) rfl (dR 11 rfl ?_)
   refine dE rfl (nx 1 rfl ?_)
   exact eX _ (oi h2).symm (gE rfl rfl)
  refine nx 7 rfl (bd h1 λ r20 e21 h1=>?_)
  refine oK (jT o39.2.1 93 _ e21) rfl ⟨sr,sr,trivial⟩ Tryz.call68 rfl (mO rfl (El rfl rfl rfl rfl rfl ?_))
  refine nx 9 rfl (oP h1 rfl rfl rfl λ hk22 h1=>?_)
  refine bd h1 λ r23 e24 h1=>oK (rU _ (sub o39.2.1 0 (if r20 < 0 then 0 else r20)) _ e24) rfl ⟨sr,trivial⟩ Tryz.call69 rfl (nx 7 rfl ?_)
  refine bd h1 λ o45 h2 h1=>kN o45 (λ v46=>⟨[(0,.ptr 1000000 0),(2,.ptr 2 0),(3,.ptr 3 0),(7,.p (eI (if r20 < 0 then 0 else r20))),(8,.p (eI r23.1))],[(2,[.p (eI 0),.p (eI 0),.p (eS ([]:Bytes))]),(3,[.p (eI 0),.p (eI 0),.p (eS ([]:Bytes))]),(1000000,[.p (eS o39.2.1),.p (eB v46)])]⟩) ?_ ?_
  ·refine nx 14 rfl (oP h1 rfl rfl rfl λ hk27 h1=>?_)
   exact nx 4 rfl (eX _ (oi h1).symm (gE rfl rfl))
  refine nx 5 rfl (fN [80,81] h2 rfl (λ c25 h2=>?_) λ c25 h2=>?_)
  ·exact nx 7 rfl (eX _ (oi h2).symm (gE rfl rfl))
  exact nx 7 rfl (eX _ (oi h2).symm (gE rfl rfl))
 refine nx 6 rfl (fB [13,14] h1 rfl (λ c1 h1=>?_) λ c1 h1=>?_)
 ·exact nx 5 rfl (eX _ (oi h1).symm (gE rfl rfl))
 refine nx 1 rfl (bd h1 λ r2 e3 h1=>?_)
 refine mO rfl (bF [1000000] [] 101000 101000 (gI r_0 ([91]:Bytes) _ e3) rfl rfl rfl rfl rfl ⟨sr,sr,trivial⟩ rfl rfl ⟨⟨_,rfl,⟨sr,sr,trivial⟩⟩,trivial⟩ rfl rfl rfl rfl rfl rfl rfl rfl Tryz.call47 rfl rfl ?_)
 exact nx 3 rfl (eX _ (oi h1).symm (gE rfl rfl))
def cS (n:Nat)(r_0:av):Option (ae×av) :=
 (ci n r_0).bind λ r1 =>
 (cI n r1.2).bind λ r3 =>
 some ((ae.mk r1.1 r3.1),r3.2)
set_option maxHeartbeats 4000000 in
theorem mC (n:Nat)(r_0:av)(r:ae×av)(h0:cS n r_0=some r):cD Tryz.prog 48 [.ptr 1000000 0] [(1000000,[.p (eS r_0.frest),.p (eB r_0.fbad)])] (λ x y=>x=.p (.agg (ae.cs r.1))∧y=[(1000000,[.p (eS r.2.frest),.p (eB r.2.fbad)])]):=by
 unfold cS at h0
 refine jk good [] [1000000] Tryz.func48 rfl rfl rfl rfl rfl λ w0 F=>mPo (λ v:ae×av=>.p (.agg (ae.cs v.1))) (λ v=>[(1000000,[.p (eS v.2.frest),.p (eB v.2.fbad)])]) ?_
 refine nx 7 rfl (bd h0 λ r1 e2 h0=>?_)
 refine mO rfl (bF [1000000] [] 101000 101000 (gr _ r_0 _ e2) rfl rfl rfl rfl rfl ⟨sr,trivial⟩ rfl rfl ⟨⟨_,rfl,⟨sr,sr,trivial⟩⟩,trivial⟩ rfl rfl rfl rfl rfl rfl rfl rfl Tryz.call50 rfl rfl ?_)
 refine nx 7 rfl (bd h0 λ r3 e4 h0=>?_)
 refine mO rfl (bF [1000000] [] 102000 102000 (jB _ r1.2 _ e4) rfl rfl rfl rfl rfl ⟨sr,trivial⟩ rfl rfl ⟨⟨_,rfl,⟨sr,sr,trivial⟩⟩,trivial⟩ rfl rfl rfl rfl rfl rfl rfl rfl Tryz.call51 rfl rfl ?_)
 exact nx 9 rfl (mQo (oi h0) (ca _) rfl rfl rfl rfl (sr) ⟨⟨_,rfl,⟨sr,sr,trivial⟩⟩,trivial⟩)
def d6 (n:Nat)(s_0:Bytes):Option Bool :=
 (
   if s_0=([109,111,100,117,108,101]:Bytes) then
    some true
   else
    if s_0=([100,97,116,97]:Bytes) then
     some true
    else
     if s_0=([118,97,114]:Bytes) then
      some true
     else
      if s_0=([108,111,99,97,108]:Bytes) then
       some true
      else
       if s_0=([101,97,99,104]:Bytes) then
        some true
       else
        if s_0=([99,111,117,110,116]:Bytes) then
         some true
        else
         if s_0=([114,101,109,111,116,101]:Bytes) then
          some true
         else
          if s_0=([111,117,116,112,117,116]:Bytes) then
           some true
          else
           if s_0=([112,97,116,104]:Bytes) then
            some true
           else
            if s_0=([115,101,108,102]:Bytes) then
             some true
            else
             some (decide (s_0=([99,104,97,110,103,101]:Bytes)))
  : Option Bool).bind λ t11 =>
 if t11=true then
  some false
 else
  (ce n s_0).bind λ r13 =>
  some r13
set_option maxHeartbeats 4000000 in
theorem nj (n:Nat)(s_0:Bytes)(r:Bool)(h0:d6 n s_0=some r):aB Tryz.prog 52 [eS s_0] (·=.p (eB r)):=by
 unfold d6 at h0
 refine aU good Tryz.func52 rfl rfl rfl λ w0=>mP (λ v:Bool=>.p (eB v)) ?_
 refine nx 11 rfl (bd h0 λ o16 h1 h0=>?_)
 refine kN o16 (λ v17=>⟨[(0,.p (eS s_0)),(4,.p (eB v17))],[]⟩) ?_ ?_
 ·refine nx 1 rfl (fB [4] h0 rfl (λ c12 h0=>?_) λ c12 h0=>?_)
  ·exact nx 6 rfl (mQ (oi h0) rfl (sr))
  refine nx 5 rfl (bd h0 λ r13 e14 h0=>?_)
  refine oK (fu _ s_0 _ e14) rfl ⟨sr,trivial⟩ Tryz.call64 rfl (nx 3 rfl ?_)
  exact mQ (oi h0) rfl (sr)
 refine nx 2 rfl (oS rfl rfl ?_)
 refine nx 2 rfl (fD [4,5] h1 rfl (λ c1 h1=>?_) λ c1 h1=>?_)
 ·exact nx 2 rfl (eX _ (oi h1).symm (gE rfl rfl))
 refine nx 3 rfl (oS rfl rfl ?_)
 refine nx 2 rfl (fD [4,6] h1 rfl (λ c2 h1=>?_) λ c2 h1=>?_)
 ·exact nx 2 rfl (eX _ (oi h1).symm (gE rfl rfl))
 refine nx 3 rfl (oS rfl rfl ?_)
 refine nx 2 rfl (fD [4,7] h1 rfl (λ c3 h1=>?_) λ c3 h1=>?_)
 ·exact nx 2 rfl (eX _ (oi h1).symm (gE rfl rfl))
 refine nx 3 rfl (oS rfl rfl ?_)
 refine nx 2 rfl (fD [4,8] h1 rfl (λ c4 h1=>?_) λ c4 h1=>?_)
 ·exact nx 2 rfl (eX _ (oi h1).symm (gE rfl rfl))
 refine nx 3 rfl (oS rfl rfl ?_)
 refine nx 2 rfl (fD [4,9] h1 rfl (λ c5 h1=>?_) λ c5 h1=>?_)
 ·exact nx 2 rfl (eX _ (oi h1).symm (gE rfl rfl))
 refine nx 3 rfl (oS rfl rfl ?_)
 refine nx 2 rfl (fD [4,10] h1 rfl (λ c6 h1=>?_) λ c6 h1=>?_)
 ·exact nx 2 rfl (eX _ (oi h1).symm (gE rfl rfl))
 refine nx 3 rfl (oS rfl rfl ?_)
 refine nx 2 rfl (fD [4,11] h1 rfl (λ c7 h1=>?_) λ c7 h1=>?_)
 ·exact nx 2 rfl (eX _ (oi h1).symm (gE rfl rfl))
 refine nx 3 rfl (oS rfl rfl ?_)
 refine nx 2 rfl (fD [4,12] h1 rfl (λ c8 h1=>?_) λ c8 h1=>?_)
 ·exact nx 2 rfl (eX _ (oi h1).symm (gE rfl rfl))
 refine nx 3 rfl (oS rfl rfl ?_)
 refine nx 2 rfl (fD [4,13] h1 rfl (λ c9 h1=>?_) λ c9 h1=>?_)
 ·exact nx 2 rfl (eX _ (oi h1).symm (gE rfl rfl))
 refine nx 3 rfl (oS rfl rfl ?_)
 refine nx 2 rfl (fD [4,14] h1 rfl (λ c10 h1=>?_) λ c10 h1=>?_)
 ·exact nx 2 rfl (eX _ (oi h1).symm (gE rfl rfl))
 refine nx 2 rfl (oS rfl rfl ?_)
 exact nx 2 rfl (eX _ (oi h1).symm (gE rfl rfl))
def cR (n:Nat):Nat→(List ae)→Bytes→Bool→Option ((List ae)×Bytes×Bool)
 | 0,_,_,_=>none
 | m+1,f16,f17,f18 =>
 (
   if (!f18)=true then
    (ek (av.mk f17 f18) ([109,111,100,117,108,101,46]:Bytes)).bind λ r20 =>
    some (r20.1,r20.2.frest,r20.2.fbad)
   else
    some (false,f17,f18)
  : Option (Bool×Bytes×Bool)).bind λ q55 =>
 if q55.1=true then
  (cS n (av.mk q55.2.1 q55.2.2)).bind λ r26 =>
  ck ((f16.length+[r26.1].length)*48≤140737488355328) <|
  (dx r26.2 ([46]:Bytes)).bind λ r29 =>
  cR n m (f16++[r26.1]) r29.frest r29.fbad
 else
  some (f16,q55.2.1,q55.2.2)
def eW (n:Nat)(s_0:Bytes):Option (ao×Int) :=
 (cR n n [] s_0 false).bind λ q54 =>
 (ek (av.mk q54.2.1 q54.2.2) ([100,97,116,97,46]:Bytes)).bind λ r37 =>
 (ci n r37.2).bind λ r39 =>
 (dx r39.2 ([46]:Bytes)).bind λ r41 =>
 (ci n r41).bind λ r43 =>
 (cI n r43.2).bind λ r45 =>
 (
   if r45.2.fbad=true then
    some true
   else
    if r45.2.frest=([]:Bytes) then
     (d6 n r39.1).bind λ r49 =>
     some (!r49)
    else
     some true
  : Option Bool).bind λ t51 =>
 if t51=true then
  some ((ao.mk [] false ([]:Bytes) ([]:Bytes) (bA.mk 0 0 ([]:Bytes))),2)
 else
  if 16 < (q54.1.length:Int) then
   some ((ao.mk [] false ([]:Bytes) ([]:Bytes) (bA.mk 0 0 ([]:Bytes))),4)
  else
   some ((ao.mk q54.1 r37.1 r39.1 r43.1 r45.1),0)
set_option maxHeartbeats 4000000 in
theorem qC (n:Nat)(s_0:Bytes)(r:ao×Int)(h0:eW n s_0=some r):aB Tryz.prog 41 [eS s_0] (·=.tuple [.p (.agg (ao.cs r.1)),.p (eI r.2)]):=by
 unfold eW at h0
 refine aU good Tryz.func41 rfl rfl rfl λ w0=>mP (λ v:ao×Int=>.tuple [.p (.agg (ao.cs v.1)),.p (eI v.2)]) ?_
 refine nx 18 rfl (bd h0 λ o57 h1 h0=>?_)
 refine kE 0 o57 (λ v58=>⟨[(2,.ptr 2 0),(4,.ptr 8 0),(5,.ptr 5 0)],[(2,[.p (.val (.slice none 0 0)),.p (eB false),.p (eS ([]:Bytes)),.p (eS ([]:Bytes)),.p (eI 0),.p (eI 0),.p (eS ([]:Bytes))]),(5,[.vec 23 4 0 (v58.1.map aj),.p (eB false),.p (eS ([]:Bytes)),.p (eS ([]:Bytes)),.p (eI 0),.p (eI 0),.p (eS ([]:Bytes))]),(8,[.p (eS v58.2.1),.p (eB v58.2.2)])]⟩) ?_ ?_
 ·refine nx 4 rfl (bd h0 λ r37 e38 h0=>?_)
  refine mO rfl (bF [8] [] 107000 107000 (gI (av.mk o57.2.1 o57.2.2) ([100,97,116,97,46]:Bytes) _ e38) rfl rfl rfl rfl rfl ⟨sr,sr,trivial⟩ rfl rfl ⟨⟨_,rfl,⟨sr,sr,trivial⟩⟩,trivial⟩ rfl rfl rfl rfl rfl rfl rfl rfl Tryz.call47 rfl rfl ?_)
  refine nx 6 rfl (bd h0 λ r39 e40 h0=>?_)
  refine mO rfl (bF [8] [] 108000 108000 (gr _ r37.2 _ e40) rfl rfl rfl rfl rfl ⟨sr,trivial⟩ rfl rfl ⟨⟨_,rfl,⟨sr,sr,trivial⟩⟩,trivial⟩ rfl rfl rfl rfl rfl rfl rfl rfl Tryz.call50 rfl rfl ?_)
  refine nx 6 rfl (bd h0 λ r41 e42 h0=>?_)
  refine mO rfl (bF [8] [] 109000 109000 (gp r39.2 ([46]:Bytes) _ e42) rfl rfl rfl rfl rfl ⟨sr,sr,trivial⟩ rfl rfl ⟨⟨_,rfl,⟨sr,sr,trivial⟩⟩,trivial⟩ rfl rfl rfl rfl rfl rfl rfl rfl Tryz.call49 rfl rfl ?_)
  refine nx 4 rfl (bd h0 λ r43 e44 h0=>?_)
  refine mO rfl (bF [8] [] 110000 110000 (gr _ r41 _ e44) rfl rfl rfl rfl rfl ⟨sr,trivial⟩ rfl rfl ⟨⟨_,rfl,⟨sr,sr,trivial⟩⟩,trivial⟩ rfl rfl rfl rfl rfl rfl rfl rfl Tryz.call50 rfl rfl ?_)
  refine nx 6 rfl (bd h0 λ r45 e46 h0=>?_)
  refine mO rfl (bF [8] [] 111000 111000 (jB _ r43.2 _ e46) rfl rfl rfl rfl rfl ⟨sr,trivial⟩ rfl rfl ⟨⟨_,rfl,⟨sr,sr,trivial⟩⟩,trivial⟩ rfl rfl rfl rfl rfl rfl rfl rfl Tryz.call51 rfl rfl ?_)
  refine nx 5 rfl (bd h0 λ o59 h1 h0=>?_)
  refine kN o59 (λ v60=>⟨[(2,.ptr 2 0),(5,.ptr 5 0),(57,.p (eB v60))],[(2,[.p (.val (.slice none 0 0)),.p (eB false),.p (eS ([]:Bytes)),.p (eS ([]:Bytes)),.p (eI 0),.p (eI 0),.p (eS ([]:Bytes))]),(5,[.vec 23 4 0 (o57.1.map aj),.p (eB r37.1),.p (eS r39.1),.p (eS r43.1),.p (eI r45.1.fKind),.p (eI r45.1.fNum),.p (eS r45.1.fStr)])]⟩) ?_ ?_
  ·refine nx 1 rfl (fB [57] h0 rfl (λ c52 h0=>?_) λ c52 h0=>?_)
   ·exact nx 8 rfl (mQ (oi h0) rfl (az ⟨gi ⟨.inr ⟨rfl,rfl⟩,.inl rfl,.inl rfl,.inl rfl,.inl rfl,.inl rfl,.inl rfl,trivial⟩,sr,trivial⟩))
   refine nx 7 rfl (oLl (f:=aj) rfl rfl ?_)
   refine nx 2 rfl (fD [62] h0 rfl (λ c53 h0=>?_) λ c53 h0=>?_)
   ·exact nx 8 rfl (mQ (oi h0) rfl (az ⟨gi ⟨.inr ⟨rfl,rfl⟩,.inl rfl,.inl rfl,.inl rfl,.inl rfl,.inl rfl,.inl rfl,trivial⟩,sr,trivial⟩))
   exact nx 9 rfl (mQ (oi h0) rfl (az ⟨qd ⟨AV.sub_vec _ _ _ _,sr,sr,sr,sr,sr,sr,trivial⟩,sr,trivial⟩))
  refine nx 6 rfl (fB [44,45] h1 rfl (λ c47 h1=>?_) λ c47 h1=>?_)
  ·exact nx 13 rfl (eX _ (oi h1).symm (gE rfl rfl))
  refine nx 4 rfl (oS rfl rfl ?_)
  refine nx 2 rfl (fN [50,51,52] h1 rfl (λ c48 h1=>?_) λ c48 h1=>?_)
  ·refine nx 2 rfl (bd h1 λ r49 e50 h1=>?_)
   refine oK (nj _ r39.1 _ e50) rfl ⟨sr,trivial⟩ Tryz.call52 rfl (nx 3 rfl ?_)
   exact eX _ (oi h1).symm (gE rfl rfl)
  exact nx 6 rfl (eX _ (oi h1).symm (gE rfl rfl))
 refine lG (λ (q61:(List ae)×Bytes×Bool)=>⟨[(2,.ptr 2 0),(4,.ptr 8 0),(5,.ptr 5 0)],[(2,[.p (.val (.slice none 0 0)),.p (eB false),.p (eS ([]:Bytes)),.p (eS ([]:Bytes)),.p (eI 0),.p (eI 0),.p (eS ([]:Bytes))]),(5,[.vec 23 4 0 (q61.1.map aj),.p (eB false),.p (eS ([]:Bytes)),.p (eS ([]:Bytes)),.p (eI 0),.p (eI 0),.p (eS ([]:Bytes))]),(8,[.p (eS q61.2.1),.p (eB q61.2.2)])]⟩) (λ m (q61:(List ae)×Bytes×Bool)=>cR n m q61.1 q61.2.1 q61.2.2) (λ _=>rfl) ([],s_0,false) h1 (aI (cb ⟨er rfl,er rfl,er rfl,trivial⟩ ⟨⟨_,rfl,⟨sr,sr,sr,sr,sr,sr,sr,trivial⟩⟩,⟨_,rfl,⟨AV.sub_nilvec _ _ _,sr,sr,sr,sr,sr,sr,trivial⟩⟩,⟨_,rfl,⟨sr,sr,trivial⟩⟩,trivial⟩)) ?_
 rintro m ⟨f16,f17,f18⟩ h1
 replace h1:cR n (m+1) f16 f17 f18=some o57:=h1
 rw [cR] at h1
 refine nx 2 rfl (bd h1 λ o62 h2 h1=>?_)
 refine kN o62 (λ v63=>⟨[(2,.ptr 2 0),(4,.ptr 8 0),(5,.ptr 5 0),(17,.p (eB v63.1))],[(2,[.p (.val (.slice none 0 0)),.p (eB false),.p (eS ([]:Bytes)),.p (eS ([]:Bytes)),.p (eI 0),.p (eI 0),.p (eS ([]:Bytes))]),(5,[.vec 23 4 0 (f16.map aj),.p (eB false),.p (eS ([]:Bytes)),.p (eS ([]:Bytes)),.p (eI 0),.p (eI 0),.p (eS ([]:Bytes))]),(8,[.p (eS v63.2.1),.p (eB v63.2.2)])]⟩) ?_ ?_
 ·refine nx 1 rfl (fB [17] h1 rfl (λ c25 h1=>?_) λ c25 h1=>?_)
  ·refine nx 4 rfl (bd h1 λ r26 e27 h1=>?_)
   refine cc' h1 λ hk28 h1=>mG (gE (t:=⟨[(2,.ptr 2 0),(4,.ptr 8 0),(5,.ptr 5 0)],[(2,[.p (.val (.slice none 0 0)),.p (eB false),.p (eS ([]:Bytes)),.p (eS ([]:Bytes)),.p (eI 0),.p (eI 0),.p (eS ([]:Bytes))]),(5,[.vec 23 4 0 (f16.map aj),.p (eB false),.p (eS ([]:Bytes)),.p (eS ([]:Bytes)),.p (eI 0),.p (eI 0),.p (eS ([]:Bytes))]),(8,[.p (eS o62.2.1),.p (eB o62.2.2)])]⟩) rfl rfl) (mS ⟨3,[3,5,7],(by4 (some (gz [] 105000 105000)) (some λ i=>Nat.beq i 23||Nat.beq i 23) none none),(λ _=>[(2,.ptr 2 0),(4,.ptr 8 0),(5,.ptr 5 0)]),(by4 ([(2,[.p (.val (.slice none 0 0)),.p (eB false),.p (eS ([]:Bytes)),.p (eS ([]:Bytes)),.p (eI 0),.p (eI 0),.p (eS ([]:Bytes))]),(5,[.vec 23 4 0 (f16.map aj),.p (eB false),.p (eS ([]:Bytes)),.p (eS ([]:Bytes)),.p (eI 0),.p (eI 0),.p (eS ([]:Bytes))]),(8,[.p (eS o62.2.1),.p (eB o62.2.2)])]) ([(8,[.p (eS r26.2.frest),.p (eB r26.2.fbad)]),(2,[.p (.val (.slice none 0 0)),.p (eB false),.p (eS ([]:Bytes)),.p (eS ([]:Bytes)),.p (eI 0),.p (eI 0),.p (eS ([]:Bytes))]),(5,[.vec 23 4 0 (f16.map aj),.p (eB false),.p (eS ([]:Bytes)),.p (eS ([]:Bytes)),.p (eI 0),.p (eI 0),.p (eS ([]:Bytes))])]) ([(8,[.p (eS r26.2.frest),.p (eB r26.2.fbad)]),(2,[.p (.val (.slice none 0 0)),.p (eB false),.p (eS ([]:Bytes)),.p (eS ([]:Bytes)),.p (eI 0),.p (eI 0),.p (eS ([]:Bytes))]),(5,[.p (eL aj f16),.p (eB false),.p (eS ([]:Bytes)),.p (eS ([]:Bytes)),.p (eI 0),.p (eI 0),.p (eS ([]:Bytes))])]) ([(5,[.vec 23 4 0 ((f16++[r26.1]).map aj),.p (eB false),.p (eS ([]:Bytes)),.p (eS ([]:Bytes)),.p (eI 0),.p (eI 0),.p (eS ([]:Bytes))]),(8,[.p (eS r26.2.frest),.p (eB r26.2.fbad)]),(2,[.p (.val (.slice none 0 0)),.p (eB false),.p (eS ([]:Bytes)),.p (eS ([]:Bytes)),.p (eI 0),.p (eI 0),.p (eS ([]:Bytes))]),(5,[.p (eL aj f16),.p (eB false),.p (eS ([]:Bytes)),.p (eS ([]:Bytes)),.p (eI 0),.p (eI 0),.p (eS ([]:Bytes))])]))⟩ rfl rfl rfl ⟨rfl,rfl,rfl,trivial⟩ (lt3 ⟨rfl,rfl,rfl,trivial⟩ ⟨rfl,rfl,rfl,trivial⟩ ⟨rfl,rfl,rfl,trivial⟩) rfl rfl rfl rfl ?_)
   refine ay (λ _=>.ptr 5 0) rfl rfl rfl (nO rfl rfl rfl (λ _=>rfl)) (lt3 rfl rfl rfl) (aC rfl (ak [(5,_)] ⟨.inl rfl,trivial⟩ (λ sl hsl K hK=>af rfl (aO rfl rfl rfl rfl rfl rfl rfl rfl (hsl _ _ rfl) hK)) (ak [(5,_)] ⟨.inl rfl,trivial⟩ (λ sl hsl K hK=>af rfl (aO rfl rfl rfl rfl rfl rfl rfl rfl (hsl _ _ rfl) hK)) (ak [(5,_)] ⟨.inl rfl,trivial⟩ (λ sl hsl K hK=>af rfl (aO rfl rfl rfl rfl rfl rfl rfl rfl (hsl _ _ rfl) hK)) ax)))) (ay (by4 (.vec 23 4 0 (f16.map aj)) (.vec 23 4 0 (f16.map aj)) (.p (eL aj f16)) (.p (eL aj f16))) rfl rfl rfl (nO rfl rfl rfl (λ _=>rfl)) (lt3 rfl rfl rfl) (aC rfl (aC rfl (ak [(18,_)] ⟨.inr ⟨0,_,rfl,rfl,rfl⟩,trivial⟩ (λ sl hsl K hK=>af rfl (dD rfl rfl rfl rfl rfl (hsl _ _ rfl) rfl rfl hK)) (ak [(18,_)] ⟨.inr ⟨0,_,rfl,rfl,rfl⟩,trivial⟩ (λ sl hsl K hK=>af rfl (dD rfl rfl rfl rfl rfl (hsl _ _ rfl) rfl rfl hK)) ax)))) ?_)
   refine ay (λ _=>.ptr 8 0) rfl rfl rfl (nO rfl rfl rfl (λ _=>rfl)) (lt3 rfl rfl rfl) (aC rfl (aC rfl (aC rfl (ak [(4,_)] ⟨.inl rfl,trivial⟩ (λ sl hsl K hK=>af rfl (bs rfl rfl rfl (hsl _ _ rfl) hK)) ax)))) (qS (λ _=>.p (.agg (ae.cs r26.1))) [(20,_)] rfl ⟨.inr ⟨2,_,rfl,rfl,rfl⟩,trivial⟩ rfl rfl (mf rfl rfl (λ _=>rfl)) (lt3 (λ h=>absurd h (by decide)) (λ _=>rfl) (λ _=>rfl)) (λ sl hsl K hK=>af rfl (bF [8] [] 105000 105000 (mC _ (av.mk o62.2.1 o62.2.2) _ e27) rfl rfl rfl (au (hsl _ _ rfl) aK) rfl ⟨sr,trivial⟩ rfl rfl ⟨⟨_,rfl,⟨sr,sr,trivial⟩⟩,trivial⟩ rfl rfl rfl rfl rfl rfl rfl rfl Tryz.call48 rfl rfl hK)) ?_)
   refine ay (λ _=>.p (eL aj [r26.1])) rfl rfl rfl (nO rfl rfl rfl (λ _=>rfl)) (lt3 rfl rfl rfl) (aC rfl (aC rfl (ak [(21,_)] ⟨.inr ⟨3,_,rfl,rfl,rfl⟩,trivial⟩ (λ sl hsl K hK=>af rfl (bS aj [r26.1] rfl rfl rfl rfl rfl rfl (tw (hsl _ _ rfl) rfl uW) rfl rfl rfl rfl rfl rfl (by first | rfl | (simp only [List.map_cons,List.map_nil,ae.agg_eq]; done) | (simp only [List.map_cons,List.map_nil,ae.agg_eq]; rfl)) hK)) (aC rfl ax)))) (qS (λ _=>.vec 23 4 0 ((f16++[r26.1]).map aj)) [(19,_),(22,_)] rfl ⟨.inr ⟨1,_,rfl,rfl,rfl⟩,.inr ⟨4,_,rfl,rfl,rfl⟩,trivial⟩ rfl rfl (cA rfl (λ _=>rfl)) (lt3 (λ h=>absurd h (by decide)) (λ h=>absurd h (by decide)) (λ _=>rfl)) (λ sl hsl K hK=>af rfl (fp aj f16 [r26.1] rfl rfl rfl rfl rfl rfl rfl rfl (hsl _ _ rfl) rfl rfl (hsl _ _ rfl) rfl (λ x=>congrArg List.length (ae.cells_eq x)) rfl rfl rfl rfl hk28 hK)) ?_)
   refine ay (λ _=>.ptr 5 0) rfl rfl rfl (nO rfl rfl rfl (λ _=>rfl)) (lt3 rfl rfl rfl) (aC rfl (ak [(5,_)] ⟨.inl rfl,trivial⟩ (λ sl hsl K hK=>af rfl (aO rfl rfl rfl rfl rfl rfl rfl rfl (hsl _ _ rfl) hK)) (aC rfl (aC rfl ax)))) (gv [(23,_),(24,_)] rfl ⟨.inr ⟨5,_,rfl,rfl,rfl⟩,.inr ⟨6,_,rfl,rfl,rfl⟩,trivial⟩ rfl (λ sl hsl K hK=>af rfl (fg rfl rfl rfl (hsl _ _ rfl) (hsl _ _ rfl) rfl rfl rfl (Nat.le_of_ble_eq_true rfl) hK)) ?_)
   refine kk (nx 3 rfl ?_)
   refine bd h1 λ r29 e30 h1=>mO rfl (bF [8] [] 106000 106000 (gp r26.2 ([46]:Bytes) _ e30) rfl rfl rfl rfl rfl ⟨sr,sr,trivial⟩ rfl rfl ⟨⟨_,rfl,⟨sr,sr,trivial⟩⟩,trivial⟩ rfl rfl rfl rfl rfl rfl rfl rfl Tryz.call49 rfl rfl ?_)
   exact nx 1 rfl (eX (f16++[r26.1],r29.frest,r29.fbad) h1 (gE rfl rfl))
  exact nx 2 rfl (eXi _ (oi h1).symm (gE rfl rfl))
 refine nx 7 rfl (fB [13,14] h2 rfl (λ c19 h2=>?_) λ c19 h2=>?_)
 ·refine nx 1 rfl (bd h2 λ r20 e21 h2=>?_)
  refine mO rfl (bF [8] [] 104000 104000 (gI (av.mk f17 f18) ([109,111,100,117,108,101,46]:Bytes) _ e21) rfl rfl rfl rfl rfl ⟨sr,sr,trivial⟩ rfl rfl ⟨⟨_,rfl,⟨sr,sr,trivial⟩⟩,trivial⟩ rfl rfl rfl rfl rfl rfl rfl rfl Tryz.call47 rfl rfl ?_)
  exact nx 2 rfl (eX _ (oi h2).symm (gE rfl rfl))
 exact nx 4 rfl (eX _ (oi h2).symm (gE rfl rfl))
def fV (k_0:bA):Option Bool :=
 if k_0.fKind=0 then
  some (decide (k_0.fKind=0∧k_0.fNum=0∧k_0.fStr=([]:Bytes)))
 else
  if k_0.fKind=1 then
   (
     if 0≤k_0.fNum then
      if k_0.fNum≤9007199254740992 then
       some (decide (k_0.fStr=([]:Bytes)))
      else
       some false
     else
      some false
    : Option Bool).bind λ t5 =>
   some t5
  else
   if k_0.fKind=2 then
    (
      if k_0.fNum=0 then
       (jv k_0.fStr).bind λ r8 =>
       some r8
      else
       some false
     : Option Bool).bind λ t10 =>
    some t10
   else
    some false
set_option maxHeartbeats 4000000 in
theorem jD (k_0:bA)(r:Bool)(h0:fV k_0=some r):aB Tryz.prog 70 [.agg (bA.cs k_0)] (·=.p (eB r)):=by
 unfold fV at h0
 refine aU good Tryz.func70 rfl rfl rfl λ w0=>mP (λ v:Bool=>.p (eB v)) ?_
 refine nx 17 rfl (fD [5,6] h0 rfl (λ c1 h0=>?_) λ c1 h0=>?_)
 ·refine nx 5 rfl (mO rfl (BV (k_0.fKind=0∧k_0.fNum=0∧k_0.fStr=([]:Bytes)) rfl rfl rfl rfl rfl rfl rfl (by kernel_rfl) rfl rfl (.inl ⟨rfl,rfl⟩) ?_))
  exact nx 3 rfl (mQ (oi h0) rfl (sr))
 refine nx 6 rfl (fD [10,11] h0 rfl (λ c2 h0=>?_) λ c2 h0=>?_)
 ·refine nx 2 rfl (bd h0 λ o13 h1 h0=>?_)
  refine kN o13 (λ v14=>⟨[(2,.p (eB v14))],[]⟩) ?_ ?_
  ·exact nx 2 rfl (mQ (oi h0) rfl (sr))
  refine nx 5 rfl (fD [14,15] h1 rfl (λ c3 h1=>?_) λ c3 h1=>?_)
  ·refine nx 5 rfl (fD [18,19,20] h1 rfl (λ c4 h1=>?_) λ c4 h1=>?_)
   ·refine nx 2 rfl (oS rfl rfl ?_)
    exact nx 3 rfl (eX _ (oi h1).symm (gE rfl rfl))
   exact nx 6 rfl (eX _ (oi h1).symm (gE rfl rfl))
  exact nx 11 rfl (eX _ (oi h1).symm (gE rfl rfl))
 refine nx 6 rfl (fD [25,26] h0 rfl (λ c6 h0=>?_) λ c6 h0=>?_)
 ·refine nx 2 rfl (bd h0 λ o15 h1 h0=>?_)
  refine kN o15 (λ v16=>⟨[(2,.p (eB v16))],[]⟩) ?_ ?_
  ·exact nx 2 rfl (mQ (oi h0) rfl (sr))
  refine nx 5 rfl (fD [29,30] h1 rfl (λ c7 h1=>?_) λ c7 h1=>?_)
  ·refine nx 2 rfl (bd h1 λ r8 e9 h1=>?_)
   refine oK (rN k_0.fStr _ e9) rfl ⟨sr,trivial⟩ Tryz.call98 rfl (nx 3 rfl ?_)
   exact eX _ (oi h1).symm (gE rfl rfl)
  exact nx 6 rfl (eX _ (oi h1).symm (gE rfl rfl))
 exact nx 7 rfl (mQ (oi h0) rfl (sr))
def cz (n:Nat)(a_0:ao):Nat→Int→Option (Unit⊕Int)
 | 0,_=>none
 | m+1,t12 =>
 if t12 < (a_0.fModule.length:Int) then
  ck ((0:Int)≤t12∧t12 < (a_0.fModule.length:Int)) <|
  (ce n ((lat a_0.fModule t12).fName)).bind λ r15 =>
  if (!r15)=true then
   some (.inr 7)
  else
   (fV ((lat a_0.fModule t12).fKey)).bind λ r18 =>
   if (!r18)=true then
    some (.inr 1)
   else
    ck (inR (t12+1)) <|
    cz n a_0 m (t12+1)
 else
  some (.inl ())
def eZ (n:Nat)(a_0:ao):Option Int :=
 if 16 < (a_0.fModule.length:Int) then
  some 4
 else
  jn (cz n a_0 n 0) λ q33 =>
  (
    (d6 n a_0.fType).bind λ r23 =>
    if (!r23)=true then
     some true
    else
     (ce n a_0.fName).bind λ r26 =>
     some (!r26)
   : Option Bool).bind λ t28 =>
  if t28=true then
   some 7
  else
   (fV a_0.fKey).bind λ r30 =>
   if (!r30)=true then
    some 1
   else
    some 0
set_option maxHeartbeats 4000000 in
theorem qW (n:Nat)(a_0:ao)(r:Int)(h0:eZ n a_0=some r):aB Tryz.prog 53 [.agg (ao.cs a_0)] (·=.p (eI r)):=by
 unfold eZ at h0
 refine aU good Tryz.func53 rfl rfl rfl λ w0=>mP (λ v:Int=>.p (eI v)) ?_
 refine nx 10 rfl (oLl (f:=aj) rfl rfl ?_)
 refine nx 2 rfl (fD [8] h0 rfl (λ c1 h0=>?_) λ c1 h0=>?_)
 ·exact nx 6 rfl (mQ (oi h0) rfl (sr))
 refine nx 7 rfl (oLl (f:=aj) rfl rfl ?_)
 refine nx 3 rfl ?_
 obtain ⟨o35,h1,hL0,hR0⟩:=cU h0
 refine kEx 0 (λ v36:Unit=>o35=.inl v36) (λ v36=>⟨[(1,.ptr 1 0)],[(1,(ao.cs a_0).map .p)]⟩) (λ v36 hv=>?_) ?_
 ·have h0:=hL0 _ hv
  refine nx 3 rfl (bd h0 λ o37 h1 h0=>?_)
  refine kN o37 (λ v38=>⟨[(1,.ptr 1 0),(34,.p (eB v38))],[(1,(ao.cs a_0).map .p)]⟩) ?_ ?_
  ·refine nx 1 rfl (fB [34] h0 rfl (λ c29 h0=>?_) λ c29 h0=>?_)
   ·exact nx 6 rfl (mQ (oi h0) rfl (sr))
   refine nx 7 rfl (bd h0 λ r30 e31 h0=>?_)
   refine oK (jD a_0.fKey _ e31) rfl ⟨sr,trivial⟩ Tryz.call70 rfl (nx 2 rfl ?_)
   refine fB [38] h0 rfl (λ c32 h0=>?_) λ c32 h0=>?_
   ·exact nx 6 rfl (mQ (oi h0) rfl (sr))
   exact nx 7 rfl (mQ (oi h0) rfl (sr))
  refine nx 3 rfl (bd h1 λ r23 e24 h1=>?_)
  refine oK (nj _ a_0.fType _ e24) rfl ⟨sr,trivial⟩ Tryz.call52 rfl (nx 2 rfl ?_)
  refine fB [28,29] h1 rfl (λ c25 h1=>?_) λ c25 h1=>?_
  ·exact nx 6 rfl (eX _ (oi h1).symm (gE rfl rfl))
  refine nx 2 rfl (bd h1 λ r26 e27 h1=>?_)
  refine oK (fu _ a_0.fName _ e27) rfl ⟨sr,trivial⟩ Tryz.call64 rfl (nx 3 rfl ?_)
  exact eX _ (oi h1).symm (gE rfl rfl)
 refine lG (λ (q39:Int)=>⟨[(1,.ptr 1 0),(10,.p (eL aj a_0.fModule)),(11,.p (eI (a_0.fModule.length:Int))),(12,.p (eI q39))],[(1,(ao.cs a_0).map .p)]⟩) (λ m (q39:Int)=>cz n a_0 m q39) (λ _=>rfl) 0 h1 (gE rfl rfl) ?_
 rintro m t12 h1
 replace h1:cz n a_0 (m+1) t12=some o35:=h1
 rw [cz] at h1
 refine nx 5 rfl (fD [13] h1 rfl (λ c13 h1=>?_) λ c13 h1=>?_)
 ·refine nx 6 rfl (oE h1 ae.cells_eq rfl rfl (λ _=>rfl) λ hk14 h1=>?_)
  refine nx 9 rfl (bd h1 λ r15 e16 h1=>?_)
  refine oK (fu _ ((lat a_0.fModule t12).fName) _ e16) rfl ⟨sr,trivial⟩ Tryz.call64 rfl (nx 2 rfl ?_)
  refine fB [19] h1 rfl (λ c17 h1=>?_) λ c17 h1=>?_
  ·exact nx 6 rfl (mQ (hR0 _ (oi h1).symm) rfl (sr))
  refine nx 6 rfl (bd h1 λ r18 e19 h1=>?_)
  refine oK (jD ((lat a_0.fModule t12).fKey) _ e19) rfl ⟨sr,trivial⟩ Tryz.call70 rfl (nx 2 rfl ?_)
  refine fB [23] h1 rfl (λ c20 h1=>?_) λ c20 h1=>?_
  ·exact nx 6 rfl (mQ (hR0 _ (oi h1).symm) rfl (sr))
  refine nx 3 rfl (oA h1 rfl rfl λ hk21 h1=>?_)
  exact nx 2 rfl (eX (t12+1) h1 (gE rfl rfl))
 exact nx 2 rfl (eXi _ (oi h1).symm (gE rfl rfl))
def ir (n_0:Int):Option Bytes :=
 (strconv_Itoa n_0).bind λ r1 =>
 some r1
set_option maxHeartbeats 4000000 in
theorem qz (n_0:Int)(r:Bytes)(h0:ir n_0=some r):aB Tryz.prog 72 [eI n_0] (·=.p (eS r)):=by
 unfold ir at h0
 refine aU good Tryz.func72 rfl rfl rfl λ w0=>mP (λ v:Bytes=>.p (eS v)) ?_
 refine nx 7 rfl (bd h0 λ r1 e2 h0=>?_)
 refine oK (rS n_0 _ e2) rfl ⟨sr,trivial⟩ Tryz.call100 rfl (nx 3 rfl ?_)
 exact mQ (oi h0) rfl (sr)
def cW (n:Nat)(k_0:bA):Option Bytes :=
 (
   (fV k_0).bind λ r1 =>
   if (!r1)=true then
    some true
   else
    some (decide (k_0.fKind=0))
  : Option Bool).bind λ t4 =>
 if t4=true then
  some ([]:Bytes)
 else
  if k_0.fKind=1 then
   (ir k_0.fNum).bind λ r7 =>
   ck (([91]:Bytes).length+r7.length≤9223372036854775807) <|
   ck ((([91]:Bytes)++r7).length+([93]:Bytes).length≤9223372036854775807) <|
   some ((([91]:Bytes)++r7)++([93]:Bytes))
  else
   (eQ n k_0.fStr).bind λ r11 =>
   ck (([91]:Bytes).length+r11.length≤9223372036854775807) <|
   ck ((([91]:Bytes)++r11).length+([93]:Bytes).length≤9223372036854775807) <|
   some ((([91]:Bytes)++r11)++([93]:Bytes))
set_option maxHeartbeats 4000000 in
theorem j6 (n:Nat)(k_0:bA)(r:Bytes)(h0:cW n k_0=some r):aB Tryz.prog 55 [.agg (bA.cs k_0)] (·=.p (eS r)):=by
 unfold cW at h0
 refine aU good Tryz.func55 rfl rfl rfl λ w0=>mP (λ v:Bytes=>.p (eS v)) ?_
 refine nx 8 rfl (bd h0 λ o16 h1 h0=>?_)
 refine kN o16 (λ v17=>⟨[(1,.ptr 1 0),(3,.p (eB v17))],[(1,(bA.cs k_0).map .p)]⟩) ?_ ?_
 ·refine nx 1 rfl (fB [3] h0 rfl (λ c5 h0=>?_) λ c5 h0=>?_)
  ·exact nx 6 rfl (mQ (oi h0) rfl (sr))
  refine nx 8 rfl (fD [12,15] h0 rfl (λ c6 h0=>?_) λ c6 h0=>?_)
  ·refine nx 5 rfl (bd h0 λ r7 e8 h0=>?_)
   refine oK (qz k_0.fNum _ e8) rfl ⟨sr,trivial⟩ Tryz.call72 rfl (oC h0 rfl λ hk9 h0=>?_)
   exact oC h0 rfl λ hk10 h0=>nx 3 rfl (mQ (oi h0) rfl (sr))
  refine nx 6 rfl (bd h0 λ r11 e12 h0=>?_)
  refine oK (nr _ k_0.fStr _ e12) rfl ⟨sr,trivial⟩ Tryz.call67 rfl (oC h0 rfl λ hk13 h0=>?_)
  exact oC h0 rfl λ hk14 h0=>nx 3 rfl (mQ (oi h0) rfl (sr))
 refine nx 2 rfl (bd h1 λ r1 e2 h1=>?_)
 refine oK (jD k_0 _ e2) rfl ⟨sr,trivial⟩ Tryz.call70 rfl (nx 2 rfl ?_)
 refine fB [6,7] h1 rfl (λ c3 h1=>?_) λ c3 h1=>?_
 ·exact nx 6 rfl (eX _ (oi h1).symm (gE rfl rfl))
 exact nx 6 rfl (eX _ (oi h1).symm (gE rfl rfl))
def co (n:Nat)(a_0:ao):Nat→Int→(List UInt8)→Option (List UInt8)
 | 0,_,_=>none
 | m+1,t16,f17 =>
 if t16 < (a_0.fModule.length:Int) then
  ck ((0:Int)≤t16∧t16 < (a_0.fModule.length:Int)) <|
  ck (([109,111,100,117,108,101,46]:Bytes).length+((lat a_0.fModule t16).fName).length≤9223372036854775807) <|
  (cW n ((lat a_0.fModule t16).fKey)).bind λ r21 =>
  ck ((([109,111,100,117,108,101,46]:Bytes)++((lat a_0.fModule t16).fName)).length+r21.length≤9223372036854775807) <|
  ck (((([109,111,100,117,108,101,46]:Bytes)++((lat a_0.fModule t16).fName))++r21).length+([46]:Bytes).length≤9223372036854775807) <|
  (aZ (aE.mk f17) (((([109,111,100,117,108,101,46]:Bytes)++((lat a_0.fModule t16).fName))++r21)++([46]:Bytes))).bind λ r25 =>
  ck (inR (t16+1)) <|
  co n a_0 m (t16+1) r25.2.2.fbuf
 else
  some f17
def eG (n:Nat)(a_0:ao):Option Bytes :=
 (eZ n a_0).bind λ r1 =>
 if r1=0 then
  (co n a_0 n 0 []).bind λ f30 =>
  (
    if a_0.fData=true then
     (aZ (aE.mk f30) ([100,97,116,97,46]:Bytes)).bind λ r32 =>
     some r32.2.2.fbuf
    else
     some f30
   : Option (List UInt8)).bind λ f34 =>
  ck (a_0.fType.length+([46]:Bytes).length≤9223372036854775807) <|
  ck ((a_0.fType++([46]:Bytes)).length+a_0.fName.length≤9223372036854775807) <|
  (cW n a_0.fKey).bind λ r37 =>
  ck (((a_0.fType++([46]:Bytes))++a_0.fName).length+r37.length≤9223372036854775807) <|
  (aZ (aE.mk f34) (((a_0.fType++([46]:Bytes))++a_0.fName)++r37)).bind λ r40 =>
  (dl (aE.mk r40.2.2.fbuf)).bind λ r42 =>
  some r42.1
 else
  some ([]:Bytes)
set_option maxHeartbeats 4000000 in
theorem pM (n:Nat)(a_0:ao)(r:Bytes)(h0:eG n a_0=some r):aB Tryz.prog 42 [.agg (ao.cs a_0)] (·=.p (eS r)):=by
 unfold eG at h0
 refine aU good Tryz.func42 rfl rfl rfl λ w0=>mP (λ v:Bytes=>.p (eS v)) ?_
 refine nx 9 rfl (bd h0 λ r1 e2 h0=>?_)
 refine oK (qW _ a_0 _ e2) rfl ⟨sr,trivial⟩ Tryz.call53 rfl (nx 2 rfl ?_)
 refine fN [8] h0 rfl (λ c3 h0=>?_) λ c3 h0=>?_
 ·refine nx 4 rfl (mO rfl (qU rfl rfl rfl rfl rfl rfl rfl ?_))
  refine nx 6 rfl (oLl (f:=aj) rfl rfl ?_)
  refine nx 3 rfl (bd h0 λ o46 h1 h0=>?_)
  refine kE 0 o46 (λ v47=>⟨[(1,.ptr 1 0),(3,.ptr 3 0)],[(1,(ao.cs a_0).map .p),(3,[.bptr 90 2 3,.vec 101000 1 (5+1) (v47.map eU)])]⟩) ?_ ?_
  ·refine nx 2 rfl (bd h0 λ o48 h1 h0=>?_)
   refine kN o48 (λ v49=>⟨[(1,.ptr 1 0),(3,.ptr 3 0)],[(1,(ao.cs a_0).map .p),(3,[.bptr 90 2 3,.vec 103000 1 (5+1) (v49.map eU)])]⟩) ?_ ?_
   ·refine nx 2 rfl (cc' h0 λ hk35 h0=>?_)
    refine cc' h0 λ hk36 h0=>bd h0 λ r37 e38 h0=>cc' h0 λ hk39 h0=>bd h0 λ r40 e41 h0=>mG (gE (t:=⟨[(1,.ptr 1 0),(3,.ptr 3 0)],[(1,(ao.cs a_0).map .p),(3,[.bptr 90 2 3,.vec 103000 1 (5+1) (o48.map eU)])]⟩) rfl rfl) (mS ⟨1,[10],(by2 (some (gz [103000] 104000 104001)) none),(λ _=>[(1,.ptr 1 0),(3,.ptr 3 0)]),(by2 ([(1,[.p (eL aj a_0.fModule),.p (eB a_0.fData),.p (eS a_0.fType),.p (eS a_0.fName),.p (eI a_0.fKey.fKind),.p (eI a_0.fKey.fNum),.p (eS a_0.fKey.fStr)]),(3,[.bptr 90 2 3,.vec 103000 1 (5+1) (o48.map eU)])]) ([(3,[.bptr 90 2 3,.vec 104000 1 (5+1) (r40.2.2.fbuf.map eU)]),(1,[.p (eL aj a_0.fModule),.p (eB a_0.fData),.p (eS a_0.fType),.p (eS a_0.fName),.p (eI a_0.fKey.fKind),.p (eI a_0.fKey.fNum),.p (eS a_0.fKey.fStr)])]))⟩ rfl rfl rfl ⟨rfl,rfl,trivial⟩ (lt1 ⟨rfl,rfl,trivial⟩) rfl rfl rfl rfl ?_)
    refine ay (λ _=>.ptr 1 2) rfl rfl rfl (cA rfl (λ _=>rfl)) (lt1 rfl) (ak [(1,_)] ⟨.inl rfl,trivial⟩ (λ sl hsl K hK=>af rfl (aO rfl rfl rfl rfl rfl rfl rfl rfl (hsl _ _ rfl) hK)) (ak [(1,_)] ⟨.inl rfl,trivial⟩ (λ sl hsl K hK=>af rfl (aO rfl rfl rfl rfl rfl rfl rfl rfl (hsl _ _ rfl) hK)) ax)) (ay (λ _=>.p (eS a_0.fType)) rfl rfl rfl (cA rfl (λ _=>rfl)) (lt1 rfl) (ak [(29,_)] ⟨.inr ⟨0,_,rfl,rfl,rfl⟩,trivial⟩ (λ sl hsl K hK=>af rfl (dD rfl rfl rfl rfl rfl (hsl _ _ rfl) rfl rfl hK)) (ak [(29,_)] ⟨.inr ⟨0,_,rfl,rfl,rfl⟩,trivial⟩ (λ sl hsl K hK=>af rfl (dD rfl rfl rfl rfl rfl (hsl _ _ rfl) rfl rfl hK)) ax)) ?_)
    refine ay (λ _=>.p (eS (a_0.fType++([46]:Bytes)))) rfl rfl rfl (cA rfl (λ _=>rfl)) (lt1 rfl) (ak [(30,_)] ⟨.inr ⟨1,_,rfl,rfl,rfl⟩,trivial⟩ (λ sl hsl K hK=>af rfl (dr rfl rfl rfl (hsl _ _ rfl) rfl hk35 hK)) (ak [(30,_)] ⟨.inr ⟨1,_,rfl,rfl,rfl⟩,trivial⟩ (λ sl hsl K hK=>af rfl (dr rfl rfl rfl (hsl _ _ rfl) rfl hk35 hK)) ax)) (ay (λ _=>.ptr 1 3) rfl rfl rfl (cA rfl (λ _=>rfl)) (lt1 rfl) (ak [(1,_)] ⟨.inl rfl,trivial⟩ (λ sl hsl K hK=>af rfl (aO rfl rfl rfl rfl rfl rfl rfl rfl (hsl _ _ rfl) hK)) (ak [(1,_)] ⟨.inl rfl,trivial⟩ (λ sl hsl K hK=>af rfl (aO rfl rfl rfl rfl rfl rfl rfl rfl (hsl _ _ rfl) hK)) ax)) ?_)
    refine ay (λ _=>.p (eS a_0.fName)) rfl rfl rfl (cA rfl (λ _=>rfl)) (lt1 rfl) (ak [(32,_)] ⟨.inr ⟨3,_,rfl,rfl,rfl⟩,trivial⟩ (λ sl hsl K hK=>af rfl (dD rfl rfl rfl rfl rfl (hsl _ _ rfl) rfl rfl hK)) (ak [(32,_)] ⟨.inr ⟨3,_,rfl,rfl,rfl⟩,trivial⟩ (λ sl hsl K hK=>af rfl (dD rfl rfl rfl rfl rfl (hsl _ _ rfl) rfl rfl hK)) ax)) (ay (λ _=>.p (eS ((a_0.fType++([46]:Bytes))++a_0.fName))) rfl rfl rfl (cA rfl (λ _=>rfl)) (lt1 rfl) (ak [(31,_),(33,_)] ⟨.inr ⟨2,_,rfl,rfl,rfl⟩,.inr ⟨4,_,rfl,rfl,rfl⟩,trivial⟩ (λ sl hsl K hK=>af rfl (dr rfl rfl rfl (hsl _ _ rfl) (hsl _ _ rfl) hk36 hK)) (ak [(31,_),(33,_)] ⟨.inr ⟨2,_,rfl,rfl,rfl⟩,.inr ⟨4,_,rfl,rfl,rfl⟩,trivial⟩ (λ sl hsl K hK=>af rfl (dr rfl rfl rfl (hsl _ _ rfl) (hsl _ _ rfl) hk36 hK)) ax)) ?_)
    refine ay (λ _=>.ptr 1 4) rfl rfl rfl (cA rfl (λ _=>rfl)) (lt1 rfl) (ak [(1,_)] ⟨.inl rfl,trivial⟩ (λ sl hsl K hK=>af rfl (aO rfl rfl rfl rfl rfl rfl rfl rfl (hsl _ _ rfl) hK)) (ak [(1,_)] ⟨.inl rfl,trivial⟩ (λ sl hsl K hK=>af rfl (aO rfl rfl rfl rfl rfl rfl rfl rfl (hsl _ _ rfl) hK)) ax)) (ay (λ _=>.p (.agg (bA.cs a_0.fKey))) rfl rfl rfl (cA rfl (λ _=>rfl)) (lt1 rfl) (ak [(35,_)] ⟨.inr ⟨6,_,rfl,rfl,rfl⟩,trivial⟩ (λ sl hsl K hK=>af rfl (fA rfl rfl rfl rfl rfl (hsl _ _ rfl) rfl rfl rfl hK)) (ak [(35,_)] ⟨.inr ⟨6,_,rfl,rfl,rfl⟩,trivial⟩ (λ sl hsl K hK=>af rfl (fA rfl rfl rfl rfl rfl (hsl _ _ rfl) rfl rfl rfl hK)) ax)) ?_)
    refine ay (λ _=>.p (eS r37)) rfl rfl rfl (cA rfl (λ _=>rfl)) (lt1 rfl) (aC rfl (ak [(36,_)] ⟨.inr ⟨7,_,rfl,rfl,rfl⟩,trivial⟩ (λ sl hsl K hK=>af rfl (aJ (j6 _ a_0.fKey _ e38) rfl rfl rfl (au (hsl _ _ rfl) aK) ⟨sr,trivial⟩ Tryz.call55 rfl hK)) ax)) (ay (λ _=>.p (eS (((a_0.fType++([46]:Bytes))++a_0.fName)++r37))) rfl rfl rfl (cA rfl (λ _=>rfl)) (lt1 rfl) (aC rfl (ak [(34,_),(37,_)] ⟨.inr ⟨5,_,rfl,rfl,rfl⟩,.inr ⟨8,_,rfl,rfl,rfl⟩,trivial⟩ (λ sl hsl K hK=>af rfl (dr rfl rfl rfl (hsl _ _ rfl) (hsl _ _ rfl) hk39 hK)) ax)) ?_)
    refine qS (λ _=>.tuple [.p (eI r40.1),.p (eE r40.2.1)]) [(3,_),(38,_)] rfl ⟨.inl rfl,.inr ⟨9,_,rfl,rfl,rfl⟩,trivial⟩ rfl rfl (λ _=>rfl) (lt1 (λ h=>absurd h (by decide))) (λ sl hsl K hK=>af rfl (bF [3] [103000] 104000 104001 (bJ (aE.mk o48) (((a_0.fType++([46]:Bytes))++a_0.fName)++r37) _ e41) rfl rfl rfl (au (hsl _ _ rfl) (au (hsl _ _ rfl) aK)) rfl ⟨sr,sr,trivial⟩ rfl rfl ⟨⟨_,rfl,⟨sr,sr,trivial⟩⟩,trivial⟩ rfl rfl rfl rfl rfl rfl rfl rfl Tryz.call54 rfl rfl hK)) (kk ?_)
    refine nx 3 rfl (bd h0 λ r42 e43 h0=>?_)
    refine mO rfl (bF [3] [104000] 105000 105000 (fx (aE.mk r40.2.2.fbuf) _ e43) rfl rfl rfl rfl rfl ⟨sr,trivial⟩ rfl rfl ⟨⟨_,rfl,⟨sr,sr,trivial⟩⟩,trivial⟩ rfl rfl rfl rfl rfl rfl rfl rfl Tryz.call56 rfl rfl ?_)
    exact nx 3 rfl (mQ (oi h0) rfl (sr))
   refine nx 5 rfl (fB [27] h1 rfl (λ c31 h1=>?_) λ c31 h1=>?_)
   ·refine nx 2 rfl (bd h1 λ r32 e33 h1=>?_)
    refine mO rfl (bF [3] [101000] 103000 103001 (bJ (aE.mk o46) ([100,97,116,97,46]:Bytes) _ e33) rfl rfl rfl rfl rfl ⟨sr,sr,trivial⟩ rfl rfl ⟨⟨_,rfl,⟨sr,sr,trivial⟩⟩,trivial⟩ rfl rfl rfl rfl rfl rfl rfl rfl Tryz.call54 rfl rfl ?_)
    exact nx 1 rfl (eX _ (oi h1).symm (gE rfl rfl))
   exact nx 2 rfl (eX _ (oi h1).symm (br (cn 101000 103000 rfl rfl rfl rfl rfl) (gE rfl rfl)))
  refine lG (λ (q50:Int×(List UInt8))=>⟨[(1,.ptr 1 0),(3,.ptr 3 0),(10,.p (eL aj a_0.fModule)),(11,.p (eI (a_0.fModule.length:Int))),(12,.p (eI q50.1))],[(1,(ao.cs a_0).map .p),(3,[.bptr 90 2 3,.vec 101000 1 (5+1) (q50.2.map eU)])]⟩) (λ m (q50:Int×(List UInt8))=>co n a_0 m q50.1 q50.2) (λ _=>rfl) (0,[]) h1 (aI (cb ⟨er rfl,er rfl,er rfl,er rfl,er rfl,trivial⟩ ⟨⟨_,rfl,⟨sr,sr,sr,sr,sr,sr,sr,trivial⟩⟩,⟨_,rfl,⟨sr,AV.sub_nilvec _ _ _,trivial⟩⟩,trivial⟩)) ?_
  rintro m ⟨t16,f17⟩ h1
  replace h1:co n a_0 (m+1) t16 f17=some o46:=h1
  rw [co] at h1
  refine nx 5 rfl (fD [13] h1 rfl (λ c18 h1=>?_) λ c18 h1=>?_)
  ·refine nx 6 rfl (oE h1 ae.cells_eq rfl rfl (λ _=>rfl) λ hk19 h1=>?_)
   refine nx 4 rfl (cc' h1 λ hk20 h1=>?_)
   refine bd h1 λ r21 e22 h1=>cc' h1 λ hk23 h1=>cc' h1 λ hk24 h1=>bd h1 λ r25 e26 h1=>mG (gE (t:=⟨[(1,.ptr 1 0),(3,.ptr 3 0),(5,.ptr 5 0),(10,.p (eL aj a_0.fModule)),(11,.p (eI (a_0.fModule.length:Int))),(12,.p (eI t16))],[(1,(ao.cs a_0).map .p),(3,[.bptr 90 2 3,.vec 101000 1 (5+1) (f17.map eU)]),(5,(ae.cs (lat a_0.fModule t16)).map .p)]⟩) rfl rfl) (mS ⟨1,[8],(by2 (some (gz [101000] 102000 102001)) none),(λ _=>[(1,.ptr 1 0),(3,.ptr 3 0),(5,.ptr 5 0),(10,.p (eL aj a_0.fModule)),(11,.p (eI (a_0.fModule.length:Int))),(12,.p (eI t16))]),(by2 ([(1,[.p (eL aj a_0.fModule),.p (eB a_0.fData),.p (eS a_0.fType),.p (eS a_0.fName),.p (eI a_0.fKey.fKind),.p (eI a_0.fKey.fNum),.p (eS a_0.fKey.fStr)]),(3,[.bptr 90 2 3,.vec 101000 1 (5+1) (f17.map eU)]),(5,[.p (eS ((lat a_0.fModule t16).fName)),.p (eI (((lat a_0.fModule t16).fKey).fKind)),.p (eI (((lat a_0.fModule t16).fKey).fNum)),.p (eS (((lat a_0.fModule t16).fKey).fStr))])]) ([(3,[.bptr 90 2 3,.vec 102000 1 (5+1) (r25.2.2.fbuf.map eU)]),(1,[.p (eL aj a_0.fModule),.p (eB a_0.fData),.p (eS a_0.fType),.p (eS a_0.fName),.p (eI a_0.fKey.fKind),.p (eI a_0.fKey.fNum),.p (eS a_0.fKey.fStr)]),(5,[.p (eS ((lat a_0.fModule t16).fName)),.p (eI (((lat a_0.fModule t16).fKey).fKind)),.p (eI (((lat a_0.fModule t16).fKey).fNum)),.p (eS (((lat a_0.fModule t16).fKey).fStr))])]))⟩ rfl rfl rfl ⟨rfl,rfl,rfl,rfl,rfl,rfl,trivial⟩ (lt1 ⟨rfl,rfl,rfl,rfl,rfl,rfl,trivial⟩) rfl rfl rfl rfl ?_)
   refine ay (λ _=>.ptr 5 0) rfl rfl rfl (cA rfl (λ _=>rfl)) (lt1 rfl) (ak [(5,_)] ⟨.inl rfl,trivial⟩ (λ sl hsl K hK=>af rfl (aO rfl rfl rfl rfl rfl rfl rfl rfl (hsl _ _ rfl) hK)) (ak [(5,_)] ⟨.inl rfl,trivial⟩ (λ sl hsl K hK=>af rfl (aO rfl rfl rfl rfl rfl rfl rfl rfl (hsl _ _ rfl) hK)) ax)) (ay (λ _=>.p (eS ((lat a_0.fModule t16).fName))) rfl rfl rfl (cA rfl (λ _=>rfl)) (lt1 rfl) (ak [(16,_)] ⟨.inr ⟨0,_,rfl,rfl,rfl⟩,trivial⟩ (λ sl hsl K hK=>af rfl (dD rfl rfl rfl rfl rfl (hsl _ _ rfl) rfl rfl hK)) (ak [(16,_)] ⟨.inr ⟨0,_,rfl,rfl,rfl⟩,trivial⟩ (λ sl hsl K hK=>af rfl (dD rfl rfl rfl rfl rfl (hsl _ _ rfl) rfl rfl hK)) ax)) ?_)
   refine ay (λ _=>.p (eS (([109,111,100,117,108,101,46]:Bytes)++((lat a_0.fModule t16).fName)))) rfl rfl rfl (cA rfl (λ _=>rfl)) (lt1 rfl) (ak [(17,_)] ⟨.inr ⟨1,_,rfl,rfl,rfl⟩,trivial⟩ (λ sl hsl K hK=>af rfl (dr rfl rfl rfl rfl (hsl _ _ rfl) hk20 hK)) (ak [(17,_)] ⟨.inr ⟨1,_,rfl,rfl,rfl⟩,trivial⟩ (λ sl hsl K hK=>af rfl (dr rfl rfl rfl rfl (hsl _ _ rfl) hk20 hK)) ax)) (ay (λ _=>.ptr 5 1) rfl rfl rfl (cA rfl (λ _=>rfl)) (lt1 rfl) (ak [(5,_)] ⟨.inl rfl,trivial⟩ (λ sl hsl K hK=>af rfl (aO rfl rfl rfl rfl rfl rfl rfl rfl (hsl _ _ rfl) hK)) (ak [(5,_)] ⟨.inl rfl,trivial⟩ (λ sl hsl K hK=>af rfl (aO rfl rfl rfl rfl rfl rfl rfl rfl (hsl _ _ rfl) hK)) ax)) ?_)
   refine ay (λ _=>.p (.agg (bA.cs ((lat a_0.fModule t16).fKey)))) rfl rfl rfl (cA rfl (λ _=>rfl)) (lt1 rfl) (ak [(19,_)] ⟨.inr ⟨3,_,rfl,rfl,rfl⟩,trivial⟩ (λ sl hsl K hK=>af rfl (fA rfl rfl rfl rfl rfl (hsl _ _ rfl) rfl rfl rfl hK)) (ak [(19,_)] ⟨.inr ⟨3,_,rfl,rfl,rfl⟩,trivial⟩ (λ sl hsl K hK=>af rfl (fA rfl rfl rfl rfl rfl (hsl _ _ rfl) rfl rfl rfl hK)) ax)) (ay (λ _=>.p (eS r21)) rfl rfl rfl (cA rfl (λ _=>rfl)) (lt1 rfl) (aC rfl (ak [(20,_)] ⟨.inr ⟨4,_,rfl,rfl,rfl⟩,trivial⟩ (λ sl hsl K hK=>af rfl (aJ (j6 _ ((lat a_0.fModule t16).fKey) _ e22) rfl rfl rfl (au (hsl _ _ rfl) aK) ⟨sr,trivial⟩ Tryz.call55 rfl hK)) ax)) ?_)
   refine ay (λ _=>.p (eS ((([109,111,100,117,108,101,46]:Bytes)++((lat a_0.fModule t16).fName))++r21))) rfl rfl rfl (cA rfl (λ _=>rfl)) (lt1 rfl) (ak [(18,_),(21,_)] ⟨.inr ⟨2,_,rfl,rfl,rfl⟩,.inr ⟨5,_,rfl,rfl,rfl⟩,trivial⟩ (λ sl hsl K hK=>af rfl (dr rfl rfl rfl (hsl _ _ rfl) (hsl _ _ rfl) hk23 hK)) (ak [(18,_),(21,_)] ⟨.inr ⟨2,_,rfl,rfl,rfl⟩,.inr ⟨5,_,rfl,rfl,rfl⟩,trivial⟩ (λ sl hsl K hK=>af rfl (dr rfl rfl rfl (hsl _ _ rfl) (hsl _ _ rfl) hk23 hK)) ax)) (ay (λ _=>.p (eS (((([109,111,100,117,108,101,46]:Bytes)++((lat a_0.fModule t16).fName))++r21)++([46]:Bytes)))) rfl rfl rfl (cA rfl (λ _=>rfl)) (lt1 rfl) (aC rfl (ak [(22,_)] ⟨.inr ⟨6,_,rfl,rfl,rfl⟩,trivial⟩ (λ sl hsl K hK=>af rfl (dr rfl rfl rfl (hsl _ _ rfl) rfl hk24 hK)) ax)) ?_)
   refine qS (λ _=>.tuple [.p (eI r25.1),.p (eE r25.2.1)]) [(3,_),(23,_)] rfl ⟨.inl rfl,.inr ⟨7,_,rfl,rfl,rfl⟩,trivial⟩ rfl rfl (λ _=>rfl) (lt1 (λ h=>absurd h (by decide))) (λ sl hsl K hK=>af rfl (bF [3] [101000] 102000 102001 (bJ (aE.mk f17) (((([109,111,100,117,108,101,46]:Bytes)++((lat a_0.fModule t16).fName))++r21)++([46]:Bytes)) _ e26) rfl rfl rfl (au (hsl _ _ rfl) (au (hsl _ _ rfl) aK)) rfl ⟨sr,sr,trivial⟩ rfl rfl ⟨⟨_,rfl,⟨sr,sr,trivial⟩⟩,trivial⟩ rfl rfl rfl rfl rfl rfl rfl rfl Tryz.call54 rfl rfl hK)) (kk ?_)
   refine nx 2 rfl (oA h1 rfl rfl λ hk27 h1=>?_)
   exact nx 2 rfl (eX (t16+1,r25.2.2.fbuf) h1 (br (cn 102000 101000 rfl rfl rfl rfl rfl) (gE rfl rfl)))
  exact nx 2 rfl (eXi _ (oi h1).symm (gE rfl rfl))
 exact nx 6 rfl (mQ (oi h0) rfl (sr))
def dz:Nat→Option Unit
 | 0=>none
 | m+1 =>
 if 0 < (([]:List ae).length:Int) then
  ck ((0:Int)≤0∧0 < (([]:List ae).length:Int)) <|
  none
 else
  some ()
def cp (a_0:ao):Nat→Int→(List ae)→Option (List ae)
 | 0,_,_=>none
 | m+1,t10,l11 =>
 if t10 < (a_0.fModule.length:Int) then
  ck ((0:Int)≤t10∧t10 < (l11.length:Int)) <|
  ck (inR (t10+1)) <|
  cp a_0 m (t10+1) (l11.set t10.toNat (ae.mk ((lat l11 t10).fName) (bA.mk 0 0 ([]:Bytes))))
 else
  some l11
def eH (n:Nat)(a_0:ao):Option ao :=
 if a_0.fModule.isEmpty=true then
  (dz n ).bind λ q18 =>
  some (ao.mk ([]:List ae) a_0.fData a_0.fType a_0.fName (bA.mk 0 0 ([]:Bytes)))
 else
  ck (a_0.fModule.length*48≤140737488355328) <|
  (cp a_0 n 0 a_0.fModule).bind λ l17 =>
  some (ao.mk l17 a_0.fData a_0.fType a_0.fName (bA.mk 0 0 ([]:Bytes)))
set_option maxHeartbeats 4000000 in
theorem qj (n:Nat)(a_0:ao)(r:ao)(h0:eH n a_0=some r):aB Tryz.prog 43 [.agg (ao.cs a_0)] (·=.p (.agg (ao.cs r))):=by
 unfold eH at h0
 refine aU good Tryz.func43 rfl rfl rfl λ w0=>mP (λ v:ao=>.p (.agg (ao.cs v))) ?_
 refine nx 21 rfl (yB (b:=a_0.fModule.isEmpty) (λ c1=>?_) (λ c1=>?_))
 ·replace h0:=BC c1 h0
  refine mO rfl (aJ (fR a_0.fModule c1) rfl rfl rfl rfl ⟨sr,trivial⟩ Tryz.call57 rfl ?_)
  refine nx 8 rfl (oLl (f:=aj) rfl rfl ?_)
  refine nx 3 rfl (bd h0 λ o20 h1 h0=>?_)
  refine kE 0 o20 (λ v21=>⟨[(2,.ptr 2 0),(3,.ptr 3 0)],[(2,[.p (.val (.slice none 0 0)),.p (eB false),.p (eS ([]:Bytes)),.p (eS ([]:Bytes)),.p (eI 0),.p (eI 0),.p (eS ([]:Bytes))]),(3,[.p (eL aj ([]:List ae)),.p (eB a_0.fData),.p (eS a_0.fType),.p (eS a_0.fName),.p (eI 0),.p (eI 0),.p (eS ([]:Bytes))])]⟩) ?_ ?_
  ·exact nx 7 rfl (mQ (oi h0) rfl (sr))
  refine lG (λ (q22:Unit)=>⟨[(2,.ptr 2 0),(3,.ptr 3 0),(14,.p (eI (([]:List ae).length:Int))),(15,.p (eI 0))],[(2,[.p (.val (.slice none 0 0)),.p (eB false),.p (eS ([]:Bytes)),.p (eS ([]:Bytes)),.p (eI 0),.p (eI 0),.p (eS ([]:Bytes))]),(3,[.p (eL aj ([]:List ae)),.p (eB a_0.fData),.p (eS a_0.fType),.p (eS a_0.fName),.p (eI 0),.p (eI 0),.p (eS ([]:Bytes))])]⟩) (λ m (q22:Unit)=>dz m ) (λ _=>rfl) () h1 (gE rfl rfl) ?_
  rintro m _ h1
  replace h1:dz (m+1)  = some o20:=h1
  rw [dz] at h1
  refine nx 5 rfl (fD [16] h1 rfl (λ c3 h1=>?_) λ c3 h1=>?_)
  ·refine nx 14 rfl (oE h1 ae.cells_eq rfl rfl (λ _=>rfl) λ hk4 h1=>?_)
   refine nx 1 rfl ?_
   cases h1
  exact nx 2 rfl (eXi _ (oi h1).symm (gE rfl rfl))
 replace h0:=BX c1 h0
 refine cc' h0 λ hk2 h0=>mO rfl (bF [] [] 101000 101001 (fS a_0.fModule c1 hk2) rfl rfl rfl rfl rfl ⟨sr,trivial⟩ rfl rfl trivial rfl rfl rfl rfl rfl rfl rfl rfl Tryz.call57 rfl (ia rfl (hG _) rfl) ?_)
 refine nx 12 rfl (bd h0 λ o23 h1 h0=>?_)
 refine kE 0 o23 (λ v24=>⟨[(2,.ptr 2 0),(3,.ptr 3 0)],[(2,[.p (.val (.slice none 0 0)),.p (eB false),.p (eS ([]:Bytes)),.p (eS ([]:Bytes)),.p (eI 0),.p (eI 0),.p (eS ([]:Bytes))]),(3,[.arr 101000 4 0 v24.length,.p (eB a_0.fData),.p (eS a_0.fType),.p (eS a_0.fName),.p (eI 0),.p (eI 0),.p (eS ([]:Bytes))]),(101000,ik aj v24)]⟩) ?_ ?_
 ·refine nx 3 rfl (mG (pm (sl':=[(2,.ptr 2 0),(3,.ptr 3 0)]) (ob':=[(2,[.p (.val (.slice none 0 0)),.p (eB false),.p (eS ([]:Bytes)),.p (eS ([]:Bytes)),.p (eI 0),.p (eI 0),.p (eS ([]:Bytes))]),(3,[.p (eL aj o23),.p (eB a_0.fData),.p (eS a_0.fType),.p (eS a_0.fName),.p (eI 0),.p (eI 0),.p (eS ([]:Bytes))])]) 101000 4 aj o23 rfl rfl rfl (λ x=>⟨congrArg List.length (ae.cells_eq x),by rw [ae.cells_eq]; rfl⟩) ⟨⟨_,rfl,.inl rfl⟩,⟨_,rfl,.inl rfl⟩,trivial⟩ ⟨⟨rfl,_,rfl,⟨.inl rfl,.inl rfl,.inl rfl,.inl rfl,.inl rfl,.inl rfl,.inl rfl,trivial⟩⟩,⟨rfl,_,rfl,⟨.inr ⟨(by simp),rfl⟩,.inl rfl,.inl rfl,.inl rfl,.inl rfl,.inl rfl,.inl rfl,trivial⟩⟩,trivial⟩) ?_)
  exact nx 4 rfl (mQ (oi h0) rfl (sr))
 refine lG (λ (q25:Int×(List ae))=>⟨[(2,.ptr 2 0),(3,.ptr 3 0),(14,.p (eI (a_0.fModule.length:Int))),(15,.p (eI q25.1))],[(2,[.p (.val (.slice none 0 0)),.p (eB false),.p (eS ([]:Bytes)),.p (eS ([]:Bytes)),.p (eI 0),.p (eI 0),.p (eS ([]:Bytes))]),(3,[.arr 101000 4 0 q25.2.length,.p (eB a_0.fData),.p (eS a_0.fType),.p (eS a_0.fName),.p (eI 0),.p (eI 0),.p (eS ([]:Bytes))]),(101000,ik aj q25.2)]⟩) (λ m (q25:Int×(List ae))=>cp a_0 m q25.1 q25.2) (λ _=>rfl) (0,a_0.fModule) h1 (aI (cb ⟨er rfl,er rfl,er rfl,er rfl,trivial⟩ ⟨⟨_,rfl,⟨sr,sr,sr,sr,sr,sr,sr,trivial⟩⟩,⟨_,rfl,⟨AV.sub_of_eq (congrArg (AV.arr 101000 4 0) (by simp)),sr,sr,sr,sr,sr,sr,trivial⟩⟩,⟨_,rfl,aG _⟩,trivial⟩)) ?_
 rintro m ⟨t10,l11⟩ h1
 replace h1:cp a_0 (m+1) t10 l11=some o23:=h1
 rw [cp] at h1
 refine nx 5 rfl (fD [16] h1 rfl (λ c12 h1=>?_) λ c12 h1=>?_)
 ·refine nx 14 rfl (cc' h1 λ hk13 h1=>?_)
  refine mO rfl (jQ rfl rfl rfl rfl rfl rfl rfl rfl rfl hk13 ?_)
  refine nx 1 rfl (mO rfl (uk aj ae.cs l11 (ae.mk ((lat l11 t10).fName) (bA.mk 0 0 ([]:Bytes))) [eI 0,eI 0,eS ([]:Bytes)] rfl rfl rfl rfl rfl rfl rfl rfl rfl rfl hk13 ae.cells_eq (λ _=>rfl) rfl ?_))
  refine nx 2 rfl (oA h1 rfl rfl λ hk14 h1=>?_)
  exact nx 2 rfl (eX (t10+1,l11.set t10.toNat (ae.mk ((lat l11 t10).fName) (bA.mk 0 0 ([]:Bytes)))) h1 (aI (cb ⟨er rfl,er rfl,er rfl,er rfl,trivial⟩ ⟨⟨_,rfl,⟨sr,sr,sr,sr,sr,sr,sr,trivial⟩⟩,⟨_,rfl,⟨AV.sub_of_eq (congrArg (AV.arr 101000 4 0) (by simp)),sr,sr,sr,sr,sr,sr,trivial⟩⟩,⟨_,rfl,aG _⟩,trivial⟩)))
 exact nx 2 rfl (eXi _ (oi h1).symm (aI (cb ⟨er rfl,er rfl,trivial⟩ ⟨⟨_,rfl,⟨sr,sr,sr,sr,sr,sr,sr,trivial⟩⟩,⟨_,rfl,⟨AV.sub_of_eq (congrArg (AV.arr 101000 4 0) (by simp)),sr,sr,sr,sr,sr,sr,trivial⟩⟩,⟨_,rfl,aG _⟩,trivial⟩)))
def ez (n:Nat)(s_0:Bytes):Option (Bytes×Int) :=
 (eW n s_0).bind λ r1 =>
 if r1.2=0 then
  (eH n r1.1).bind λ r4 =>
  (eG n r4).bind λ r6 =>
  some (r6,0)
 else
  some (([]:Bytes),r1.2)
set_option maxHeartbeats 4000000 in
theorem pS (n:Nat)(s_0:Bytes)(r:Bytes×Int)(h0:ez n s_0=some r):aB Tryz.prog 36 [eS s_0] (·=.tuple [.p (eS r.1),.p (eI r.2)]):=by
 unfold ez at h0
 refine aU good Tryz.func36 rfl rfl rfl λ w0=>mP (λ v:Bytes×Int=>.tuple [.p (eS v.1),.p (eI v.2)]) ?_
 refine nx 8 rfl (bd h0 λ r1 e2 h0=>?_)
 refine oK (qC _ s_0 _ e2) rfl ⟨sr,trivial⟩ Tryz.call41 rfl (nx 13 rfl ?_)
 refine fN [12] h0 rfl (λ c3 h0=>?_) λ c3 h0=>?_
 ·refine nx 5 rfl (bd h0 λ r4 e5 h0=>?_)
  refine oK (qj _ r1.1 _ e5) rfl ⟨sr,trivial⟩ Tryz.call43 rfl (bd h0 λ r6 e7 h0=>?_)
  refine oK (pM _ r4 _ e7) rfl ⟨sr,trivial⟩ Tryz.call42 rfl (nx 4 rfl ?_)
  exact mQ (oi h0) rfl (az ⟨sr,sr,trivial⟩)
 exact nx 8 rfl (mQ (oi h0) rfl (az ⟨sr,sr,trivial⟩))
end Go.Ab.R06
end
section
set_option linter.unusedVariables false
set_option linter.unusedSimpArgs false
set_option linter.unnecessarySimpa false
namespace Go.Ab.R06
open Go.Proofs Go.Ab Go.Ab.RB
attribute [local irreducible] awp gO aY aB cD AV.sub M dh
def ef (s_0:Bytes):Nat→Int→Option (Unit⊕Bool)
 | 0,_=>none
 | m+1,i9 =>
 if i9 < (s_0.length:Int) then
  (
    ck ((0:Int)≤i9∧i9 < (s_0.length:Int)) <|
    if byt s_0 i9 < 48 then
     some true
    else
     ck ((0:Int)≤i9∧i9 < (s_0.length:Int)) <|
     some (decide (57 < byt s_0 i9))
   : Option Bool).bind λ t14 =>
  if t14=true then
   some (.inr false)
  else
   ck (inR (i9+1)) <|
   ef s_0 m (i9+1)
 else
  some (.inl ())
def jr (n:Nat)(s_0:Bytes):Option Bool :=
 jn (ef s_0 n 0) λ q22 =>
 (
   if s_0=([48]:Bytes) then
    some true
   else
    if s_0=([]:Bytes) then
     some false
    else
     ck ((0:Int)≤0∧0 < (s_0.length:Int)) <|
     some (!decide (byt s_0 0=48))
  : Option Bool).bind λ t21 =>
 some t21
set_option maxHeartbeats 4000000 in
theorem rT (n:Nat)(s_0:Bytes)(r:Bool)(h0:jr n s_0=some r):aB Tryz.prog 119 [eS s_0] (·=.p (eB r)):=by
 unfold jr at h0
 refine aU good Tryz.func119 rfl rfl rfl λ w0=>mP (λ v:Bool=>.p (eB v)) ?_
 refine nx 10 rfl ?_
 obtain ⟨o25,h1,hL0,hR0⟩:=cU h0
 refine kEx 0 (λ v26:Unit=>o25=.inl v26) (λ v26=>⟨[(0,.p (eS s_0))],[]⟩) (λ v26 hv=>?_) ?_
 ·have h0:=hL0 _ hv
  refine nx 2 rfl (bd h0 λ o27 h1 h0=>?_)
  refine kN o27 (λ v28=>⟨[(2,.p (eB v28))],[]⟩) ?_ ?_
  ·exact nx 2 rfl (mQ (oi h0) rfl (sr))
  refine nx 2 rfl (oS rfl rfl ?_)
  refine nx 1 rfl (fD [21,22] h1 rfl (λ c18 h1=>?_) λ c18 h1=>?_)
  ·exact nx 10 rfl (eX _ (oi h1).symm (gE rfl rfl))
  refine nx 1 rfl (oS rfl rfl ?_)
  refine nx 1 rfl (fN [24,25] h1 rfl (λ c19 h1=>?_) λ c19 h1=>?_)
  ·exact nx 7 rfl (eX _ (oi h1).symm (gE rfl rfl))
  refine nx 1 rfl (oI h1 rfl λ hk20 h1=>?_)
  exact nx 5 rfl (eX _ (oi h1).symm (gE rfl rfl))
 refine lG (λ (q29:Int)=>⟨[(0,.p (eS s_0)),(3,.p (eI q29))],[]⟩) (λ m (q29:Int)=>ef s_0 m q29) (λ _=>rfl) 0 h1 (gE rfl rfl) ?_
 rintro m i9 h1
 replace h1:ef s_0 (m+1) i9=some o25:=h1
 rw [ef] at h1
 refine nx 5 rfl (oLs rfl ?_)
 refine nx 2 rfl (fD [7] h1 rfl (λ c10 h1=>?_) λ c10 h1=>?_)
 ·refine nx 5 rfl (bd h1 λ o30 h2 h1=>?_)
  refine kN o30 (λ v31=>⟨[(0,.p (eS s_0)),(3,.p (eI i9)),(19,.p (eB v31))],[]⟩) ?_ ?_
  ·refine nx 1 rfl (fB [19] h1 rfl (λ c15 h1=>?_) λ c15 h1=>?_)
   ·exact nx 6 rfl (mQ (hR0 _ (oi h1).symm) rfl (sr))
   refine nx 4 rfl (oA h1 rfl rfl λ hk16 h1=>?_)
   exact nx 2 rfl (eX (i9+1) h1 (gE rfl rfl))
  refine nx 3 rfl (oI h2 rfl λ hk11 h2=>?_)
  refine nx 2 rfl (fD [13,14] h2 rfl (λ c12 h2=>?_) λ c12 h2=>?_)
  ·exact nx 6 rfl (eX _ (oi h2).symm (gE rfl rfl))
  refine nx 2 rfl (oI h2 rfl λ hk13 h2=>?_)
  exact nx 3 rfl (eX _ (oi h2).symm (gE rfl rfl))
 exact nx 2 rfl (eXi _ (oi h1).symm (gE rfl rfl))
def lB (n_0:Int):Option Bool :=
 (
   if (-9007199254740992)≤n_0 then
    some (decide (n_0≤9007199254740992))
   else
    some false
  : Option Bool).bind λ t2 =>
 some t2
set_option maxHeartbeats 4000000 in
theorem tB (n_0:Int)(r:Bool)(h0:lB n_0=some r):aB Tryz.prog 120 [eI n_0] (·=.p (eB r)):=by
 unfold lB at h0
 refine aU good Tryz.func120 rfl rfl rfl λ w0=>mP (λ v:Bool=>.p (eB v)) ?_
 refine nx 5 rfl (bd h0 λ o4 h1 h0=>?_)
 refine kN o4 (λ v5=>⟨[(2,.p (eB v5))],[]⟩) ?_ ?_
 ·exact nx 2 rfl (mQ (oi h0) rfl (sr))
 refine nx 4 rfl (fD [4,5] h1 rfl (λ c1 h1=>?_) λ c1 h1=>?_)
 ·exact nx 5 rfl (eX _ (oi h1).symm (gE rfl rfl))
 exact nx 5 rfl (eX _ (oi h1).symm (gE rfl rfl))
def eJ (t6:Bytes):Nat→Int→Int→Option Int
 | 0,_,_=>none
 | m+1,n22,i23 =>
 if i23 < (t6.length:Int) then
  ck (inR (10*n22)) <|
  ck ((0:Int)≤i23∧i23 < (t6.length:Int)) <|
  ck (inR (IntKind.wrap .u8 ((byt t6 i23) - 48))) <|
  ck (inR ((10*n22)+(IntKind.wrap .u8 ((byt t6 i23) - 48)))) <|
  ck (inR (i23+1)) <|
  eJ t6 m ((10*n22)+(IntKind.wrap .u8 ((byt t6 i23) - 48))) (i23+1)
 else
  some n22
def jV (n:Nat)(s_0:Bytes):Option (Int×Int) :=
 (
   if 0 < (s_0.length:Int) then
    ck ((0:Int)≤0∧0 < (s_0.length:Int)) <|
    some (decide (byt s_0 0=45))
   else
    some false
  : Option Bool).bind λ minus3 =>
 (
   if minus3=true then
    ck ((0:Int)≤1∧1≤(s_0.length:Int)∧(s_0.length:Int)≤(s_0.length:Int)) <|
    some (sub s_0 1 (s_0.length:Int))
   else
    some s_0
  : Option Bytes).bind λ t6 =>
 (
   (jr n t6).bind λ r7 =>
   if (!r7)=true then
    some true
   else
    if minus3=true then
     some (decide (t6=([48]:Bytes)))
    else
     some false
  : Option Bool).bind λ t11 =>
 if t11=true then
  some (0,2)
 else
  if 16 < (t6.length:Int) then
   some (0,5)
  else
   (eJ t6 n 0 0).bind λ n32 =>
   (
     if minus3=true then
      ck (inR (0 - n32)) <|
      some (0 - n32)
     else
      some n32
    : Option Int).bind λ n35 =>
   (lB n35).bind λ r36 =>
   if (!r36)=true then
    some (0,5)
   else
    some (n35,0)
set_option maxHeartbeats 4000000 in
theorem tg (n:Nat)(s_0:Bytes)(r:Int×Int)(h0:jV n s_0=some r):aB Tryz.prog 103 [eS s_0] (·=.tuple [.p (eI r.1),.p (eI r.2)]):=by
 unfold jV at h0
 refine aU good Tryz.func103 rfl rfl rfl λ w0=>mP (λ v:Int×Int=>.tuple [.p (eI v.1),.p (eI v.2)]) ?_
 refine nx 6 rfl (bd h0 λ o44 h1 h0=>?_)
 refine kN o44 (λ v45=>⟨[(0,.p (eS s_0)),(4,.p (eB v45))],[]⟩) ?_ ?_
 ·refine nx 7 rfl (bd h0 λ o46 h1 h0=>?_)
  refine kN o46 (λ v47=>⟨[(4,.p (eB o44)),(5,.p (eS v47))],[]⟩) ?_ ?_
  ·refine nx 3 rfl (bd h0 λ o48 h1 h0=>?_)
   refine kN o48 (λ v49=>⟨[(4,.p (eB o44)),(5,.p (eS o46)),(29,.p (eB v49))],[]⟩) ?_ ?_
   ·refine nx 1 rfl (fB [29] h0 rfl (λ c12 h0=>?_) λ c12 h0=>?_)
    ·exact nx 7 rfl (mQ (oi h0) rfl (az ⟨sr,sr,trivial⟩))
    refine nx 6 rfl (oLs rfl ?_)
    refine nx 2 rfl (fD [32] h0 rfl (λ c13 h0=>?_) λ c13 h0=>?_)
    ·exact nx 7 rfl (mQ (oi h0) rfl (az ⟨sr,sr,trivial⟩))
    refine nx 12 rfl (bd h0 λ o50 h1 h0=>?_)
    refine kE 0 o50 (λ v51=>⟨[(4,.p (eB o44)),(6,.p (eI v51))],[]⟩) ?_ ?_
    ·refine nx 2 rfl (bd h0 λ o52 h1 h0=>?_)
     refine kN o52 (λ v53=>⟨[(6,.p (eI v53))],[]⟩) ?_ ?_
     ·refine nx 5 rfl (bd h0 λ r36 e37 h0=>?_)
      refine oK (tB o52 _ e37) rfl ⟨sr,trivial⟩ Tryz.call120 rfl (nx 2 rfl ?_)
      refine fB [52] h0 rfl (λ c38 h0=>?_) λ c38 h0=>?_
      ·exact nx 7 rfl (mQ (oi h0) rfl (az ⟨sr,sr,trivial⟩))
      exact nx 9 rfl (mQ (oi h0) rfl (az ⟨sr,sr,trivial⟩))
     refine nx 4 rfl (fB [4,47] h1 rfl (λ c33 h1=>?_) λ c33 h1=>?_)
     ·refine nx 3 rfl (cc' h1 λ hk34 h1=>?_)
      refine mO rfl (wX rfl rfl rfl rfl hk34 ?_)
      exact nx 2 rfl (eX _ (oi h1).symm (gE rfl rfl))
     exact nx 2 rfl (eX _ (oi h1).symm (gE rfl rfl))
    refine lG (λ (q54:Int×Int)=>⟨[(4,.p (eB o44)),(5,.p (eS o46)),(6,.p (eI q54.1)),(7,.p (eI q54.2))],[]⟩) (λ m (q54:Int×Int)=>eJ o46 m q54.1 q54.2) (λ _=>rfl) (0,0) h1 (gE rfl rfl) ?_
    rintro m ⟨n22,i23⟩ h1
    replace h1:eJ o46 (m+1) n22 i23=some o50:=h1
    rw [eJ] at h1
    refine nx 5 rfl (oLs rfl ?_)
    refine nx 2 rfl (fD [36] h1 rfl (λ c24 h1=>?_) λ c24 h1=>?_)
    ·refine nx 6 rfl (oA h1 rfl rfl λ hk25 h1=>?_)
     refine nx 2 rfl (oI h1 rfl λ hk26 h1=>?_)
     refine nx 1 rfl (cc' h1 λ hk27 h1=>?_)
     refine mO rfl (dy rfl rfl rfl rfl rfl rfl rfl rfl (fY hk27) ?_)
     refine oA h1 rfl rfl λ hk28 h1=>nx 4 rfl (oA h1 rfl rfl λ hk29 h1=>?_)
     exact nx 2 rfl (eX ((10*n22)+(IntKind.wrap .u8 ((byt o46 i23) - 48)),i23+1) h1 (gE rfl rfl))
    exact nx 2 rfl (eXi _ (oi h1).symm (gE rfl rfl))
   refine nx 2 rfl (bd h1 λ r7 e8 h1=>?_)
   refine oK (rT _ o46 _ e8) rfl ⟨sr,trivial⟩ Tryz.call119 rfl (nx 2 rfl ?_)
   refine fB [22,23] h1 rfl (λ c9 h1=>?_) λ c9 h1=>?_
   ·exact nx 7 rfl (eX _ (oi h1).symm (gE rfl rfl))
   refine nx 2 rfl (fB [4,24,25] h1 rfl (λ c10 h1=>?_) λ c10 h1=>?_)
   ·refine nx 1 rfl (oS rfl rfl ?_)
    exact nx 3 rfl (eX _ (oi h1).symm (aI (cb ⟨⟨_,rfl,p9 c10.symm⟩,er rfl,er rfl,trivial⟩ trivial)))
   exact nx 5 rfl (eX _ (oi h1).symm (aI (cb ⟨⟨_,rfl,p9 c10.symm⟩,er rfl,er rfl,trivial⟩ trivial)))
  refine nx 4 rfl (fB [4,17] h1 rfl (λ c4 h1=>?_) λ c4 h1=>?_)
  ·refine nx 3 rfl (oP h1 rfl rfl rfl λ hk5 h1=>?_)
   exact nx 2 rfl (eX _ (oi h1).symm (aI (cb ⟨⟨_,rfl,p9 c4.symm⟩,er rfl,trivial⟩ trivial)))
  exact nx 2 rfl (eX _ (oi h1).symm (aI (cb ⟨⟨_,rfl,p9 c4.symm⟩,er rfl,trivial⟩ trivial)))
 refine nx 2 rfl (oLs rfl ?_)
 refine nx 2 rfl (fD [10,11] h1 rfl (λ c1 h1=>?_) λ c1 h1=>?_)
 ·refine nx 1 rfl (oI h1 rfl λ hk2 h1=>?_)
  exact nx 4 rfl (eX _ (oi h1).symm (gE rfl rfl))
 exact nx 6 rfl (eX _ (oi h1).symm (gE rfl rfl))
def dN:Nat→Int→Option Bytes
 | 0,_=>none
 | n+1,n_0 =>
 (
   if 0≤n_0 then
    some (decide (n_0≤9))
   else
    some false
  : Option Bool).bind λ t2 =>
 if t2=true then
  ck (inR (48+n_0)) <|
  ck ((0:Int)≤IntKind.wrap .u8 (48+n_0)∧IntKind.wrap .u8 (48+n_0) < 256) <|
  some [u8 (IntKind.wrap .u8 (48+n_0))]
 else
  (
    if n_0 < 0 then
     some (decide ((-10) < n_0))
    else
     some false
   : Option Bool).bind λ t7 =>
  if t7=true then
   ck (inR (0 - n_0)) <|
   ((dN n) (0 - n_0)).bind λ r10 =>
   ck (([45]:Bytes).length+r10.length≤9223372036854775807) <|
   some (([45]:Bytes)++r10)
  else
   if n_0 < 0 then
    ck ((10:Int)≠0) <|
    ((dN n) (IntKind.wrap .i64 (n_0.tdiv 10))).bind λ r15 =>
    ck ((10:Int)≠0) <|
    ck (inR (0 - (n_0.tmod 10))) <|
    ((dN n) (0 - (n_0.tmod 10))).bind λ r19 =>
    ck (r15.length+r19.length≤9223372036854775807) <|
    some (r15++r19)
   else
    ck ((10:Int)≠0) <|
    ((dN n) (IntKind.wrap .i64 (n_0.tdiv 10))).bind λ r23 =>
    ck ((10:Int)≠0) <|
    ((dN n) (n_0.tmod 10)).bind λ r26 =>
    ck (r23.length+r26.length≤9223372036854775807) <|
    some (r23++r26)
set_option maxHeartbeats 4000000 in
theorem rQ (n:Nat):∀ (n_0:Int) (r:Bytes),dN n n_0=some r→aB Tryz.prog 80 [eI n_0] (·=.p (eS r)):=by
 induction n with
 | zero=>intro n_0 r h0; cases h0
 | succ n ih =>
 have ih_ref01_Format_ok:=ih
 intro n_0 r h0
 rw [dN] at h0
 refine aU good Tryz.func80 rfl rfl rfl λ w0=>mP (λ v:Bytes=>.p (eS v)) ?_
 refine nx 6 rfl (bd h0 λ o31 h1 h0=>?_)
 refine kN o31 (λ v32=>⟨[(0,.p (eI n_0)),(8,.p (eB v32))],[]⟩) ?_ ?_
 ·refine nx 1 rfl (fB [8] h0 rfl (λ c3 h0=>?_) λ c3 h0=>?_)
  ·refine nx 4 rfl (oA h0 rfl rfl λ hk4 h0=>?_)
   refine nx 1 rfl (cc' h0 λ hk5 h0=>?_)
   refine mO rfl (bS eU [u8 (IntKind.wrap .u8 (48+n_0))] rfl rfl rfl rfl rfl rfl rfl rfl rfl rfl rfl rfl rfl (congr (congrArg List.cons (gS hk5)) rfl) ?_)
   refine mO rfl (kA [u8 (IntKind.wrap .u8 (48+n_0))] rfl rfl rfl rfl rfl rfl rfl rfl rfl rfl rfl ?_)
   exact nx 3 rfl (mQ (oi h0) rfl (sr))
  refine nx 4 rfl (bd h0 λ o33 h1 h0=>?_)
  refine kN o33 (λ v34=>⟨[(0,.p (eI n_0)),(19,.p (eB v34))],[]⟩) ?_ ?_
  ·refine nx 1 rfl (fB [19] h0 rfl (λ c8 h0=>?_) λ c8 h0=>?_)
   ·refine nx 4 rfl (cc' h0 λ hk9 h0=>?_)
    refine mO rfl (wX rfl rfl rfl rfl hk9 ?_)
    refine bd h0 λ r10 e11 h0=>oK (ih_ref01_Format_ok (0 - n_0) _ e11) rfl ⟨sr,trivial⟩ Tryz.call80 rfl (oC h0 rfl λ hk12 h0=>?_)
    exact nx 3 rfl (mQ (oi h0) rfl (sr))
   refine nx 8 rfl (fD [25] h0 rfl (λ c13 h0=>?_) λ c13 h0=>?_)
   ·refine nx 4 rfl (cc' h0 λ hk14 h0=>?_)
    refine mO rfl (pj rfl rfl rfl rfl rfl rfl hk14 ?_)
    refine bd h0 λ r15 e16 h0=>oK (ih_ref01_Format_ok (IntKind.wrap .i64 (n_0.tdiv 10)) _ e16) rfl ⟨sr,trivial⟩ Tryz.call80 rfl (nx 1 rfl ?_)
    refine cc' h0 λ hk17 h0=>mO rfl (pj rfl rfl rfl rfl rfl rfl hk17 ?_)
    refine cc' h0 λ hk18 h0=>mO rfl (wX rfl rfl rfl rfl hk18 ?_)
    refine bd h0 λ r19 e20 h0=>oK (ih_ref01_Format_ok (0 - (n_0.tmod 10)) _ e20) rfl ⟨sr,trivial⟩ Tryz.call80 rfl (oC h0 rfl λ hk21 h0=>?_)
    exact nx 3 rfl (mQ (oi h0) rfl (sr))
   refine nx 5 rfl (cc' h0 λ hk22 h0=>?_)
   refine mO rfl (pj rfl rfl rfl rfl rfl rfl hk22 ?_)
   refine bd h0 λ r23 e24 h0=>oK (ih_ref01_Format_ok (IntKind.wrap .i64 (n_0.tdiv 10)) _ e24) rfl ⟨sr,trivial⟩ Tryz.call80 rfl (nx 1 rfl ?_)
   refine cc' h0 λ hk25 h0=>mO rfl (pj rfl rfl rfl rfl rfl rfl hk25 ?_)
   refine bd h0 λ r26 e27 h0=>oK (ih_ref01_Format_ok (n_0.tmod 10) _ e27) rfl ⟨sr,trivial⟩ Tryz.call80 rfl (oC h0 rfl λ hk28 h0=>?_)
   exact nx 3 rfl (mQ (oi h0) rfl (sr))
  refine nx 4 rfl (fD [15,16] h1 rfl (λ c6 h1=>?_) λ c6 h1=>?_)
  ·exact nx 4 rfl (eX _ (oi h1).symm (gE rfl rfl))
  exact nx 4 rfl (eX _ (oi h1).symm (gE rfl rfl))
 refine nx 4 rfl (fD [4,5] h1 rfl (λ c1 h1=>?_) λ c1 h1=>?_)
 ·exact nx 4 rfl (eX _ (oi h1).symm (gE rfl rfl))
 exact nx 4 rfl (eX _ (oi h1).symm (gE rfl rfl))
def ea (s_0:Bytes)(i_1:Int)(lo_2:Int)(hi_3:Int):Option Bool :=
 (
   if i_1 < (s_0.length:Int) then
    ck ((0:Int)≤i_1∧i_1 < (s_0.length:Int)) <|
    if lo_2≤byt s_0 i_1 then
     ck ((0:Int)≤i_1∧i_1 < (s_0.length:Int)) <|
     some (decide (byt s_0 i_1≤hi_3))
    else
     some false
   else
    some false
  : Option Bool).bind λ t5 =>
 some t5
set_option maxHeartbeats 4000000 in
theorem gD (s_0:Bytes)(i_1:Int)(lo_2:Int)(hi_3:Int)(r:Bool)(h0:ea s_0 i_1 lo_2 hi_3=some r):aB Tryz.prog 135 [eS s_0,eI i_1,eK .u8 lo_2,eK .u8 hi_3] (·=.p (eB r)):=by
 unfold ea at h0
 refine aU good Tryz.func135 rfl rfl rfl λ w0=>mP (λ v:Bool=>.p (eB v)) ?_
 refine nx 5 rfl (bd h0 λ o7 h1 h0=>?_)
 refine kN o7 (λ v8=>⟨[(8,.p (eB v8))],[]⟩) ?_ ?_
 ·exact nx 2 rfl (mQ (oi h0) rfl (sr))
 refine nx 3 rfl (oLs rfl ?_)
 refine nx 2 rfl (fD [12,13] h1 rfl (λ c1 h1=>?_) λ c1 h1=>?_)
 ·refine nx 2 rfl (oI h1 rfl λ hk2 h1=>?_)
  refine nx 4 rfl (fD [18,19,20] h1 rfl (λ c3 h1=>?_) λ c3 h1=>?_)
  ·refine nx 2 rfl (oI h1 rfl λ hk4 h1=>?_)
   exact nx 5 rfl (eX _ (oi h1).symm (gE rfl rfl))
  exact nx 8 rfl (eX _ (oi h1).symm (gE rfl rfl))
 exact nx 15 rfl (eX _ (oi h1).symm (gE rfl rfl))
def g9 (s_0:Bytes)(i_1:Int):Option (Int×Int) :=
 (
   if i_1 < 0 then
    some true
   else
    some (decide ((s_0.length:Int)≤i_1))
  : Option Bool).bind λ t2 =>
 if t2=true then
  some (0,0)
 else
  ck ((0:Int)≤i_1∧i_1 < (s_0.length:Int)) <|
  if byt s_0 i_1 < 128 then
   ck (inR (byt s_0 i_1)) <|
   some (byt s_0 i_1,1)
  else
   (
     if 194≤byt s_0 i_1 then
      if byt s_0 i_1≤223 then
       ck (inR (i_1+1)) <|
       (ea s_0 (i_1+1) 128 191).bind λ r10 =>
       some r10
      else
       some false
     else
      some false
    : Option Bool).bind λ t12 =>
   if t12=true then
    ck (inR (bz .u8 (byt s_0 i_1) 31)) <|
    ck ((0:Int)≤6) <|
    ck (inR (i_1+1)) <|
    ck ((0:Int)≤i_1+1∧i_1+1 < (s_0.length:Int)) <|
    ck (inR (bz .u8 (byt s_0 (i_1+1)) 63)) <|
    some (iOr .i64 (iY .i64 (bz .u8 (byt s_0 i_1) 31) 6) (bz .u8 (byt s_0 (i_1+1)) 63),2)
   else
    (
      if byt s_0 i_1=224 then
       some 160
      else
       some 128
     : Option Int).bind λ lo20 =>
    (
      if byt s_0 i_1=237 then
       some 159
      else
       some 191
     : Option Int).bind λ hi22 =>
    (
      if 224≤byt s_0 i_1 then
       if byt s_0 i_1≤239 then
        ck (inR (i_1+1)) <|
        (ea s_0 (i_1+1) lo20 hi22).bind λ r26 =>
        if r26=true then
         ck (inR (i_1+2)) <|
         (ea s_0 (i_1+2) 128 191).bind λ r30 =>
         some r30
        else
         some false
       else
        some false
      else
       some false
     : Option Bool).bind λ t32 =>
    if t32=true then
     ck (inR (bz .u8 (byt s_0 i_1) 15)) <|
     ck ((0:Int)≤12) <|
     ck (inR (i_1+1)) <|
     ck ((0:Int)≤i_1+1∧i_1+1 < (s_0.length:Int)) <|
     ck (inR (bz .u8 (byt s_0 (i_1+1)) 63)) <|
     ck ((0:Int)≤6) <|
     ck (inR (i_1+2)) <|
     ck ((0:Int)≤i_1+2∧i_1+2 < (s_0.length:Int)) <|
     ck (inR (bz .u8 (byt s_0 (i_1+2)) 63)) <|
     some (iOr .i64 (iOr .i64 (iY .i64 (bz .u8 (byt s_0 i_1) 15) 12) (iY .i64 (bz .u8 (byt s_0 (i_1+1)) 63) 6)) (bz .u8 (byt s_0 (i_1+2)) 63),3)
    else
     (
       if byt s_0 i_1=240 then
        some 144
       else
        some 128
      : Option Int).bind λ lo44 =>
     (
       if byt s_0 i_1=244 then
        some 143
       else
        some 191
      : Option Int).bind λ hi46 =>
     (
       if 240≤byt s_0 i_1 then
        if byt s_0 i_1≤244 then
         ck (inR (i_1+1)) <|
         (ea s_0 (i_1+1) lo44 hi46).bind λ r50 =>
         if r50=true then
          ck (inR (i_1+2)) <|
          (ea s_0 (i_1+2) 128 191).bind λ r54 =>
          if r54=true then
           ck (inR (i_1+3)) <|
           (ea s_0 (i_1+3) 128 191).bind λ r58 =>
           some r58
          else
           some false
         else
          some false
        else
         some false
       else
        some false
      : Option Bool).bind λ t60 =>
     if t60=true then
      ck (inR (bz .u8 (byt s_0 i_1) 7)) <|
      ck ((0:Int)≤18) <|
      ck (inR (i_1+1)) <|
      ck ((0:Int)≤i_1+1∧i_1+1 < (s_0.length:Int)) <|
      ck (inR (bz .u8 (byt s_0 (i_1+1)) 63)) <|
      ck ((0:Int)≤12) <|
      ck (inR (i_1+2)) <|
      ck ((0:Int)≤i_1+2∧i_1+2 < (s_0.length:Int)) <|
      ck (inR (bz .u8 (byt s_0 (i_1+2)) 63)) <|
      ck ((0:Int)≤6) <|
      ck (inR (i_1+3)) <|
      ck ((0:Int)≤i_1+3∧i_1+3 < (s_0.length:Int)) <|
      ck (inR (bz .u8 (byt s_0 (i_1+3)) 63)) <|
      some (iOr .i64 (iOr .i64 (iOr .i64 (iY .i64 (bz .u8 (byt s_0 i_1) 7) 18) (iY .i64 (bz .u8 (byt s_0 (i_1+1)) 63) 12)) (iY .i64 (bz .u8 (byt s_0 (i_1+2)) 63) 6)) (bz .u8 (byt s_0 (i_1+3)) 63),4)
     else
      some (0,0)
set_option maxHeartbeats 4000000 in
theorem ni (s_0:Bytes)(i_1:Int)(r:Int×Int)(h0:g9 s_0 i_1=some r):aB Tryz.prog 121 [eS s_0,eI i_1] (·=.tuple [.p (eI r.1),.p (eI r.2)]):=by
 unfold g9 at h0
 refine aU good Tryz.func121 rfl rfl rfl λ w0=>mP (λ v:Int×Int=>.tuple [.p (eI v.1),.p (eI v.2)]) ?_
 refine nx 7 rfl (bd h0 λ o83 h1 h0=>?_)
 refine kN o83 (λ v84=>⟨[(0,.p (eS s_0)),(1,.p (eI i_1)),(16,.p (eB v84))],[]⟩) ?_ ?_
 ·refine nx 1 rfl (fB [16] h0 rfl (λ c3 h0=>?_) λ c3 h0=>?_)
  ·exact nx 7 rfl (mQ (oi h0) rfl (az ⟨sr,sr,trivial⟩))
  refine nx 6 rfl (oI h0 rfl λ hk4 h0=>?_)
  refine nx 8 rfl (fD [21] h0 rfl (λ c5 h0=>?_) λ c5 h0=>?_)
  ·refine nx 4 rfl (cc' h0 λ hk6 h0=>?_)
   refine mO rfl (dy rfl rfl rfl rfl rfl rfl rfl rfl (fY hk6) ?_)
   exact nx 4 rfl (mQ (oi h0) rfl (az ⟨sr,sr,trivial⟩))
  refine nx 4 rfl (bd h0 λ o85 h1 h0=>?_)
  refine kN o85 (λ v86=>⟨[(0,.p (eS s_0)),(1,.p (eI i_1)),(6,.p (eK .u8 (byt s_0 i_1))),(35,.p (eB v86))],[]⟩) ?_ ?_
  ·refine nx 1 rfl (fB [35] h0 rfl (λ c13 h0=>?_) λ c13 h0=>?_)
   ·refine nx 5 rfl (cc' h0 λ hk14 h0=>?_)
    refine mO rfl (dy rfl rfl rfl rfl rfl rfl rfl rfl (fY hk14) ?_)
    refine cc' h0 λ hk15 h0=>mO rfl (jz rfl rfl rfl rfl rfl rfl hk15 ?_)
    refine nx 2 rfl (oA h0 rfl rfl λ hk16 h0=>?_)
    refine oI h0 rfl λ hk17 h0=>nx 1 rfl (cc' h0 λ hk18 h0=>?_)
    refine mO rfl (dy rfl rfl rfl rfl rfl rfl rfl rfl (fY hk18) ?_)
    exact nx 5 rfl (mQ (oi h0) rfl (az ⟨sr,sr,trivial⟩))
   refine nx 8 rfl (bd h0 λ o87 h1 h0=>?_)
   refine kN o87 (λ v88=>⟨[(0,.p (eS s_0)),(1,.p (eI i_1)),(6,.p (eK .u8 (byt s_0 i_1))),(7,.p (eK .u8 v88)),(8,.p (eK .u8 191))],[]⟩) ?_ ?_
   ·refine nx 2 rfl (bd h0 λ o89 h1 h0=>?_)
    refine kN o89 (λ v90=>⟨[(0,.p (eS s_0)),(1,.p (eI i_1)),(6,.p (eK .u8 (byt s_0 i_1))),(7,.p (eK .u8 o87)),(8,.p (eK .u8 v90))],[]⟩) ?_ ?_
    ·refine nx 3 rfl (bd h0 λ o91 h1 h0=>?_)
     refine kN o91 (λ v92=>⟨[(0,.p (eS s_0)),(1,.p (eI i_1)),(6,.p (eK .u8 (byt s_0 i_1))),(70,.p (eB v92))],[]⟩) ?_ ?_
     ·refine nx 1 rfl (fB [70] h0 rfl (λ c33 h0=>?_) λ c33 h0=>?_)
      ·refine nx 2 rfl (cc' h0 λ hk34 h0=>?_)
       refine cc' h0 λ hk35 h0=>cc' h0 λ hk36 h0=>cc' h0 λ hk37 h0=>cc' h0 λ hk38 h0=>cc' h0 λ hk39 h0=>cc' h0 λ hk40 h0=>cc' h0 λ hk41 h0=>cc' h0 λ hk42 h0=>mD [(0,.p (eS s_0)),(1,.p (eI i_1)),(6,.p (eK .u8 (byt s_0 i_1)))] rfl ⟨rfl,rfl,rfl,trivial⟩ rfl (dR 2 rfl ?_)
       refine dq (.p (eI (bz .u8 (byt s_0 i_1) 15))) [72] rfl (λ _ e _ q=>af rfl (dy rfl rfl rfl rfl rfl rfl rfl (e _ _ rfl) (fY hk34) q)) rfl (dq (.p (eI (iY .i64 (bz .u8 (byt s_0 i_1) 15) 12))) [73] rfl (λ _ e _ q=>af rfl (jz rfl rfl rfl (e _ _ rfl) rfl rfl hk35 q)) rfl ?_)
       refine dR 2 rfl (dq (.p (eI (i_1+1))) [76] rfl (λ _ e _ q=>af rfl (iS rfl rfl rfl (e _ _ rfl) rfl rfl hk36 q)) rfl ?_)
       refine dq (.p (eK .u8 (byt s_0 (i_1+1)))) [75,77] rfl (λ _ e _ q=>af rfl (g8 rfl rfl rfl rfl rfl (e _ _ rfl) (e _ _ rfl) hk37 q)) rfl (dR 1 rfl ?_)
       refine dq (.p (eI (bz .u8 (byt s_0 (i_1+1)) 63))) [79] rfl (λ _ e _ q=>af rfl (dy rfl rfl rfl rfl rfl rfl rfl (e _ _ rfl) (fY hk38) q)) rfl (dq (.p (eI (iY .i64 (bz .u8 (byt s_0 (i_1+1)) 63) 6))) [80] rfl (λ _ e _ q=>af rfl (jz rfl rfl rfl (e _ _ rfl) rfl rfl hk39 q)) rfl ?_)
       refine dR 3 rfl (dq (.p (eI (i_1+2))) [84] rfl (λ _ e _ q=>af rfl (iS rfl rfl rfl (e _ _ rfl) rfl rfl hk40 q)) rfl ?_)
       refine dq (.p (eK .u8 (byt s_0 (i_1+2)))) [83,85] rfl (λ _ e _ q=>af rfl (g8 rfl rfl rfl rfl rfl (e _ _ rfl) (e _ _ rfl) hk41 q)) rfl (dR 1 rfl ?_)
       refine dq (.p (eI (bz .u8 (byt s_0 (i_1+2)) 63))) [87] rfl (λ _ e _ q=>af rfl (dy rfl rfl rfl rfl rfl rfl rfl (e _ _ rfl) (fY hk42) q)) rfl (dR 3 rfl ?_)
       refine dE rfl (nx 2 rfl ?_)
       exact mQ (oi h0) rfl (az ⟨sr,sr,trivial⟩)
      refine nx 8 rfl (bd h0 λ o93 h1 h0=>?_)
      refine kN o93 (λ v94=>⟨[(0,.p (eS s_0)),(1,.p (eI i_1)),(6,.p (eK .u8 (byt s_0 i_1))),(7,.p (eK .u8 v94)),(8,.p (eK .u8 191))],[]⟩) ?_ ?_
      ·refine nx 2 rfl (bd h0 λ o95 h1 h0=>?_)
       refine kN o95 (λ v96=>⟨[(0,.p (eS s_0)),(1,.p (eI i_1)),(6,.p (eK .u8 (byt s_0 i_1))),(7,.p (eK .u8 o93)),(8,.p (eK .u8 v96))],[]⟩) ?_ ?_
       ·refine nx 3 rfl (bd h0 λ o97 h1 h0=>?_)
        refine kN o97 (λ v98=>⟨[(0,.p (eS s_0)),(1,.p (eI i_1)),(6,.p (eK .u8 (byt s_0 i_1))),(119,.p (eB v98))],[]⟩) ?_ ?_
        ·refine nx 1 rfl (fB [119] h0 rfl (λ c61 h0=>?_) λ c61 h0=>?_)
         ·refine nx 2 rfl (cc' h0 λ hk62 h0=>?_)
          refine cc' h0 λ hk63 h0=>cc' h0 λ hk64 h0=>cc' h0 λ hk65 h0=>cc' h0 λ hk66 h0=>cc' h0 λ hk67 h0=>cc' h0 λ hk68 h0=>cc' h0 λ hk69 h0=>cc' h0 λ hk70 h0=>cc' h0 λ hk71 h0=>cc' h0 λ hk72 h0=>cc' h0 λ hk73 h0=>cc' h0 λ hk74 h0=>?_
          refine mD [(0,.p (eS s_0)),(1,.p (eI i_1)),(6,.p (eK .u8 (byt s_0 i_1)))] rfl ⟨rfl,rfl,rfl,trivial⟩ rfl (dR 2 rfl ?_)
          refine dq (.p (eI (bz .u8 (byt s_0 i_1) 7))) [121] rfl (λ _ e _ q=>af rfl (dy rfl rfl rfl rfl rfl rfl rfl (e _ _ rfl) (fY hk62) q)) rfl (dq (.p (eI (iY .i64 (bz .u8 (byt s_0 i_1) 7) 18))) [122] rfl (λ _ e _ q=>af rfl (jz rfl rfl rfl (e _ _ rfl) rfl rfl hk63 q)) rfl ?_)
          refine dR 2 rfl (dq (.p (eI (i_1+1))) [125] rfl (λ _ e _ q=>af rfl (iS rfl rfl rfl (e _ _ rfl) rfl rfl hk64 q)) rfl ?_)
          refine dq (.p (eK .u8 (byt s_0 (i_1+1)))) [124,126] rfl (λ _ e _ q=>af rfl (g8 rfl rfl rfl rfl rfl (e _ _ rfl) (e _ _ rfl) hk65 q)) rfl (dR 1 rfl ?_)
          refine dq (.p (eI (bz .u8 (byt s_0 (i_1+1)) 63))) [128] rfl (λ _ e _ q=>af rfl (dy rfl rfl rfl rfl rfl rfl rfl (e _ _ rfl) (fY hk66) q)) rfl (dq (.p (eI (iY .i64 (bz .u8 (byt s_0 (i_1+1)) 63) 12))) [129] rfl (λ _ e _ q=>af rfl (jz rfl rfl rfl (e _ _ rfl) rfl rfl hk67 q)) rfl ?_)
          refine dR 3 rfl (dq (.p (eI (i_1+2))) [133] rfl (λ _ e _ q=>af rfl (iS rfl rfl rfl (e _ _ rfl) rfl rfl hk68 q)) rfl ?_)
          refine dq (.p (eK .u8 (byt s_0 (i_1+2)))) [132,134] rfl (λ _ e _ q=>af rfl (g8 rfl rfl rfl rfl rfl (e _ _ rfl) (e _ _ rfl) hk69 q)) rfl (dR 1 rfl ?_)
          refine dq (.p (eI (bz .u8 (byt s_0 (i_1+2)) 63))) [136] rfl (λ _ e _ q=>af rfl (dy rfl rfl rfl rfl rfl rfl rfl (e _ _ rfl) (fY hk70) q)) rfl (dq (.p (eI (iY .i64 (bz .u8 (byt s_0 (i_1+2)) 63) 6))) [137] rfl (λ _ e _ q=>af rfl (jz rfl rfl rfl (e _ _ rfl) rfl rfl hk71 q)) rfl ?_)
          refine dR 3 rfl (dq (.p (eI (i_1+3))) [141] rfl (λ _ e _ q=>af rfl (iS rfl rfl rfl (e _ _ rfl) rfl rfl hk72 q)) rfl ?_)
          refine dq (.p (eK .u8 (byt s_0 (i_1+3)))) [140,142] rfl (λ _ e _ q=>af rfl (g8 rfl rfl rfl rfl rfl (e _ _ rfl) (e _ _ rfl) hk73 q)) rfl (dR 1 rfl ?_)
          refine dq (.p (eI (bz .u8 (byt s_0 (i_1+3)) 63))) [144] rfl (λ _ e _ q=>af rfl (dy rfl rfl rfl rfl rfl rfl rfl (e _ _ rfl) (fY hk74) q)) rfl (dR 3 rfl ?_)
          refine dE rfl (nx 1 rfl ?_)
          refine mG (gE (t:=⟨[(4,.p (eI (iOr .i64 (iOr .i64 (iOr .i64 (iY .i64 (bz .u8 (byt s_0 i_1) 7) 18) (iY .i64 (bz .u8 (byt s_0 (i_1+1)) 63) 12)) (iY .i64 (bz .u8 (byt s_0 (i_1+2)) 63) 6)) (bz .u8 (byt s_0 (i_1+3)) 63)))),(5,.p (eI 4))],[]⟩) rfl rfl) (nx 1 rfl ?_)
          exact mQ (oi h0) rfl (az ⟨sr,sr,trivial⟩)
         exact nx 8 rfl (mQ (oi h0) rfl (az ⟨sr,sr,trivial⟩))
        refine nx 4 rfl (fD [95,96] h1 rfl (λ c47 h1=>?_) λ c47 h1=>?_)
        ·refine nx 4 rfl (fD [98,99,100] h1 rfl (λ c48 h1=>?_) λ c48 h1=>?_)
         ·refine nx 2 rfl (oA h1 rfl rfl λ hk49 h1=>?_)
          refine nx 2 rfl (bd h1 λ r50 e51 h1=>?_)
          refine oK (gD s_0 (i_1+1) o93 o95 _ e51) rfl ⟨sr,sr,sr,sr,trivial⟩ Tryz.call135 rfl (nx 2 rfl ?_)
          refine fB [106,107,108] h1 rfl (λ c52 h1=>?_) λ c52 h1=>?_
          ·refine nx 2 rfl (oA h1 rfl rfl λ hk53 h1=>?_)
           refine bd h1 λ r54 e55 h1=>oK (gD s_0 (i_1+2) 128 191 _ e55) rfl ⟨sr,sr,sr,sr,trivial⟩ Tryz.call135 rfl (nx 2 rfl ?_)
           refine fB [112,113,114] h1 rfl (λ c56 h1=>?_) λ c56 h1=>?_
           ·refine nx 2 rfl (oA h1 rfl rfl λ hk57 h1=>?_)
            refine bd h1 λ r58 e59 h1=>oK (gD s_0 (i_1+3) 128 191 _ e59) rfl ⟨sr,sr,sr,sr,trivial⟩ Tryz.call135 rfl (nx 2 rfl ?_)
            exact eX _ (oi h1).symm (gE rfl rfl)
           exact nx 6 rfl (eX _ (oi h1).symm (gE rfl rfl))
          exact nx 12 rfl (eX _ (oi h1).symm (gE rfl rfl))
         exact nx 20 rfl (eX _ (oi h1).symm (gE rfl rfl))
        exact nx 24 rfl (eX _ (oi h1).symm (gE rfl rfl))
       refine nx 5 rfl (fD [93] h1 rfl (λ c45 h1=>?_) λ c45 h1=>?_)
       ·exact nx 4 rfl (eX _ (oi h1).symm (gE rfl rfl))
       exact nx 2 rfl (eX _ (oi h1).symm (gE rfl rfl))
      refine nx 5 rfl (fD [91] h1 rfl (λ c43 h1=>?_) λ c43 h1=>?_)
      ·exact nx 4 rfl (eX _ (oi h1).symm (gE rfl rfl))
      exact nx 2 rfl (eX _ (oi h1).symm (gE rfl rfl))
     refine nx 4 rfl (fD [52,53] h1 rfl (λ c23 h1=>?_) λ c23 h1=>?_)
     ·refine nx 4 rfl (fD [55,56,57] h1 rfl (λ c24 h1=>?_) λ c24 h1=>?_)
      ·refine nx 2 rfl (oA h1 rfl rfl λ hk25 h1=>?_)
       refine nx 2 rfl (bd h1 λ r26 e27 h1=>?_)
       refine oK (gD s_0 (i_1+1) o87 o89 _ e27) rfl ⟨sr,sr,sr,sr,trivial⟩ Tryz.call135 rfl (nx 2 rfl ?_)
       refine fB [63,64,65] h1 rfl (λ c28 h1=>?_) λ c28 h1=>?_
       ·refine nx 2 rfl (oA h1 rfl rfl λ hk29 h1=>?_)
        refine bd h1 λ r30 e31 h1=>oK (gD s_0 (i_1+2) 128 191 _ e31) rfl ⟨sr,sr,sr,sr,trivial⟩ Tryz.call135 rfl (nx 2 rfl ?_)
        exact eX _ (oi h1).symm (gE rfl rfl)
       exact nx 6 rfl (eX _ (oi h1).symm (gE rfl rfl))
      exact nx 14 rfl (eX _ (oi h1).symm (gE rfl rfl))
     exact nx 18 rfl (eX _ (oi h1).symm (gE rfl rfl))
    refine nx 5 rfl (fD [50] h1 rfl (λ c21 h1=>?_) λ c21 h1=>?_)
    ·exact nx 4 rfl (eX _ (oi h1).symm (gE rfl rfl))
    exact nx 2 rfl (eX _ (oi h1).symm (gE rfl rfl))
   refine nx 5 rfl (fD [48] h1 rfl (λ c19 h1=>?_) λ c19 h1=>?_)
   ·exact nx 4 rfl (eX _ (oi h1).symm (gE rfl rfl))
   exact nx 2 rfl (eX _ (oi h1).symm (gE rfl rfl))
  refine nx 4 rfl (fD [25,26] h1 rfl (λ c7 h1=>?_) λ c7 h1=>?_)
  ·refine nx 4 rfl (fD [28,29,30] h1 rfl (λ c8 h1=>?_) λ c8 h1=>?_)
   ·refine nx 2 rfl (oA h1 rfl rfl λ hk9 h1=>?_)
    refine bd h1 λ r10 e11 h1=>oK (gD s_0 (i_1+1) 128 191 _ e11) rfl ⟨sr,sr,sr,sr,trivial⟩ Tryz.call135 rfl (nx 2 rfl ?_)
    exact eX _ (oi h1).symm (gE rfl rfl)
   exact nx 6 rfl (eX _ (oi h1).symm (gE rfl rfl))
  exact nx 10 rfl (eX _ (oi h1).symm (gE rfl rfl))
 refine nx 4 rfl (fD [10,11] h1 rfl (λ c1 h1=>?_) λ c1 h1=>?_)
 ·exact nx 6 rfl (eX _ (oi h1).symm (gE rfl rfl))
 refine nx 2 rfl (oLs rfl ?_)
 exact nx 3 rfl (eX _ (oi h1).symm (gE rfl rfl))
def kI (b_0:Int):Option Int :=
 (
   if 48≤b_0 then
    some (decide (b_0≤57))
   else
    some false
  : Option Bool).bind λ t2 =>
 if t2=true then
  ck (inR (IntKind.wrap .u8 (b_0 - 48))) <|
  some (IntKind.wrap .u8 (b_0 - 48))
 else
  (
    if 97≤b_0 then
     some (decide (b_0≤102))
    else
     some false
   : Option Bool).bind λ t6 =>
  if t6=true then
   ck (inR (IntKind.wrap .u8 (b_0 - 97))) <|
   ck (inR ((IntKind.wrap .u8 (b_0 - 97))+10)) <|
   some ((IntKind.wrap .u8 (b_0 - 97))+10)
  else
   some (-1)
set_option maxHeartbeats 4000000 in
theorem pZ (b_0:Int)(r:Int)(h0:kI b_0=some r):aB Tryz.prog 149 [eK .u8 b_0] (·=.p (eI r)):=by
 unfold kI at h0
 refine aU good Tryz.func149 rfl rfl rfl λ w0=>mP (λ v:Int=>.p (eI v)) ?_
 refine nx 6 rfl (bd h0 λ o12 h1 h0=>?_)
 refine kN o12 (λ v13=>⟨[(0,.p (eK .u8 b_0)),(8,.p (eB v13))],[]⟩) ?_ ?_
 ·refine nx 1 rfl (fB [8] h0 rfl (λ c3 h0=>?_) λ c3 h0=>?_)
  ·refine nx 5 rfl (cc' h0 λ hk4 h0=>?_)
   refine mO rfl (dy rfl rfl rfl rfl rfl rfl rfl rfl (fY hk4) ?_)
   exact nx 3 rfl (mQ (oi h0) rfl (sr))
  refine nx 4 rfl (bd h0 λ o14 h1 h0=>?_)
  refine kN o14 (λ v15=>⟨[(0,.p (eK .u8 b_0)),(17,.p (eB v15))],[]⟩) ?_ ?_
  ·refine nx 1 rfl (fB [17] h0 rfl (λ c7 h0=>?_) λ c7 h0=>?_)
   ·refine nx 5 rfl (cc' h0 λ hk8 h0=>?_)
    refine mO rfl (dy rfl rfl rfl rfl rfl rfl rfl rfl (fY hk8) ?_)
    exact oA h0 rfl rfl λ hk9 h0=>nx 3 rfl (mQ (oi h0) rfl (sr))
   exact nx 7 rfl (mQ (oi h0) rfl (sr))
  refine nx 4 rfl (fD [13,14] h1 rfl (λ c5 h1=>?_) λ c5 h1=>?_)
  ·exact nx 4 rfl (eX _ (oi h1).symm (gE rfl rfl))
  exact nx 4 rfl (eX _ (oi h1).symm (gE rfl rfl))
 refine nx 4 rfl (fD [4,5] h1 rfl (λ c1 h1=>?_) λ c1 h1=>?_)
 ·exact nx 4 rfl (eX _ (oi h1).symm (gE rfl rfl))
 exact nx 4 rfl (eX _ (oi h1).symm (gE rfl rfl))
def eq (s_0:Bytes)(i_1:Int):Nat→Int→Int→Option (Int×Int)
 | 0,_,_=>none
 | m+1,c19,n20 =>
 (
   ck (inR (i_1+n20)) <|
   if i_1+n20 < (s_0.length:Int) then
    if n20 < 6 then
     ck (inR (i_1+n20)) <|
     ck ((0:Int)≤i_1+n20∧i_1+n20 < (s_0.length:Int)) <|
     (kI (byt s_0 (i_1+n20))).bind λ r26 =>
     some (decide (0≤r26))
    else
     some false
   else
    some false
  : Option Bool).bind λ t28 =>
 if t28=true then
  ck (inR (16*c19)) <|
  ck (inR (i_1+n20)) <|
  ck ((0:Int)≤i_1+n20∧i_1+n20 < (s_0.length:Int)) <|
  (kI (byt s_0 (i_1+n20))).bind λ r33 =>
  ck (inR ((16*c19)+r33)) <|
  ck (inR (n20+1)) <|
  eq s_0 i_1 m ((16*c19)+r33) (n20+1)
 else
  some (c19,n20)
def j2 (n:Nat)(s_0:Bytes)(i_1:Int):Option (Int×Int×Int) :=
 (eq s_0 i_1 n 0 0).bind λ q58 =>
 ck (inR (i_1+q58.2)) <|
 if (s_0.length:Int)≤i_1+q58.2 then
  some (0,0,40)
 else
  (
    if q58.2=0 then
     some true
    else
     ck (inR (i_1+q58.2)) <|
     ck ((0:Int)≤i_1+q58.2∧i_1+q58.2 < (s_0.length:Int)) <|
     if byt s_0 (i_1+q58.2)=125 then
      if 1 < q58.2 then
       ck ((0:Int)≤i_1∧i_1 < (s_0.length:Int)) <|
       if byt s_0 i_1=48 then
        some true
       else
        if 1114111 < q58.1 then
         some true
        else
         if 55296≤q58.1 then
          some (decide (q58.1≤57343))
         else
          some false
      else
       if 1114111 < q58.1 then
        some true
       else
        if 55296≤q58.1 then
         some (decide (q58.1≤57343))
        else
         some false
     else
      some true
   : Option Bool).bind λ t54 =>
  if t54=true then
   some (0,0,2)
  else
   ck (inR (i_1+q58.2)) <|
   ck (inR ((i_1+q58.2)+1)) <|
   some (q58.1,(i_1+q58.2)+1,0)
set_option maxHeartbeats 4000000 in
theorem sT (n:Nat)(s_0:Bytes)(i_1:Int)(r:Int×Int×Int)(h0:j2 n s_0 i_1=some r):aB Tryz.prog 145 [eS s_0,eI i_1] (·=.tuple [.p (eI r.1),.p (eI r.2.1),.p (eI r.2.2)]):=by
 unfold j2 at h0
 refine aU good Tryz.func145 rfl rfl rfl λ w0=>mP (λ v:Int×Int×Int=>.tuple [.p (eI v.1),.p (eI v.2.1),.p (eI v.2.2)]) ?_
 refine nx 13 rfl (bd h0 λ o61 h1 h0=>?_)
 refine kE 0 o61 (λ v62=>⟨[(0,.p (eS s_0)),(1,.p (eI i_1)),(7,.p (eI v62.1)),(8,.p (eI v62.2))],[]⟩) ?_ ?_
 ·refine nx 6 rfl (oA h0 rfl rfl λ hk41 h0=>?_)
  refine nx 1 rfl (oLs rfl ?_)
  refine nx 2 rfl (fD [44] h0 rfl (λ c42 h0=>?_) λ c42 h0=>?_)
  ·exact nx 8 rfl (mQ (oi h0) rfl (az ⟨sr,sr,sr,trivial⟩))
  refine nx 4 rfl (bd h0 λ o63 h1 h0=>?_)
  refine kN o63 (λ v64=>⟨[(1,.p (eI i_1)),(7,.p (eI o61.1)),(8,.p (eI o61.2)),(76,.p (eB v64))],[]⟩) ?_ ?_
  ·refine nx 1 rfl (fB [76] h0 rfl (λ c55 h0=>?_) λ c55 h0=>?_)
   ·exact nx 8 rfl (mQ (oi h0) rfl (az ⟨sr,sr,sr,trivial⟩))
   refine nx 7 rfl (oA h0 rfl rfl λ hk56 h0=>?_)
   exact oA h0 rfl rfl λ hk57 h0=>nx 5 rfl (mQ (oi h0) rfl (az ⟨sr,sr,sr,trivial⟩))
  refine nx 4 rfl (fD [46,47] h1 rfl (λ c43 h1=>?_) λ c43 h1=>?_)
  ·exact nx 30 rfl (eX _ (oi h1).symm (gE rfl rfl))
  refine nx 3 rfl (oA h1 rfl rfl λ hk44 h1=>?_)
  refine oI h1 rfl λ hk45 h1=>nx 3 rfl (fN [53,54,55] h1 rfl (λ c46 h1=>?_) λ c46 h1=>?_)
  ·refine nx 3 rfl (fD [57,58] h1 rfl (λ c47 h1=>?_) λ c47 h1=>?_)
   ·refine nx 2 rfl (oI h1 rfl λ hk48 h1=>?_)
    refine nx 4 rfl (fD [62,63,64,65] h1 rfl (λ c49 h1=>?_) λ c49 h1=>?_)
    ·exact nx 12 rfl (eX _ (oi h1).symm (gE rfl rfl))
    refine nx 4 rfl (fD [67,68,69] h1 rfl (λ c50 h1=>?_) λ c50 h1=>?_)
    ·exact nx 8 rfl (eX _ (oi h1).symm (gE rfl rfl))
    refine nx 3 rfl (fD [71,72] h1 rfl (λ c51 h1=>?_) λ c51 h1=>?_)
    ·exact nx 5 rfl (eX _ (oi h1).symm (gE rfl rfl))
    exact nx 5 rfl (eX _ (oi h1).symm (gE rfl rfl))
   refine nx 11 rfl (fD [67,68,69] h1 rfl (λ c52 h1=>?_) λ c52 h1=>?_)
   ·exact nx 8 rfl (eX _ (oi h1).symm (gE rfl rfl))
   refine nx 3 rfl (fD [71,72] h1 rfl (λ c53 h1=>?_) λ c53 h1=>?_)
   ·exact nx 5 rfl (eX _ (oi h1).symm (gE rfl rfl))
   exact nx 5 rfl (eX _ (oi h1).symm (gE rfl rfl))
  exact nx 22 rfl (eX _ (oi h1).symm (gE rfl rfl))
 refine lG (λ (q65:Int×Int)=>⟨[(0,.p (eS s_0)),(1,.p (eI i_1)),(7,.p (eI q65.1)),(8,.p (eI q65.2))],[]⟩) (λ m (q65:Int×Int)=>eq s_0 i_1 m q65.1 q65.2) (λ _=>rfl) (0,0) h1 (gE rfl rfl) ?_
 rintro m ⟨c19,n20⟩ h1
 replace h1:eq s_0 i_1 (m+1) c19 n20=some o61:=h1
 rw [eq] at h1
 refine nx 2 rfl (bd h1 λ o66 h2 h1=>?_)
 refine kN o66 (λ v67=>⟨[(0,.p (eS s_0)),(1,.p (eI i_1)),(7,.p (eI c19)),(8,.p (eI n20)),(27,.p (eB v67))],[]⟩) ?_ ?_
 ·refine nx 1 rfl (fB [27] h1 rfl (λ c29 h1=>?_) λ c29 h1=>?_)
  ·refine nx 6 rfl (oA h1 rfl rfl λ hk30 h1=>?_)
   refine nx 3 rfl (oA h1 rfl rfl λ hk31 h1=>?_)
   refine oI h1 rfl λ hk32 h1=>bd h1 λ r33 e34 h1=>oK (pZ (byt s_0 (i_1+n20)) _ e34) rfl ⟨sr,trivial⟩ Tryz.call149 rfl (oA h1 rfl rfl λ hk35 h1=>?_)
   refine nx 4 rfl (oA h1 rfl rfl λ hk36 h1=>?_)
   exact nx 2 rfl (eX ((16*c19)+r33,n20+1) h1 (gE rfl rfl))
  exact nx 2 rfl (eXi _ (oi h1).symm (gE rfl rfl))
 refine nx 3 rfl (oA h2 rfl rfl λ hk21 h2=>?_)
 refine nx 1 rfl (oLs rfl ?_)
 refine nx 2 rfl (fD [14,15] h2 rfl (λ c22 h2=>?_) λ c22 h2=>?_)
 ·refine nx 4 rfl (fD [17,18,19] h2 rfl (λ c23 h2=>?_) λ c23 h2=>?_)
  ·refine nx 3 rfl (oA h2 rfl rfl λ hk24 h2=>?_)
   refine oI h2 rfl λ hk25 h2=>bd h2 λ r26 e27 h2=>oK (pZ (byt s_0 (i_1+n20)) _ e27) rfl ⟨sr,trivial⟩ Tryz.call149 rfl (nx 3 rfl ?_)
   exact eX _ (oi h2).symm (gE rfl rfl)
  exact nx 9 rfl (eX _ (oi h2).symm (gE rfl rfl))
 exact nx 13 rfl (eX _ (oi h2).symm (gE rfl rfl))
def jl (c_0:Int):Option Bytes :=
 if c_0 < 128 then
  ck ((0:Int)≤IntKind.wrap .u8 (c_0)∧IntKind.wrap .u8 (c_0) < 256) <|
  some [u8 (IntKind.wrap .u8 (c_0))]
 else
  if c_0 < 2048 then
   ck ((0:Int)≤6) <|
   ck ((0:Int)≤IntKind.wrap .u8 (iOr .i64 192 (cK .i64 c_0 6))∧IntKind.wrap .u8 (iOr .i64 192 (cK .i64 c_0 6)) < 256) <|
   ck ((0:Int)≤IntKind.wrap .u8 (iOr .i64 128 (bz .i64 c_0 63))∧IntKind.wrap .u8 (iOr .i64 128 (bz .i64 c_0 63)) < 256) <|
   some [u8 (IntKind.wrap .u8 (iOr .i64 192 (cK .i64 c_0 6))),u8 (IntKind.wrap .u8 (iOr .i64 128 (bz .i64 c_0 63)))]
  else
   if c_0 < 65536 then
    ck ((0:Int)≤12) <|
    ck ((0:Int)≤6) <|
    ck ((0:Int)≤IntKind.wrap .u8 (iOr .i64 224 (cK .i64 c_0 12))∧IntKind.wrap .u8 (iOr .i64 224 (cK .i64 c_0 12)) < 256) <|
    ck ((0:Int)≤IntKind.wrap .u8 (iOr .i64 128 (bz .i64 (cK .i64 c_0 6) 63))∧IntKind.wrap .u8 (iOr .i64 128 (bz .i64 (cK .i64 c_0 6) 63)) < 256) <|
    ck ((0:Int)≤IntKind.wrap .u8 (iOr .i64 128 (bz .i64 c_0 63))∧IntKind.wrap .u8 (iOr .i64 128 (bz .i64 c_0 63)) < 256) <|
    some [u8 (IntKind.wrap .u8 (iOr .i64 224 (cK .i64 c_0 12))),u8 (IntKind.wrap .u8 (iOr .i64 128 (bz .i64 (cK .i64 c_0 6) 63))),u8 (IntKind.wrap .u8 (iOr .i64 128 (bz .i64 c_0 63)))]
   else
    ck ((0:Int)≤18) <|
    ck ((0:Int)≤12) <|
    ck ((0:Int)≤6) <|
    ck ((0:Int)≤IntKind.wrap .u8 (iOr .i64 240 (cK .i64 c_0 18))∧IntKind.wrap .u8 (iOr .i64 240 (cK .i64 c_0 18)) < 256) <|
    ck ((0:Int)≤IntKind.wrap .u8 (iOr .i64 128 (bz .i64 (cK .i64 c_0 12) 63))∧IntKind.wrap .u8 (iOr .i64 128 (bz .i64 (cK .i64 c_0 12) 63)) < 256) <|
    ck ((0:Int)≤IntKind.wrap .u8 (iOr .i64 128 (bz .i64 (cK .i64 c_0 6) 63))∧IntKind.wrap .u8 (iOr .i64 128 (bz .i64 (cK .i64 c_0 6) 63)) < 256) <|
    ck ((0:Int)≤IntKind.wrap .u8 (iOr .i64 128 (bz .i64 c_0 63))∧IntKind.wrap .u8 (iOr .i64 128 (bz .i64 c_0 63)) < 256) <|
    some [u8 (IntKind.wrap .u8 (iOr .i64 240 (cK .i64 c_0 18))),u8 (IntKind.wrap .u8 (iOr .i64 128 (bz .i64 (cK .i64 c_0 12) 63))),u8 (IntKind.wrap .u8 (iOr .i64 128 (bz .i64 (cK .i64 c_0 6) 63))),u8 (IntKind.wrap .u8 (iOr .i64 128 (bz .i64 c_0 63)))]
set_option maxHeartbeats 4000000 in
theorem rK (c_0:Int)(r:Bytes)(h0:jl c_0=some r):aB Tryz.prog 146 [eI c_0] (·=.p (eS r)):=by
 unfold jl at h0
 refine aU good Tryz.func146 rfl rfl rfl λ w0=>mP (λ v:Bytes=>.p (eS v)) ?_
 refine nx 10 rfl (fD [4] h0 rfl (λ c1 h0=>?_) λ c1 h0=>?_)
 ·refine nx 5 rfl (cc' h0 λ hk2 h0=>?_)
  refine mO rfl (bS eU [u8 (IntKind.wrap .u8 (c_0))] rfl rfl rfl rfl rfl rfl rfl rfl rfl rfl rfl rfl rfl (congr (congrArg List.cons (gS hk2)) rfl) ?_)
  refine mO rfl (kA [u8 (IntKind.wrap .u8 (c_0))] rfl rfl rfl rfl rfl rfl rfl rfl rfl rfl rfl ?_)
  exact nx 3 rfl (mQ (oi h0) rfl (sr))
 refine nx 8 rfl (fD [10] h0 rfl (λ c3 h0=>?_) λ c3 h0=>?_)
 ·refine nx 4 rfl (cc' h0 λ hk4 h0=>?_)
  refine mO rfl (jz rfl rfl rfl rfl rfl rfl hk4 ?_)
  refine nx 6 rfl (cc' h0 λ hk6 h0=>?_)
  refine cc' h0 λ hk5 h0=>mO rfl (bS eU [u8 (IntKind.wrap .u8 (iOr .i64 192 (cK .i64 c_0 6))),u8 (IntKind.wrap .u8 (iOr .i64 128 (bz .i64 c_0 63)))] rfl rfl rfl rfl rfl rfl rfl rfl rfl rfl rfl rfl rfl (congr (congrArg List.cons (gS hk6)) (congr (congrArg List.cons (gS hk5)) rfl)) ?_)
  refine mO rfl (kA [u8 (IntKind.wrap .u8 (iOr .i64 192 (cK .i64 c_0 6))),u8 (IntKind.wrap .u8 (iOr .i64 128 (bz .i64 c_0 63)))] rfl rfl rfl rfl rfl rfl rfl rfl rfl rfl rfl ?_)
  exact nx 3 rfl (mQ (oi h0) rfl (sr))
 refine nx 8 rfl (fD [22] h0 rfl (λ c7 h0=>?_) λ c7 h0=>?_)
 ·refine nx 4 rfl (cc' h0 λ hk8 h0=>?_)
  refine mO rfl (jz rfl rfl rfl rfl rfl rfl hk8 ?_)
  refine nx 3 rfl (cc' h0 λ hk9 h0=>?_)
  refine mO rfl (jz rfl rfl rfl rfl rfl rfl hk9 ?_)
  refine nx 7 rfl (cc' h0 λ hk12 h0=>?_)
  refine cc' h0 λ hk11 h0=>cc' h0 λ hk10 h0=>mO rfl (bS eU [u8 (IntKind.wrap .u8 (iOr .i64 224 (cK .i64 c_0 12))),u8 (IntKind.wrap .u8 (iOr .i64 128 (bz .i64 (cK .i64 c_0 6) 63))),u8 (IntKind.wrap .u8 (iOr .i64 128 (bz .i64 c_0 63)))] rfl rfl rfl rfl rfl rfl rfl rfl rfl rfl rfl rfl rfl (congr (congrArg List.cons (gS hk12)) (congr (congrArg List.cons (gS hk11)) (congr (congrArg List.cons (gS hk10)) rfl))) ?_)
  refine mO rfl (kA [u8 (IntKind.wrap .u8 (iOr .i64 224 (cK .i64 c_0 12))),u8 (IntKind.wrap .u8 (iOr .i64 128 (bz .i64 (cK .i64 c_0 6) 63))),u8 (IntKind.wrap .u8 (iOr .i64 128 (bz .i64 c_0 63)))] rfl rfl rfl rfl rfl rfl rfl rfl rfl rfl rfl ?_)
  exact nx 3 rfl (mQ (oi h0) rfl (sr))
 refine nx 5 rfl (cc' h0 λ hk13 h0=>?_)
 refine mO rfl (jz rfl rfl rfl rfl rfl rfl hk13 ?_)
 refine nx 3 rfl (cc' h0 λ hk14 h0=>?_)
 refine mO rfl (jz rfl rfl rfl rfl rfl rfl hk14 ?_)
 refine nx 4 rfl (cc' h0 λ hk15 h0=>?_)
 refine mO rfl (jz rfl rfl rfl rfl rfl rfl hk15 ?_)
 refine nx 7 rfl (cc' h0 λ hk19 h0=>?_)
 refine cc' h0 λ hk18 h0=>cc' h0 λ hk17 h0=>cc' h0 λ hk16 h0=>mO rfl (bS eU [u8 (IntKind.wrap .u8 (iOr .i64 240 (cK .i64 c_0 18))),u8 (IntKind.wrap .u8 (iOr .i64 128 (bz .i64 (cK .i64 c_0 12) 63))),u8 (IntKind.wrap .u8 (iOr .i64 128 (bz .i64 (cK .i64 c_0 6) 63))),u8 (IntKind.wrap .u8 (iOr .i64 128 (bz .i64 c_0 63)))] rfl rfl rfl rfl rfl rfl rfl rfl rfl rfl rfl rfl rfl (congr (congrArg List.cons (gS hk19)) (congr (congrArg List.cons (gS hk18)) (congr (congrArg List.cons (gS hk17)) (congr (congrArg List.cons (gS hk16)) rfl)))) ?_)
 refine mO rfl (kA [u8 (IntKind.wrap .u8 (iOr .i64 240 (cK .i64 c_0 18))),u8 (IntKind.wrap .u8 (iOr .i64 128 (bz .i64 (cK .i64 c_0 12) 63))),u8 (IntKind.wrap .u8 (iOr .i64 128 (bz .i64 (cK .i64 c_0 6) 63))),u8 (IntKind.wrap .u8 (iOr .i64 128 (bz .i64 c_0 63)))] rfl rfl rfl rfl rfl rfl rfl rfl rfl rfl rfl ?_)
 refine nx 2 rfl (mG (gE (t:=⟨[(2,.p (eS [u8 (IntKind.wrap .u8 (iOr .i64 240 (cK .i64 c_0 18))),u8 (IntKind.wrap .u8 (iOr .i64 128 (bz .i64 (cK .i64 c_0 12) 63))),u8 (IntKind.wrap .u8 (iOr .i64 128 (bz .i64 (cK .i64 c_0 6) 63))),u8 (IntKind.wrap .u8 (iOr .i64 128 (bz .i64 c_0 63)))]))],[]⟩) rfl rfl) ?_)
 exact nx 1 rfl (mQ (oi h0) rfl (sr))
def iw (n:Nat)(s_0:Bytes)(i_1:Int):Option (Bytes×Int×Int) :=
 ck (inR (i_1+1)) <|
 if (s_0.length:Int)≤i_1+1 then
  some (([]:Bytes),0,40)
 else
  ck (inR (i_1+1)) <|
  ck ((0:Int)≤i_1+1∧i_1+1 < (s_0.length:Int)) <|
  if byt s_0 (i_1+1)=110 then
   ck (inR (i_1+2)) <|
   some (([10]:Bytes),i_1+2,0)
  else
   if byt s_0 (i_1+1)=114 then
    ck (inR (i_1+2)) <|
    some (([13]:Bytes),i_1+2,0)
   else
    if byt s_0 (i_1+1)=116 then
     ck (inR (i_1+2)) <|
     some (([9]:Bytes),i_1+2,0)
    else
     (
       if byt s_0 (i_1+1)=34 then
        some true
       else
        some (decide (byt s_0 (i_1+1)=92))
      : Option Bool).bind λ t12 =>
     if t12=true then
      ck (inR (i_1+1)) <|
      ck (inR (i_1+2)) <|
      ck ((0:Int)≤i_1+1∧i_1+1≤i_1+2∧i_1+2≤(s_0.length:Int)) <|
      ck (inR (i_1+2)) <|
      some (sub s_0 (i_1+1) (i_1+2),i_1+2,0)
     else
      if byt s_0 (i_1+1)=117 then
       ck (inR (i_1+2)) <|
       if (s_0.length:Int)≤i_1+2 then
        some (([]:Bytes),0,40)
       else
        ck (inR (i_1+2)) <|
        ck ((0:Int)≤i_1+2∧i_1+2 < (s_0.length:Int)) <|
        if byt s_0 (i_1+2)=123 then
         ck (inR (i_1+3)) <|
         (j2 n s_0 (i_1+3)).bind λ r25 =>
         if r25.2.2=0 then
          (jl r25.1).bind λ r28 =>
          some (r28,r25.2.1,0)
         else
          some (([]:Bytes),0,r25.2.2)
        else
         some (([]:Bytes),0,2)
      else
       some (([]:Bytes),0,2)
set_option maxHeartbeats 4000000 in
theorem rb (n:Nat)(s_0:Bytes)(i_1:Int)(r:Bytes×Int×Int)(h0:iw n s_0 i_1=some r):aB Tryz.prog 134 [eS s_0,eI i_1] (·=.tuple [.p (eS r.1),.p (eI r.2.1),.p (eI r.2.2)]):=by
 unfold iw at h0
 refine aU good Tryz.func134 rfl rfl rfl λ w0=>mP (λ v:Bytes×Int×Int=>.tuple [.p (eS v.1),.p (eI v.2.1),.p (eI v.2.2)]) ?_
 refine nx 10 rfl (oA h0 rfl rfl λ hk1 h0=>?_)
 refine nx 1 rfl (oLs rfl ?_)
 refine nx 2 rfl (fD [14] h0 rfl (λ c2 h0=>?_) λ c2 h0=>?_)
 ·exact nx 8 rfl (mQ (oi h0) rfl (az ⟨sr,sr,sr,trivial⟩))
 refine nx 7 rfl (oA h0 rfl rfl λ hk3 h0=>?_)
 refine oI h0 rfl λ hk4 h0=>nx 7 rfl (fD [19,20] h0 rfl (λ c5 h0=>?_) λ c5 h0=>?_)
 ·refine nx 4 rfl (oA h0 rfl rfl λ hk6 h0=>?_)
  exact nx 5 rfl (mQ (oi h0) rfl (az ⟨sr,sr,sr,trivial⟩))
 refine nx 6 rfl (fD [23,24] h0 rfl (λ c7 h0=>?_) λ c7 h0=>?_)
 ·refine nx 4 rfl (oA h0 rfl rfl λ hk8 h0=>?_)
  exact nx 5 rfl (mQ (oi h0) rfl (az ⟨sr,sr,sr,trivial⟩))
 refine nx 6 rfl (fD [27,28] h0 rfl (λ c9 h0=>?_) λ c9 h0=>?_)
 ·refine nx 4 rfl (oA h0 rfl rfl λ hk10 h0=>?_)
  exact nx 5 rfl (mQ (oi h0) rfl (az ⟨sr,sr,sr,trivial⟩))
 refine nx 2 rfl (bd h0 λ o31 h1 h0=>?_)
 refine kN o31 (λ v32=>⟨[(0,.p (eS s_0)),(1,.p (eI i_1)),(18,.p (eK .u8 (byt s_0 (i_1+1)))),(31,.p (eB v32))],[]⟩) ?_ ?_
 ·refine nx 1 rfl (fB [31] h0 rfl (λ c13 h0=>?_) λ c13 h0=>?_)
  ·refine nx 5 rfl (oA h0 rfl rfl λ hk14 h0=>?_)
   refine nx 1 rfl (oA h0 rfl rfl λ hk15 h0=>?_)
   refine oP h0 rfl rfl rfl λ hk16 h0=>nx 1 rfl (oA h0 rfl rfl λ hk17 h0=>?_)
   exact nx 5 rfl (mQ (oi h0) rfl (az ⟨sr,sr,sr,trivial⟩))
  refine nx 6 rfl (fD [42,43] h0 rfl (λ c18 h0=>?_) λ c18 h0=>?_)
  ·refine nx 5 rfl (oA h0 rfl rfl λ hk19 h0=>?_)
   refine nx 1 rfl (oLs rfl ?_)
   refine nx 2 rfl (fD [48] h0 rfl (λ c20 h0=>?_) λ c20 h0=>?_)
   ·exact nx 8 rfl (mQ (oi h0) rfl (az ⟨sr,sr,sr,trivial⟩))
   refine nx 7 rfl (oA h0 rfl rfl λ hk21 h0=>?_)
   refine oI h0 rfl λ hk22 h0=>nx 2 rfl (fN [53] h0 rfl (λ c23 h0=>?_) λ c23 h0=>?_)
   ·refine nx 6 rfl (oA h0 rfl rfl λ hk24 h0=>?_)
    refine bd h0 λ r25 e26 h0=>oK (sT _ s_0 (i_1+3) _ e26) rfl ⟨sr,sr,trivial⟩ Tryz.call145 rfl (nx 14 rfl ?_)
    refine mG (gE (t:=⟨[(7,.p (eI r25.1)),(8,.p (eI r25.2.1)),(9,.p (eI r25.2.2)),(63,.p (eB (!decide (r25.2.2=0))))],[]⟩) rfl rfl) (fN [63] h0 rfl (λ c27 h0=>?_) λ c27 h0=>?_)
    ·refine nx 5 rfl (bd h0 λ r28 e29 h0=>?_)
     refine oK (rK r25.1 _ e29) rfl ⟨sr,trivial⟩ Tryz.call146 rfl (nx 6 rfl ?_)
     exact mQ (oi h0) rfl (az ⟨sr,sr,sr,trivial⟩)
    exact nx 9 rfl (mQ (oi h0) rfl (az ⟨sr,sr,sr,trivial⟩))
   exact nx 8 rfl (mQ (oi h0) rfl (az ⟨sr,sr,sr,trivial⟩))
  exact nx 9 rfl (mQ (oi h0) rfl (az ⟨sr,sr,sr,trivial⟩))
 refine nx 5 rfl (fD [31,32] h1 rfl (λ c11 h1=>?_) λ c11 h1=>?_)
 ·exact nx 2 rfl (eX _ (oi h1).symm (gE rfl rfl))
 exact nx 5 rfl (eX _ (oi h1).symm (gE rfl rfl))
def lU (n:Nat)(s_0:Bytes)(i_1:Int):Option (Bytes×Int×Int) :=
 ck ((0:Int)≤i_1∧i_1 < (s_0.length:Int)) <|
 if byt s_0 i_1=92 then
  (iw n s_0 i_1).bind λ r3 =>
  some (r3.1,r3.2.1,r3.2.2)
 else
  (g9 s_0 i_1).bind λ r5 =>
  (
    if r5.2=0 then
     some true
    else
     ck ((0:Int)≤i_1∧i_1 < (s_0.length:Int)) <|
     if byt s_0 i_1 < 32 then
      some true
     else
      ck ((0:Int)≤i_1∧i_1 < (s_0.length:Int)) <|
      some (decide (byt s_0 i_1=127))
   : Option Bool).bind λ t11 =>
  if t11=true then
   some (([]:Bytes),0,2)
  else
   ck (inR (i_1+r5.2)) <|
   ck ((0:Int)≤i_1∧i_1≤i_1+r5.2∧i_1+r5.2≤(s_0.length:Int)) <|
   ck (inR (i_1+r5.2)) <|
   some (sub s_0 i_1 (i_1+r5.2),i_1+r5.2,0)
set_option maxHeartbeats 4000000 in
theorem vC (n:Nat)(s_0:Bytes)(i_1:Int)(r:Bytes×Int×Int)(h0:lU n s_0 i_1=some r):aB Tryz.prog 118 [eS s_0,eI i_1] (·=.tuple [.p (eS r.1),.p (eI r.2.1),.p (eI r.2.2)]):=by
 unfold lU at h0
 refine aU good Tryz.func118 rfl rfl rfl λ w0=>mP (λ v:Bytes×Int×Int=>.tuple [.p (eS v.1),.p (eI v.2.1),.p (eI v.2.2)]) ?_
 refine nx 11 rfl (oI h0 rfl λ hk1 h0=>?_)
 refine nx 2 rfl (fD [12] h0 rfl (λ c2 h0=>?_) λ c2 h0=>?_)
 ·refine nx 5 rfl (bd h0 λ r3 e4 h0=>?_)
  refine oK (rb _ s_0 i_1 _ e4) rfl ⟨sr,sr,trivial⟩ Tryz.call134 rfl (nx 8 rfl ?_)
  exact mQ (oi h0) rfl (az ⟨sr,sr,sr,trivial⟩)
 refine nx 6 rfl (bd h0 λ r5 e6 h0=>?_)
 refine oK (ni s_0 i_1 _ e6) rfl ⟨sr,sr,trivial⟩ Tryz.call121 rfl (nx 8 rfl ?_)
 refine bd h0 λ o17 h1 h0=>kN o17 (λ v18=>⟨[(0,.p (eS s_0)),(1,.p (eI i_1)),(8,.p (eI r5.2)),(38,.p (eB v18))],[]⟩) ?_ ?_
 ·refine nx 1 rfl (fB [38] h0 rfl (λ c12 h0=>?_) λ c12 h0=>?_)
  ·exact nx 8 rfl (mQ (oi h0) rfl (az ⟨sr,sr,sr,trivial⟩))
  refine nx 8 rfl (oA h0 rfl rfl λ hk13 h0=>?_)
  refine oP h0 rfl rfl rfl λ hk14 h0=>nx 2 rfl (oA h0 rfl rfl λ hk15 h0=>?_)
  exact nx 5 rfl (mQ (oi h0) rfl (az ⟨sr,sr,sr,trivial⟩))
 refine nx 4 rfl (fD [26,27] h1 rfl (λ c7 h1=>?_) λ c7 h1=>?_)
 ·exact nx 12 rfl (eX _ (oi h1).symm (gE rfl rfl))
 refine nx 2 rfl (oI h1 rfl λ hk8 h1=>?_)
 refine nx 3 rfl (fD [31,32,33] h1 rfl (λ c9 h1=>?_) λ c9 h1=>?_)
 ·exact nx 6 rfl (eX _ (oi h1).symm (gE rfl rfl))
 refine nx 2 rfl (oI h1 rfl λ hk10 h1=>?_)
 exact nx 3 rfl (eX _ (oi h1).symm (gE rfl rfl))
def em (n:Nat)(s_0:Bytes):Nat→Bytes→Int→Option (Unit⊕(Bytes×Int×Int))
 | 0,_,_=>none
 | m+1,out15,i16 =>
 if i16 < (s_0.length:Int) then
  ck ((0:Int)≤i16∧i16 < (s_0.length:Int)) <|
  if byt s_0 i16=34 then
   if 4096 < (out15.length:Int) then
    some (.inr (([]:Bytes),0,3))
   else
    ck (inR (i16+1)) <|
    some (.inr (out15,i16+1,0))
  else
   (lU n s_0 i16).bind λ r22 =>
   if r22.2.2=0 then
    ck (out15.length+r22.1.length≤9223372036854775807) <|
    em n s_0 m (out15++r22.1) r22.2.1
   else
    some (.inr (([]:Bytes),0,r22.2.2))
 else
  some (.inl ())
def iy (n:Nat)(s_0:Bytes):Option (Bytes×Int×Int) :=
 if (s_0.length:Int)=0 then
  some (([]:Bytes),0,40)
 else
  ck ((0:Int)≤0∧0 < (s_0.length:Int)) <|
  if byt s_0 0=34 then
   jn (em n s_0 n ([]:Bytes) 1) λ q28 =>
   some (([]:Bytes),0,40)
  else
   some (([]:Bytes),0,2)
set_option maxHeartbeats 4000000 in
theorem re (n:Nat)(s_0:Bytes)(r:Bytes×Int×Int)(h0:iy n s_0=some r):aB Tryz.prog 102 [eS s_0] (·=.tuple [.p (eS r.1),.p (eI r.2.1),.p (eI r.2.2)]):=by
 unfold iy at h0
 refine aU good Tryz.func102 rfl rfl rfl λ w0=>mP (λ v:Bytes×Int×Int=>.tuple [.p (eS v.1),.p (eI v.2.1),.p (eI v.2.2)]) ?_
 refine nx 10 rfl (oLs rfl ?_)
 refine nx 2 rfl (fD [12] h0 rfl (λ c1 h0=>?_) λ c1 h0=>?_)
 ·exact nx 8 rfl (mQ (oi h0) rfl (az ⟨sr,sr,sr,trivial⟩))
 refine nx 6 rfl (oI h0 rfl λ hk2 h0=>?_)
 refine nx 2 rfl (fN [15] h0 rfl (λ c3 h0=>?_) λ c3 h0=>?_)
 ·refine nx 12 rfl ?_
  obtain ⟨o29,h1,hL0,hR0⟩:=cU h0
  refine kEx 0 (λ v30:Unit=>o29=.inl v30) (λ v30=>⟨[],[]⟩) (λ v30 hv=>?_) ?_
  ·have h0:=hL0 _ hv
   exact nx 8 rfl (mQ (oi h0) rfl (az ⟨sr,sr,sr,trivial⟩))
  refine lG (λ (q31:Bytes×Int)=>⟨[(0,.p (eS s_0)),(5,.p (eS q31.1)),(6,.p (eI q31.2))],[]⟩) (λ m (q31:Bytes×Int)=>em n s_0 m q31.1 q31.2) (λ _=>rfl) (([]:Bytes),1) h1 (gE rfl rfl) ?_
  rintro m ⟨out15,i16⟩ h1
  replace h1:em n s_0 (m+1) out15 i16=some o29:=h1
  rw [em] at h1
  refine nx 5 rfl (oLs rfl ?_)
  refine nx 2 rfl (fD [19] h1 rfl (λ c17 h1=>?_) λ c17 h1=>?_)
  ·refine nx 8 rfl (oI h1 rfl λ hk18 h1=>?_)
   refine nx 2 rfl (fD [23] h1 rfl (λ c19 h1=>?_) λ c19 h1=>?_)
   ·refine nx 5 rfl (oLs rfl ?_)
    refine nx 2 rfl (fD [26] h1 rfl (λ c20 h1=>?_) λ c20 h1=>?_)
    ·exact nx 8 rfl (mQ (hR0 _ (oi h1).symm) rfl (az ⟨sr,sr,sr,trivial⟩))
    refine nx 6 rfl (oA h1 rfl rfl λ hk21 h1=>?_)
    exact nx 5 rfl (mQ (hR0 _ (oi h1).symm) rfl (az ⟨sr,sr,sr,trivial⟩))
   refine nx 6 rfl (bd h1 λ r22 e23 h1=>?_)
   refine oK (vC _ s_0 i16 _ e23) rfl ⟨sr,sr,trivial⟩ Tryz.call118 rfl (nx 14 rfl ?_)
   refine fN [38] h1 rfl (λ c24 h1=>?_) λ c24 h1=>?_
   ·refine nx 6 rfl (oC h1 rfl λ hk25 h1=>?_)
    exact nx 6 rfl (eX (out15++r22.1,r22.2.1) h1 (gE rfl rfl))
   exact nx 9 rfl (mQ (hR0 _ (oi h1).symm) rfl (az ⟨sr,sr,sr,trivial⟩))
  exact nx 2 rfl (eXi _ (oi h1).symm (gE rfl rfl))
 exact nx 8 rfl (mQ (oi h0) rfl (az ⟨sr,sr,sr,trivial⟩))
def fM:Nat→Int→Option Bytes
 | 0,_=>none
 | n+1,c_0 =>
 ck ((16:Int)≠0) <|
 ck ((16:Int)≠0) <|
 ck (inR ((c_0.tmod 16)+1)) <|
 ck ((0:Int)≤c_0.tmod 16∧c_0.tmod 16≤(c_0.tmod 16)+1∧(c_0.tmod 16)+1≤(([48,49,50,51,52,53,54,55,56,57,97,98,99,100,101,102]:Bytes).length:Int)) <|
 if c_0 < 16 then
  some (sub ([48,49,50,51,52,53,54,55,56,57,97,98,99,100,101,102]:Bytes) (c_0.tmod 16) ((c_0.tmod 16)+1))
 else
  ck ((16:Int)≠0) <|
  ((fM n) (IntKind.wrap .i64 (c_0.tdiv 16))).bind λ r7 =>
  ck (r7.length+(sub ([48,49,50,51,52,53,54,55,56,57,97,98,99,100,101,102]:Bytes) (c_0.tmod 16) ((c_0.tmod 16)+1)).length≤9223372036854775807) <|
  some (r7++(sub ([48,49,50,51,52,53,54,55,56,57,97,98,99,100,101,102]:Bytes) (c_0.tmod 16) ((c_0.tmod 16)+1)))
set_option maxHeartbeats 4000000 in
theorem rI (n:Nat):∀ (c_0:Int) (r:Bytes),fM n c_0=some r→aB Tryz.prog 122 [eI c_0] (·=.p (eS r)):=by
 induction n with
 | zero=>intro c_0 r h0; cases h0
 | succ n ih =>
 have ih_ref02_digits_ok:=ih
 intro c_0 r h0
 rw [fM] at h0
 refine aU good Tryz.func122 rfl rfl rfl λ w0=>mP (λ v:Bytes=>.p (eS v)) ?_
 refine nx 7 rfl (cc' h0 λ hk1 h0=>?_)
 refine mO rfl (pj rfl rfl rfl rfl rfl rfl hk1 ?_)
 refine nx 1 rfl (cc' h0 λ hk2 h0=>?_)
 refine mO rfl (pj rfl rfl rfl rfl rfl rfl hk2 ?_)
 refine oA h0 rfl rfl λ hk3 h0=>oP h0 rfl rfl rfl λ hk4 h0=>nx 8 rfl (fD [11] h0 rfl (λ c5 h0=>?_) λ c5 h0=>?_)
 ·exact nx 7 rfl (mQ (oi h0) rfl (sr))
 refine nx 5 rfl (cc' h0 λ hk6 h0=>?_)
 refine mO rfl (pj rfl rfl rfl rfl rfl rfl hk6 ?_)
 refine bd h0 λ r7 e8 h0=>oK (ih_ref02_digits_ok (IntKind.wrap .i64 (c_0.tdiv 16)) _ e8) rfl ⟨sr,trivial⟩ Tryz.call122 rfl (nx 1 rfl ?_)
 exact oC h0 rfl λ hk9 h0=>nx 3 rfl (mQ (oi h0) rfl (sr))
def iz (n:Nat)(b_0:Int):Option Bytes :=
 if b_0=10 then
  some ([92,110]:Bytes)
 else
  if b_0=13 then
   some ([92,114]:Bytes)
  else
   if b_0=9 then
    some ([92,116]:Bytes)
   else
    if b_0=34 then
     some ([92,34]:Bytes)
    else
     if b_0=92 then
      some ([92,92]:Bytes)
     else
      (
        if b_0 < 32 then
         some true
        else
         some (decide (b_0=127))
       : Option Bool).bind λ t7 =>
      if t7=true then
       ck (inR (b_0)) <|
       (fM n b_0).bind λ r10 =>
       ck (([92,117,123]:Bytes).length+r10.length≤9223372036854775807) <|
       ck ((([92,117,123]:Bytes)++r10).length+([125]:Bytes).length≤9223372036854775807) <|
       some ((([92,117,123]:Bytes)++r10)++([125]:Bytes))
      else
       ck ((0:Int)≤b_0∧b_0 < 256) <|
       some [u8 b_0]
set_option maxHeartbeats 4000000 in
theorem qA (n:Nat)(b_0:Int)(r:Bytes)(h0:iz n b_0=some r):aB Tryz.prog 105 [eK .u8 b_0] (·=.p (eS r)):=by
 unfold iz at h0
 refine aU good Tryz.func105 rfl rfl rfl λ w0=>mP (λ v:Bytes=>.p (eS v)) ?_
 refine nx 15 rfl (fD [4,5] h0 rfl (λ c1 h0=>?_) λ c1 h0=>?_)
 ·exact nx 6 rfl (mQ (oi h0) rfl (sr))
 refine nx 6 rfl (fD [6,7] h0 rfl (λ c2 h0=>?_) λ c2 h0=>?_)
 ·exact nx 6 rfl (mQ (oi h0) rfl (sr))
 refine nx 6 rfl (fD [8,9] h0 rfl (λ c3 h0=>?_) λ c3 h0=>?_)
 ·exact nx 6 rfl (mQ (oi h0) rfl (sr))
 refine nx 6 rfl (fD [10,11] h0 rfl (λ c4 h0=>?_) λ c4 h0=>?_)
 ·exact nx 6 rfl (mQ (oi h0) rfl (sr))
 refine nx 6 rfl (fD [12,13] h0 rfl (λ c5 h0=>?_) λ c5 h0=>?_)
 ·exact nx 6 rfl (mQ (oi h0) rfl (sr))
 refine nx 4 rfl (bd h0 λ o16 h1 h0=>?_)
 refine kN o16 (λ v17=>⟨[(0,.p (eK .u8 b_0)),(19,.p (eB v17))],[]⟩) ?_ ?_
 ·refine nx 1 rfl (fB [19] h0 rfl (λ c8 h0=>?_) λ c8 h0=>?_)
  ·refine nx 4 rfl (cc' h0 λ hk9 h0=>?_)
   refine mO rfl (dy rfl rfl rfl rfl rfl rfl rfl rfl (fY hk9) ?_)
   refine bd h0 λ r10 e11 h0=>oK (rI _ b_0 _ e11) rfl ⟨sr,trivial⟩ Tryz.call122 rfl (oC h0 rfl λ hk12 h0=>?_)
   exact oC h0 rfl λ hk13 h0=>nx 3 rfl (mQ (oi h0) rfl (sr))
  refine nx 5 rfl (cc' h0 λ hk14 h0=>?_)
  refine mO rfl (bS eU [u8 b_0] rfl rfl rfl rfl rfl rfl rfl rfl rfl rfl rfl rfl rfl (congr (congrArg List.cons (gS hk14)) rfl) ?_)
  refine mO rfl (kA [u8 b_0] rfl rfl rfl rfl rfl rfl rfl rfl rfl rfl rfl ?_)
  exact nx 3 rfl (mQ (oi h0) rfl (sr))
 refine nx 4 rfl (fD [15,16] h1 rfl (λ c6 h1=>?_) λ c6 h1=>?_)
 ·exact nx 4 rfl (eX _ (oi h1).symm (gE rfl rfl))
 exact nx 4 rfl (eX _ (oi h1).symm (gE rfl rfl))
def eF (n:Nat)(s_0:Bytes):Nat→Bytes→Int→Option Bytes
 | 0,_,_=>none
 | m+1,out9,i10 =>
 if i10 < (s_0.length:Int) then
  ck ((0:Int)≤i10∧i10 < (s_0.length:Int)) <|
  (iz n (byt s_0 i10)).bind λ r13 =>
  ck (out9.length+r13.length≤9223372036854775807) <|
  ck (inR (i10+1)) <|
  eF n s_0 m (out9++r13) (i10+1)
 else
  some out9
def iR (n:Nat)(s_0:Bytes):Option Bytes :=
 (eF n s_0 n ([34]:Bytes) 0).bind λ out19 =>
 ck (out19.length+([34]:Bytes).length≤9223372036854775807) <|
 some (out19++([34]:Bytes))
set_option maxHeartbeats 4000000 in
theorem li (n:Nat)(s_0:Bytes)(r:Bytes)(h0:iR n s_0=some r):aB Tryz.prog 81 [eS s_0] (·=.p (eS r)):=by
 unfold iR at h0
 refine aU good Tryz.func81 rfl rfl rfl λ w0=>mP (λ v:Bytes=>.p (eS v)) ?_
 refine nx 14 rfl (bd h0 λ o22 h1 h0=>?_)
 refine kE 0 o22 (λ v23=>⟨[(3,.p (eS v23))],[]⟩) ?_ ?_
 ·refine nx 4 rfl (oC h0 rfl λ hk20 h0=>?_)
  exact nx 3 rfl (mQ (oi h0) rfl (sr))
 refine lG (λ (q24:Bytes×Int)=>⟨[(0,.p (eS s_0)),(3,.p (eS q24.1)),(4,.p (eI q24.2))],[]⟩) (λ m (q24:Bytes×Int)=>eF n s_0 m q24.1 q24.2) (λ _=>rfl) (([34]:Bytes),0) h1 (gE rfl rfl) ?_
 rintro m ⟨out9,i10⟩ h1
 replace h1:eF n s_0 (m+1) out9 i10=some o22:=h1
 rw [eF] at h1
 refine nx 5 rfl (oLs rfl ?_)
 refine nx 2 rfl (fD [8] h1 rfl (λ c11 h1=>?_) λ c11 h1=>?_)
 ·refine nx 8 rfl (oI h1 rfl λ hk12 h1=>?_)
  refine bd h1 λ r13 e14 h1=>oK (qA _ (byt s_0 i10) _ e14) rfl ⟨sr,trivial⟩ Tryz.call105 rfl (oC h1 rfl λ hk15 h1=>?_)
  refine nx 4 rfl (oA h1 rfl rfl λ hk16 h1=>?_)
  exact nx 2 rfl (eX (out9++r13,i10+1) h1 (gE rfl rfl))
 exact nx 2 rfl (eXi _ (oi h1).symm (gE rfl rfl))
def fh (s_0:Bytes):Nat→Int→Option (Unit⊕Bool)
 | 0,_=>none
 | m+1,i8 =>
 if i8 < (s_0.length:Int) then
  (g9 s_0 i8).bind λ r10 =>
  if r10.2=0 then
   some (.inr false)
  else
   ck (inR (i8+r10.2)) <|
   fh s_0 m (i8+r10.2)
 else
  some (.inl ())
def kc (n:Nat)(s_0:Bytes):Option Bool :=
 if 4096 < (s_0.length:Int) then
  some false
 else
  jn (fh s_0 n 0) λ q15 =>
  some true
set_option maxHeartbeats 4000000 in
theorem sY (n:Nat)(s_0:Bytes)(r:Bool)(h0:kc n s_0=some r):aB Tryz.prog 104 [eS s_0] (·=.p (eB r)):=by
 unfold kc at h0
 refine aU good Tryz.func104 rfl rfl rfl λ w0=>mP (λ v:Bool=>.p (eB v)) ?_
 refine nx 8 rfl (oLs rfl ?_)
 refine nx 2 rfl (fD [8] h0 rfl (λ c1 h0=>?_) λ c1 h0=>?_)
 ·exact nx 6 rfl (mQ (oi h0) rfl (sr))
 refine nx 8 rfl ?_
 obtain ⟨o16,h1,hL0,hR0⟩:=cU h0
 refine kEx 0 (λ v17:Unit=>o16=.inl v17) (λ v17=>⟨[],[]⟩) (λ v17 hv=>?_) ?_
 ·have h0:=hL0 _ hv
  exact nx 6 rfl (mQ (oi h0) rfl (sr))
 refine lG (λ (q18:Int)=>⟨[(0,.p (eS s_0)),(3,.p (eI q18))],[]⟩) (λ m (q18:Int)=>fh s_0 m q18) (λ _=>rfl) 0 h1 (gE rfl rfl) ?_
 rintro m i8 h1
 replace h1:fh s_0 (m+1) i8=some o16:=h1
 rw [fh] at h1
 refine nx 5 rfl (oLs rfl ?_)
 refine nx 2 rfl (fD [12] h1 rfl (λ c9 h1=>?_) λ c9 h1=>?_)
 ·refine nx 7 rfl (bd h1 λ r10 e11 h1=>?_)
  refine oK (ni s_0 i8 _ e11) rfl ⟨sr,sr,trivial⟩ Tryz.call121 rfl (nx 12 rfl ?_)
  refine fD [20] h1 rfl (λ c12 h1=>?_) λ c12 h1=>?_
  ·exact nx 6 rfl (mQ (hR0 _ (oi h1).symm) rfl (sr))
  refine nx 5 rfl (oA h1 rfl rfl λ hk13 h1=>?_)
  exact nx 2 rfl (eX (i8+r10.2) h1 (gE rfl rfl))
 exact nx 2 rfl (eXi _ (oi h1).symm (gE rfl rfl))
end Go.Ab.R06
end
section
set_option linter.unusedVariables false
set_option linter.unusedSimpArgs false
set_option linter.unnecessarySimpa false
namespace Go.Ab.R06
open Go.Proofs Go.Ab Go.Ab.RB
attribute [local irreducible] awp gO aY aB cD AV.sub M dh
def iT (n:Nat)(k_0:bA):Option Bool :=
 if k_0.fKind=1 then
  (
    if 0≤k_0.fNum then
     if k_0.fNum≤9007199254740992 then
      some (decide (k_0.fStr=([]:Bytes)))
     else
      some false
    else
     some false
   : Option Bool).bind λ t4 =>
  some t4
 else
  if k_0.fKind=2 then
   (
     if k_0.fNum=0 then
      (kc n k_0.fStr).bind λ r7 =>
      some r7
     else
      some false
    : Option Bool).bind λ t9 =>
   some t9
  else
   some (decide (k_0.fKind=0∧k_0.fNum=0∧k_0.fStr=([]:Bytes)))
set_option maxHeartbeats 4000000 in
theorem kp (n:Nat)(k_0:bA)(r:Bool)(h0:iT n k_0=some r):aB Tryz.prog 79 [.agg (bA.cs k_0)] (·=.p (eB r)):=by
 unfold iT at h0
 refine aU good Tryz.func79 rfl rfl rfl λ w0=>mP (λ v:Bool=>.p (eB v)) ?_
 refine nx 12 rfl (fD [5] h0 rfl (λ c1 h0=>?_) λ c1 h0=>?_)
 ·refine nx 2 rfl (bd h0 λ o12 h1 h0=>?_)
  refine kN o12 (λ v13=>⟨[(2,.p (eB v13))],[]⟩) ?_ ?_
  ·exact nx 2 rfl (mQ (oi h0) rfl (sr))
  refine nx 5 rfl (fD [8,9] h1 rfl (λ c2 h1=>?_) λ c2 h1=>?_)
  ·refine nx 5 rfl (fD [12,13,14] h1 rfl (λ c3 h1=>?_) λ c3 h1=>?_)
   ·refine nx 2 rfl (oS rfl rfl ?_)
    exact nx 3 rfl (eX _ (oi h1).symm (gE rfl rfl))
   exact nx 6 rfl (eX _ (oi h1).symm (gE rfl rfl))
  exact nx 11 rfl (eX _ (oi h1).symm (gE rfl rfl))
 refine nx 9 rfl (fD [21] h0 rfl (λ c5 h0=>?_) λ c5 h0=>?_)
 ·refine nx 2 rfl (bd h0 λ o14 h1 h0=>?_)
  refine kN o14 (λ v15=>⟨[(2,.p (eB v15))],[]⟩) ?_ ?_
  ·exact nx 2 rfl (mQ (oi h0) rfl (sr))
  refine nx 5 rfl (fD [24,25] h1 rfl (λ c6 h1=>?_) λ c6 h1=>?_)
  ·refine nx 2 rfl (bd h1 λ r7 e8 h1=>?_)
   refine oK (sY _ k_0.fStr _ e8) rfl ⟨sr,trivial⟩ Tryz.call104 rfl (nx 3 rfl ?_)
   exact eX _ (oi h1).symm (gE rfl rfl)
  exact nx 6 rfl (eX _ (oi h1).symm (gE rfl rfl))
 refine nx 6 rfl (mO rfl (BV (k_0.fKind=0∧k_0.fNum=0∧k_0.fStr=([]:Bytes)) rfl rfl rfl rfl rfl rfl rfl (by kernel_rfl) rfl rfl (.inl ⟨rfl,rfl⟩) ?_))
 exact nx 3 rfl (mQ (oi h0) rfl (sr))
def fC (n:Nat)(k_0:bA):Option Bytes :=
 (
   (iT n k_0).bind λ r1 =>
   if (!r1)=true then
    some true
   else
    some (decide (k_0.fKind=0))
  : Option Bool).bind λ t4 =>
 if t4=true then
  some ([]:Bytes)
 else
  if k_0.fKind=1 then
   (dN n k_0.fNum).bind λ r7 =>
   ck (([91]:Bytes).length+r7.length≤9223372036854775807) <|
   ck ((([91]:Bytes)++r7).length+([93]:Bytes).length≤9223372036854775807) <|
   some ((([91]:Bytes)++r7)++([93]:Bytes))
  else
   (iR n k_0.fStr).bind λ r11 =>
   ck (([91]:Bytes).length+r11.length≤9223372036854775807) <|
   ck ((([91]:Bytes)++r11).length+([93]:Bytes).length≤9223372036854775807) <|
   some ((([91]:Bytes)++r11)++([93]:Bytes))
set_option maxHeartbeats 4000000 in
theorem lf (n:Nat)(k_0:bA)(r:Bytes)(h0:fC n k_0=some r):aB Tryz.prog 61 [.agg (bA.cs k_0)] (·=.p (eS r)):=by
 unfold fC at h0
 refine aU good Tryz.func61 rfl rfl rfl λ w0=>mP (λ v:Bytes=>.p (eS v)) ?_
 refine nx 7 rfl (bd h0 λ o16 h1 h0=>?_)
 refine kN o16 (λ v17=>⟨[(1,.ptr 1 0),(10,.p (eB v17))],[(1,(bA.cs k_0).map .p)]⟩) ?_ ?_
 ·refine nx 1 rfl (fB [10] h0 rfl (λ c5 h0=>?_) λ c5 h0=>?_)
  ·exact nx 6 rfl (mQ (oi h0) rfl (sr))
  refine nx 9 rfl (fD [13] h0 rfl (λ c6 h0=>?_) λ c6 h0=>?_)
  ·refine nx 5 rfl (bd h0 λ r7 e8 h0=>?_)
   refine oK (rQ _ k_0.fNum _ e8) rfl ⟨sr,trivial⟩ Tryz.call80 rfl (oC h0 rfl λ hk9 h0=>?_)
   exact oC h0 rfl λ hk10 h0=>nx 3 rfl (mQ (oi h0) rfl (sr))
  refine nx 6 rfl (bd h0 λ r11 e12 h0=>?_)
  refine oK (li _ k_0.fStr _ e12) rfl ⟨sr,trivial⟩ Tryz.call81 rfl (oC h0 rfl λ hk13 h0=>?_)
  exact oC h0 rfl λ hk14 h0=>nx 3 rfl (mQ (oi h0) rfl (sr))
 refine nx 2 rfl (bd h1 λ r1 e2 h1=>?_)
 refine oK (kp _ k_0 _ e2) rfl ⟨sr,trivial⟩ Tryz.call79 rfl (nx 2 rfl ?_)
 refine fB [5,6] h1 rfl (λ c3 h1=>?_) λ c3 h1=>?_
 ·exact nx 5 rfl (eX _ (oi h1).symm (gE rfl rfl))
 exact nx 5 rfl (eX _ (oi h1).symm (gE rfl rfl))
def gq (c_0:Int):Option Bool :=
 (
   if 97≤c_0 then
    if c_0≤122 then
     some true
    else
     if 65≤c_0 then
      if c_0≤90 then
       some true
      else
       some (decide (c_0=95))
     else
      some (decide (c_0=95))
   else
    if 65≤c_0 then
     if c_0≤90 then
      some true
     else
      some (decide (c_0=95))
    else
     some (decide (c_0=95))
  : Option Bool).bind λ t7 =>
 some t7
set_option maxHeartbeats 4000000 in
theorem kd (c_0:Int)(r:Bool)(h0:gq c_0=some r):aB Tryz.prog 101 [eK .u8 c_0] (·=.p (eB r)):=by
 unfold gq at h0
 refine aU good Tryz.func101 rfl rfl rfl λ w0=>mP (λ v:Bool=>.p (eB v)) ?_
 refine nx 5 rfl (bd h0 λ o9 h1 h0=>?_)
 refine kN o9 (λ v10=>⟨[(2,.p (eB v10))],[]⟩) ?_ ?_
 ·exact nx 2 rfl (mQ (oi h0) rfl (sr))
 refine nx 4 rfl (fD [4,5] h1 rfl (λ c1 h1=>?_) λ c1 h1=>?_)
 ·refine nx 4 rfl (fD [7,8,9] h1 rfl (λ c2 h1=>?_) λ c2 h1=>?_)
  ·exact nx 13 rfl (eX _ (oi h1).symm (gE rfl rfl))
  refine nx 3 rfl (fD [11,12] h1 rfl (λ c3 h1=>?_) λ c3 h1=>?_)
  ·refine nx 5 rfl (fD [14,15,16,17] h1 rfl (λ c4 h1=>?_) λ c4 h1=>?_)
   ·exact nx 5 rfl (eX _ (oi h1).symm (gE rfl rfl))
   exact nx 5 rfl (eX _ (oi h1).symm (gE rfl rfl))
  exact nx 10 rfl (eX _ (oi h1).symm (gE rfl rfl))
 refine nx 7 rfl (fD [11,12] h1 rfl (λ c5 h1=>?_) λ c5 h1=>?_)
 ·refine nx 5 rfl (fD [14,15,16,17] h1 rfl (λ c6 h1=>?_) λ c6 h1=>?_)
  ·exact nx 5 rfl (eX _ (oi h1).symm (gE rfl rfl))
  exact nx 5 rfl (eX _ (oi h1).symm (gE rfl rfl))
 exact nx 10 rfl (eX _ (oi h1).symm (gE rfl rfl))
def cT (s_0:Bytes):Nat→Int→Option (Unit⊕Bool)
 | 0,_=>none
 | m+1,i20 =>
 if i20 < (s_0.length:Int) then
  (
    ck ((0:Int)≤i20∧i20 < (s_0.length:Int)) <|
    (gq (byt s_0 i20)).bind λ r23 =>
    if (!r23)=true then
     ck ((0:Int)≤i20∧i20 < (s_0.length:Int)) <|
     if byt s_0 i20 < 48 then
      some true
     else
      ck ((0:Int)≤i20∧i20 < (s_0.length:Int)) <|
      some (decide (57 < byt s_0 i20))
    else
     some false
   : Option Bool).bind λ t29 =>
  if t29=true then
   some (.inr false)
  else
   ck (inR (i20+1)) <|
   cT s_0 m (i20+1)
 else
  some (.inl ())
def cQ (n:Nat)(s_0:Bytes):Option Bool :=
 (
   if s_0=([]:Bytes) then
    some true
   else
    if 64 < (s_0.length:Int) then
     some true
    else
     ck ((0:Int)≤0∧0 < (s_0.length:Int)) <|
     (gq (byt s_0 0)).bind λ r4 =>
     some (!r4)
  : Option Bool).bind λ t6 =>
 if t6=true then
  some false
 else
  jn (cT s_0 n 0) λ q34 =>
  some true
set_option maxHeartbeats 4000000 in
theorem ee (n:Nat)(s_0:Bytes)(r:Bool)(h0:cQ n s_0=some r):aB Tryz.prog 76 [eS s_0] (·=.p (eB r)):=by
 unfold cQ at h0
 refine aU good Tryz.func76 rfl rfl rfl λ w0=>mP (λ v:Bool=>.p (eB v)) ?_
 refine nx 6 rfl (bd h0 λ o36 h1 h0=>?_)
 refine kN o36 (λ v37=>⟨[(0,.p (eS s_0)),(16,.p (eB v37))],[]⟩) ?_ ?_
 ·refine nx 1 rfl (fB [16] h0 rfl (λ c7 h0=>?_) λ c7 h0=>?_)
  ·exact nx 6 rfl (mQ (oi h0) rfl (sr))
  refine nx 8 rfl ?_
  obtain ⟨o38,h1,hL0,hR0⟩:=cU h0
  refine kEx 0 (λ v39:Unit=>o38=.inl v39) (λ v39=>⟨[],[]⟩) (λ v39 hv=>?_) ?_
  ·have h0:=hL0 _ hv
   exact nx 6 rfl (mQ (oi h0) rfl (sr))
  refine lG (λ (q40:Int)=>⟨[(0,.p (eS s_0)),(3,.p (eI q40))],[]⟩) (λ m (q40:Int)=>cT s_0 m q40) (λ _=>rfl) 0 h1 (gE rfl rfl) ?_
  rintro m i20 h1
  replace h1:cT s_0 (m+1) i20=some o38:=h1
  rw [cT] at h1
  refine nx 5 rfl (oLs rfl ?_)
  refine nx 2 rfl (fD [20] h1 rfl (λ c21 h1=>?_) λ c21 h1=>?_)
  ·refine nx 5 rfl (bd h1 λ o41 h2 h1=>?_)
   refine kN o41 (λ v42=>⟨[(0,.p (eS s_0)),(3,.p (eI i20)),(39,.p (eB v42))],[]⟩) ?_ ?_
   ·refine nx 1 rfl (fB [39] h1 rfl (λ c30 h1=>?_) λ c30 h1=>?_)
    ·exact nx 6 rfl (mQ (hR0 _ (oi h1).symm) rfl (sr))
    refine nx 4 rfl (oA h1 rfl rfl λ hk31 h1=>?_)
    exact nx 2 rfl (eX (i20+1) h1 (gE rfl rfl))
   refine nx 3 rfl (oI h2 rfl λ hk22 h2=>?_)
   refine bd h2 λ r23 e24 h2=>oK (kd (byt s_0 i20) _ e24) rfl ⟨sr,trivial⟩ Tryz.call101 rfl (nx 2 rfl ?_)
   refine fB [27,28] h2 rfl (λ c25 h2=>?_) λ c25 h2=>?_
   ·refine nx 2 rfl (oI h2 rfl λ hk26 h2=>?_)
    refine nx 2 rfl (fD [32,33] h2 rfl (λ c27 h2=>?_) λ c27 h2=>?_)
    ·exact nx 7 rfl (eX _ (oi h2).symm (gE rfl rfl))
    refine nx 2 rfl (oI h2 rfl λ hk28 h2=>?_)
    exact nx 4 rfl (eX _ (oi h2).symm (gE rfl rfl))
   exact nx 12 rfl (eX _ (oi h2).symm (gE rfl rfl))
  exact nx 2 rfl (eXi _ (oi h1).symm (gE rfl rfl))
 refine nx 2 rfl (oS rfl rfl ?_)
 refine nx 1 rfl (fD [5,6] h1 rfl (λ c1 h1=>?_) λ c1 h1=>?_)
 ·exact nx 11 rfl (eX _ (oi h1).symm (gE rfl rfl))
 refine nx 1 rfl (oLs rfl ?_)
 refine nx 3 rfl (fD [9,10,11] h1 rfl (λ c2 h1=>?_) λ c2 h1=>?_)
 ·exact nx 6 rfl (eX _ (oi h1).symm (gE rfl rfl))
 refine nx 1 rfl (oI h1 rfl λ hk3 h1=>?_)
 refine bd h1 λ r4 e5 h1=>oK (kd (byt s_0 0) _ e5) rfl ⟨sr,trivial⟩ Tryz.call101 rfl (nx 3 rfl ?_)
 exact eX _ (oi h1).symm (gE rfl rfl)
def cV (s_0:Bytes):Nat→Int→Option (Unit⊕Bool)
 | 0,_=>none
 | m+1,i6 =>
 if i6 < (([([109,111,100,117,108,101]:Bytes),([100,97,116,97]:Bytes),([118,97,114]:Bytes),([108,111,99,97,108]:Bytes),([111,117,116,112,117,116]:Bytes),([101,97,99,104]:Bytes),([99,111,117,110,116]:Bytes),([114,101,109,111,116,101]:Bytes),([112,97,116,104]:Bytes),([115,101,108,102]:Bytes),([99,104,97,110,103,101]:Bytes)]).length:Int) then
  ck ((0:Int)≤i6∧i6 < (([([109,111,100,117,108,101]:Bytes),([100,97,116,97]:Bytes),([118,97,114]:Bytes),([108,111,99,97,108]:Bytes),([111,117,116,112,117,116]:Bytes),([101,97,99,104]:Bytes),([99,111,117,110,116]:Bytes),([114,101,109,111,116,101]:Bytes),([112,97,116,104]:Bytes),([115,101,108,102]:Bytes),([99,104,97,110,103,101]:Bytes)]).length:Int)) <|
  if lat ([([109,111,100,117,108,101]:Bytes),([100,97,116,97]:Bytes),([118,97,114]:Bytes),([108,111,99,97,108]:Bytes),([111,117,116,112,117,116]:Bytes),([101,97,99,104]:Bytes),([99,111,117,110,116]:Bytes),([114,101,109,111,116,101]:Bytes),([112,97,116,104]:Bytes),([115,101,108,102]:Bytes),([99,104,97,110,103,101]:Bytes)]) i6=s_0 then
   some (.inr true)
  else
   ck (inR (i6+1)) <|
   cV s_0 m (i6+1)
 else
  some (.inl ())
def gg (n:Nat)(s_0:Bytes):Option Bool :=
 jn (cV s_0 n 0) λ q12 =>
 some false
set_option maxHeartbeats 4000000 in
theorem lC (n:Nat)(s_0:Bytes)(r:Bool)(h0:gg n s_0=some r):aB Tryz.prog 77 [eS s_0] (·=.p (eB r)):=by
 unfold gg at h0
 refine aU good Tryz.func77 rfl rfl rfl λ w0=>mP (λ v:Bool=>.p (eB v)) ?_
 refine nx 6 rfl (mO rfl (bS eS [([109,111,100,117,108,101]:Bytes),([100,97,116,97]:Bytes),([118,97,114]:Bytes),([108,111,99,97,108]:Bytes),([111,117,116,112,117,116]:Bytes),([101,97,99,104]:Bytes),([99,111,117,110,116]:Bytes),([114,101,109,111,116,101]:Bytes),([112,97,116,104]:Bytes),([115,101,108,102]:Bytes),([99,104,97,110,103,101]:Bytes)] rfl rfl rfl rfl rfl rfl rfl rfl rfl rfl rfl rfl rfl rfl ?_))
 refine nx 8 rfl ?_
 obtain ⟨o13,h1,hL0,hR0⟩:=cU h0
 refine kEx 0 (λ v14:Unit=>o13=.inl v14) (λ v14=>⟨[],[]⟩) (λ v14 hv=>?_) ?_
 ·have h0:=hL0 _ hv
  exact nx 6 rfl (mQ (oi h0) rfl (sr))
 refine lG (λ (q15:Int)=>⟨[(0,.p (eS s_0)),(3,.p (eL eS ([([109,111,100,117,108,101]:Bytes),([100,97,116,97]:Bytes),([118,97,114]:Bytes),([108,111,99,97,108]:Bytes),([111,117,116,112,117,116]:Bytes),([101,97,99,104]:Bytes),([99,111,117,110,116]:Bytes),([114,101,109,111,116,101]:Bytes),([112,97,116,104]:Bytes),([115,101,108,102]:Bytes),([99,104,97,110,103,101]:Bytes)]))),(4,.p (eI q15))],[]⟩) (λ m (q15:Int)=>cV s_0 m q15) (λ _=>rfl) 0 h1 (gE rfl rfl) ?_
 rintro m i6 h1
 replace h1:cV s_0 (m+1) i6=some o13:=h1
 rw [cV] at h1
 refine nx 5 rfl (oLl (f:=eS) rfl rfl ?_)
 refine nx 2 rfl (fD [9] h1 rfl (λ c7 h1=>?_) λ c7 h1=>?_)
 ·refine nx 8 rfl (oE h1 (λ _=>rfl) rfl rfl (λ _=>rfl) λ hk8 h1=>?_)
  refine nx 2 rfl (oS rfl rfl ?_)
  refine nx 1 rfl (fD [17] h1 rfl (λ c9 h1=>?_) λ c9 h1=>?_)
  ·exact nx 6 rfl (mQ (hR0 _ (oi h1).symm) rfl (sr))
  refine nx 4 rfl (oA h1 rfl rfl λ hk10 h1=>?_)
  exact nx 2 rfl (eX (i6+1) h1 (gE rfl rfl))
 exact nx 2 rfl (eXi _ (oi h1).symm (gE rfl rfl))
def eA (n:Nat)(a_0:ao):Nat→Int→Option (Unit⊕Int)
 | 0,_=>none
 | m+1,i13 =>
 if i13 < (a_0.fModule.length:Int) then
  ck ((0:Int)≤i13∧i13 < (a_0.fModule.length:Int)) <|
  (cQ n ((lat a_0.fModule i13).fName)).bind λ r16 =>
  if (!r16)=true then
   some (.inr 7)
  else
   ck ((0:Int)≤i13∧i13 < (a_0.fModule.length:Int)) <|
   (iT n ((lat a_0.fModule i13).fKey)).bind λ r20 =>
   if (!r20)=true then
    some (.inr 1)
   else
    ck (inR (i13+1)) <|
    eA n a_0 m (i13+1)
 else
  some (.inl ())
def kb (n:Nat)(a_0:ao):Option Int :=
 if 16 < (a_0.fModule.length:Int) then
  some 4
 else
  jn (eA n a_0 n 0) λ q38 =>
  (
    (cQ n a_0.fType).bind λ r25 =>
    if (!r25)=true then
     some true
    else
     (gg n a_0.fType).bind λ r28 =>
     if r28=true then
      some true
     else
      (cQ n a_0.fName).bind λ r31 =>
      some (!r31)
   : Option Bool).bind λ t33 =>
  if t33=true then
   some 7
  else
   (iT n a_0.fKey).bind λ r35 =>
   if (!r35)=true then
    some 1
   else
    some 0
set_option maxHeartbeats 4000000 in
theorem sx (n:Nat)(a_0:ao)(r:Int)(h0:kb n a_0=some r):aB Tryz.prog 59 [.agg (ao.cs a_0)] (·=.p (eI r)):=by
 unfold kb at h0
 refine aU good Tryz.func59 rfl rfl rfl λ w0=>mP (λ v:Int=>.p (eI v)) ?_
 refine nx 10 rfl (oLl (f:=aj) rfl rfl ?_)
 refine nx 2 rfl (fD [7] h0 rfl (λ c1 h0=>?_) λ c1 h0=>?_)
 ·exact nx 6 rfl (mQ (oi h0) rfl (sr))
 refine nx 8 rfl ?_
 obtain ⟨o40,h1,hL0,hR0⟩:=cU h0
 refine kEx 0 (λ v41:Unit=>o40=.inl v41) (λ v41=>⟨[(1,.ptr 1 0)],[(1,(ao.cs a_0).map .p)]⟩) (λ v41 hv=>?_) ?_
 ·have h0:=hL0 _ hv
  refine nx 3 rfl (bd h0 λ o42 h1 h0=>?_)
  refine kN o42 (λ v43=>⟨[(1,.ptr 1 0),(45,.p (eB v43))],[(1,(ao.cs a_0).map .p)]⟩) ?_ ?_
  ·refine nx 1 rfl (fB [45] h0 rfl (λ c34 h0=>?_) λ c34 h0=>?_)
   ·exact nx 6 rfl (mQ (oi h0) rfl (sr))
   refine nx 7 rfl (bd h0 λ r35 e36 h0=>?_)
   refine oK (kp _ a_0.fKey _ e36) rfl ⟨sr,trivial⟩ Tryz.call79 rfl (nx 2 rfl ?_)
   refine fB [49] h0 rfl (λ c37 h0=>?_) λ c37 h0=>?_
   ·exact nx 6 rfl (mQ (oi h0) rfl (sr))
   exact nx 7 rfl (mQ (oi h0) rfl (sr))
  refine nx 3 rfl (bd h1 λ r25 e26 h1=>?_)
  refine oK (ee _ a_0.fType _ e26) rfl ⟨sr,trivial⟩ Tryz.call76 rfl (nx 2 rfl ?_)
  refine fB [34,35] h1 rfl (λ c27 h1=>?_) λ c27 h1=>?_
  ·exact nx 11 rfl (eX _ (oi h1).symm (gE rfl rfl))
  refine nx 2 rfl (bd h1 λ r28 e29 h1=>?_)
  refine oK (lC _ a_0.fType _ e29) rfl ⟨sr,trivial⟩ Tryz.call77 rfl (nx 2 rfl ?_)
  refine fB [38,39,40] h1 rfl (λ c30 h1=>?_) λ c30 h1=>?_
  ·exact nx 6 rfl (eX _ (oi h1).symm (gE rfl rfl))
  refine nx 2 rfl (bd h1 λ r31 e32 h1=>?_)
  refine oK (ee _ a_0.fName _ e32) rfl ⟨sr,trivial⟩ Tryz.call76 rfl (nx 3 rfl ?_)
  exact eX _ (oi h1).symm (gE rfl rfl)
 refine lG (λ (q44:Int)=>⟨[(1,.ptr 1 0),(3,.p (eI q44))],[(1,(ao.cs a_0).map .p)]⟩) (λ m (q44:Int)=>eA n a_0 m q44) (λ _=>rfl) 0 h1 (gE rfl rfl) ?_
 rintro m i13 h1
 replace h1:eA n a_0 (m+1) i13=some o40:=h1
 rw [eA] at h1
 refine nx 6 rfl (oLl (f:=aj) rfl rfl ?_)
 refine nx 2 rfl (fD [12] h1 rfl (λ c14 h1=>?_) λ c14 h1=>?_)
 ·refine nx 10 rfl (oE h1 ae.cells_eq rfl rfl (λ _=>rfl) λ hk15 h1=>?_)
  refine nx 2 rfl (bd h1 λ r16 e17 h1=>?_)
  refine oK (ee _ ((lat a_0.fModule i13).fName) _ e17) rfl ⟨sr,trivial⟩ Tryz.call76 rfl (nx 2 rfl ?_)
  refine fB [22] h1 rfl (λ c18 h1=>?_) λ c18 h1=>?_
  ·exact nx 6 rfl (mQ (hR0 _ (oi h1).symm) rfl (sr))
  refine nx 7 rfl (oE h1 ae.cells_eq rfl rfl (λ _=>rfl) λ hk19 h1=>?_)
  refine nx 2 rfl (bd h1 λ r20 e21 h1=>?_)
  refine oK (kp _ ((lat a_0.fModule i13).fKey) _ e21) rfl ⟨sr,trivial⟩ Tryz.call79 rfl (nx 2 rfl ?_)
  refine fB [30] h1 rfl (λ c22 h1=>?_) λ c22 h1=>?_
  ·exact nx 6 rfl (mQ (hR0 _ (oi h1).symm) rfl (sr))
  refine nx 4 rfl (oA h1 rfl rfl λ hk23 h1=>?_)
  exact nx 2 rfl (eX (i13+1) h1 (gE rfl rfl))
 exact nx 2 rfl (eXi _ (oi h1).symm (gE rfl rfl))
def eM (n:Nat)(l_0:List ae):Nat→Bytes→Int→Option Bytes
 | 0,_,_=>none
 | m+1,s13,i14 =>
 if i14 < (l_0.length:Int) then
  ck (s13.length+([109,111,100,117,108,101,46]:Bytes).length≤9223372036854775807) <|
  ck ((0:Int)≤i14∧i14 < (l_0.length:Int)) <|
  ck ((s13++([109,111,100,117,108,101,46]:Bytes)).length+((lat l_0 i14).fName).length≤9223372036854775807) <|
  ck ((0:Int)≤i14∧i14 < (l_0.length:Int)) <|
  (fC n ((lat l_0 i14).fKey)).bind λ r20 =>
  ck (((s13++([109,111,100,117,108,101,46]:Bytes))++((lat l_0 i14).fName)).length+r20.length≤9223372036854775807) <|
  ck ((((s13++([109,111,100,117,108,101,46]:Bytes))++((lat l_0 i14).fName))++r20).length+([46]:Bytes).length≤9223372036854775807) <|
  ck (inR (i14+1)) <|
  eM n l_0 m ((((s13++([109,111,100,117,108,101,46]:Bytes))++((lat l_0 i14).fName))++r20)++([46]:Bytes)) (i14+1)
 else
  some s13
def lx (n:Nat)(l_0:List ae):Option Bytes :=
 (eM n l_0 n ([]:Bytes) 0).bind λ s27 =>
 some s27
set_option maxHeartbeats 4000000 in
theorem tp (n:Nat)(l_0:List ae)(r:Bytes)(h0:lx n l_0=some r):aB Tryz.prog 60 [eL aj l_0] (·=.p (eS r)):=by
 unfold lx at h0
 refine aU good Tryz.func60 rfl rfl rfl λ w0=>mP (λ v:Bytes=>.p (eS v)) ?_
 refine nx 14 rfl (bd h0 λ o29 h1 h0=>?_)
 refine kE 0 o29 (λ v30=>⟨[(3,.p (eS v30))],[]⟩) ?_ ?_
 ·exact nx 7 rfl (mQ (oi h0) rfl (sr))
 refine lG (λ (q31:Bytes×Int)=>⟨[(0,.p (eL aj l_0)),(3,.p (eS q31.1)),(4,.p (eI q31.2))],[]⟩) (λ m (q31:Bytes×Int)=>eM n l_0 m q31.1 q31.2) (λ _=>rfl) (([]:Bytes),0) h1 (gE rfl rfl) ?_
 rintro m ⟨s13,i14⟩ h1
 replace h1:eM n l_0 (m+1) s13 i14=some o29:=h1
 rw [eM] at h1
 refine nx 5 rfl (oLl (f:=aj) rfl rfl ?_)
 refine nx 2 rfl (fD [8] h1 rfl (λ c15 h1=>?_) λ c15 h1=>?_)
 ·refine nx 4 rfl (cc' h1 λ hk16 h1=>?_)
  refine cc' h1 λ hk17 h1=>cc' h1 λ hk18 h1=>cc' h1 λ hk19 h1=>bd h1 λ r20 e21 h1=>cc' h1 λ hk22 h1=>cc' h1 λ hk23 h1=>mG (gE (t:=⟨[(0,.p (eL aj l_0)),(3,.p (eS s13)),(4,.p (eI i14))],[]⟩) rfl rfl) (mS ⟨1,[16],(λ _=>none),(by2 [(0,.p (eL aj l_0)),(3,.p (eS s13)),(4,.p (eI i14))] [(0,.p (eL aj l_0)),(4,.p (eI i14))]),(λ _=>[])⟩ rfl rfl rfl ⟨rfl,rfl,rfl,trivial⟩ (lt1 ⟨rfl,rfl,trivial⟩) rfl rfl rfl rfl ?_)
  refine ay (λ _=>.p (eS s13)) rfl rfl rfl (cA rfl (λ _=>rfl)) (lt1 rfl) (aC rfl (ak [(3,_)] ⟨.inl rfl,trivial⟩ (λ sl hsl K hK=>af rfl (bs rfl rfl rfl (hsl _ _ rfl) hK)) ax)) (ay (λ _=>.p (eS (s13++([109,111,100,117,108,101,46]:Bytes)))) rfl rfl rfl (cA rfl (λ _=>rfl)) (lt1 rfl) (aC rfl (ak [(11,_)] ⟨.inr ⟨0,_,rfl,rfl,rfl⟩,trivial⟩ (λ sl hsl K hK=>af rfl (dr rfl rfl rfl (hsl _ _ rfl) rfl hk16 hK)) ax)) ?_)
  refine ay (λ _=>.p (eL aj l_0)) rfl rfl rfl (cA rfl (λ _=>rfl)) (lt1 rfl) (aC rfl (ak [(0,_)] ⟨.inl rfl,trivial⟩ (λ sl hsl K hK=>af rfl (bs rfl rfl rfl (hsl _ _ rfl) hK)) ax)) (ay (λ _=>.p (eI i14)) rfl rfl rfl (cA rfl (λ _=>rfl)) (lt1 rfl) (aC rfl (ak [(4,_)] ⟨.inl rfl,trivial⟩ (λ sl hsl K hK=>af rfl (bs rfl rfl rfl (hsl _ _ rfl) hK)) ax)) ?_)
  refine ay (λ _=>.rptr (ae.cs (lat l_0 i14))) rfl rfl rfl (cA rfl (λ _=>rfl)) (lt1 rfl) (aC rfl (ak [(13,_),(14,_)] ⟨.inr ⟨2,_,rfl,rfl,rfl⟩,.inr ⟨3,_,rfl,rfl,rfl⟩,trivial⟩ (λ sl hsl K hK=>af rfl (bf (f:=aj) (l:=l_0) ae.cs rfl rfl rfl rfl rfl rfl (hsl _ _ rfl) rfl (hsl _ _ rfl) hk17 ae.cells_eq (λ _=>rfl) hK)) ax)) (ay (λ _=>.rptr (List.drop 0 (ae.cs (lat l_0 i14)))) rfl rfl rfl (cA rfl (λ _=>rfl)) (lt1 rfl) (aC rfl (ak [(15,_)] ⟨.inr ⟨4,_,rfl,rfl,rfl⟩,trivial⟩ (λ sl hsl K hK=>af rfl (iq rfl rfl rfl rfl rfl rfl rfl rfl (hsl _ _ rfl) hK)) ax)) ?_)
  refine ay (λ _=>.p (eS ((lat l_0 i14).fName))) rfl rfl rfl (cA rfl (λ _=>rfl)) (lt1 rfl) (aC rfl (ak [(16,_)] ⟨.inr ⟨5,_,rfl,rfl,rfl⟩,trivial⟩ (λ sl hsl K hK=>af rfl (ot rfl rfl rfl rfl rfl (hsl _ _ rfl) rfl hK)) ax)) (ay (λ _=>.p (eS ((s13++([109,111,100,117,108,101,46]:Bytes))++((lat l_0 i14).fName)))) rfl rfl rfl (cA rfl (λ _=>rfl)) (lt1 rfl) (aC rfl (ak [(12,_),(17,_)] ⟨.inr ⟨1,_,rfl,rfl,rfl⟩,.inr ⟨6,_,rfl,rfl,rfl⟩,trivial⟩ (λ sl hsl K hK=>af rfl (dr rfl rfl rfl (hsl _ _ rfl) (hsl _ _ rfl) hk18 hK)) ax)) ?_)
  refine ay (λ _=>.p (eL aj l_0)) rfl rfl rfl (cA rfl (λ _=>rfl)) (lt1 rfl) (aC rfl (ak [(0,_)] ⟨.inl rfl,trivial⟩ (λ sl hsl K hK=>af rfl (bs rfl rfl rfl (hsl _ _ rfl) hK)) ax)) (ay (λ _=>.p (eI i14)) rfl rfl rfl (cA rfl (λ _=>rfl)) (lt1 rfl) (aC rfl (ak [(4,_)] ⟨.inl rfl,trivial⟩ (λ sl hsl K hK=>af rfl (bs rfl rfl rfl (hsl _ _ rfl) hK)) ax)) ?_)
  refine ay (λ _=>.rptr (ae.cs (lat l_0 i14))) rfl rfl rfl (cA rfl (λ _=>rfl)) (lt1 rfl) (aC rfl (ak [(19,_),(20,_)] ⟨.inr ⟨8,_,rfl,rfl,rfl⟩,.inr ⟨9,_,rfl,rfl,rfl⟩,trivial⟩ (λ sl hsl K hK=>af rfl (bf (f:=aj) (l:=l_0) ae.cs rfl rfl rfl rfl rfl rfl (hsl _ _ rfl) rfl (hsl _ _ rfl) hk19 ae.cells_eq (λ _=>rfl) hK)) ax)) (ay (λ _=>.rptr (List.drop 1 (ae.cs (lat l_0 i14)))) rfl rfl rfl (cA rfl (λ _=>rfl)) (lt1 rfl) (aC rfl (ak [(21,_)] ⟨.inr ⟨10,_,rfl,rfl,rfl⟩,trivial⟩ (λ sl hsl K hK=>af rfl (iq rfl rfl rfl rfl rfl rfl rfl rfl (hsl _ _ rfl) hK)) ax)) ?_)
  refine ay (λ _=>.p (.agg (bA.cs ((lat l_0 i14).fKey)))) rfl rfl rfl (cA rfl (λ _=>rfl)) (lt1 rfl) (aC rfl (ak [(22,_)] ⟨.inr ⟨11,_,rfl,rfl,rfl⟩,trivial⟩ (λ sl hsl K hK=>af rfl (uV rfl rfl rfl rfl rfl (hsl _ _ rfl) rfl hK)) ax)) (ay (λ _=>.p (eS r20)) rfl rfl rfl (cA rfl (λ _=>rfl)) (lt1 rfl) (aC rfl (ak [(23,_)] ⟨.inr ⟨12,_,rfl,rfl,rfl⟩,trivial⟩ (λ sl hsl K hK=>af rfl (aJ (lf _ ((lat l_0 i14).fKey) _ e21) rfl rfl rfl (au (hsl _ _ rfl) aK) ⟨sr,trivial⟩ Tryz.call61 rfl hK)) ax)) ?_)
  refine ay (λ _=>.p (eS (((s13++([109,111,100,117,108,101,46]:Bytes))++((lat l_0 i14).fName))++r20))) rfl rfl rfl (cA rfl (λ _=>rfl)) (lt1 rfl) (aC rfl (ak [(18,_),(24,_)] ⟨.inr ⟨7,_,rfl,rfl,rfl⟩,.inr ⟨13,_,rfl,rfl,rfl⟩,trivial⟩ (λ sl hsl K hK=>af rfl (dr rfl rfl rfl (hsl _ _ rfl) (hsl _ _ rfl) hk22 hK)) ax)) (ay (λ _=>.p (eS ((((s13++([109,111,100,117,108,101,46]:Bytes))++((lat l_0 i14).fName))++r20)++([46]:Bytes)))) rfl rfl rfl (cA rfl (λ _=>rfl)) (lt1 rfl) (aC rfl (ak [(25,_)] ⟨.inr ⟨14,_,rfl,rfl,rfl⟩,trivial⟩ (λ sl hsl K hK=>af rfl (dr rfl rfl rfl (hsl _ _ rfl) rfl hk23 hK)) ax)) ?_)
  refine qS (λ _=>.p (eS ((((s13++([109,111,100,117,108,101,46]:Bytes))++((lat l_0 i14).fName))++r20)++([46]:Bytes)))) [(26,_)] rfl ⟨.inr ⟨15,_,rfl,rfl,rfl⟩,trivial⟩ rfl rfl (λ _=>rfl) (lt1 (λ h=>absurd h (by decide))) (λ sl hsl K hK=>af rfl (cv rfl rfl rfl (hsl _ _ rfl) hK)) (kk ?_)
  refine nx 3 rfl (oA h1 rfl rfl λ hk24 h1=>?_)
  exact nx 2 rfl (eX ((((s13++([109,111,100,117,108,101,46]:Bytes))++((lat l_0 i14).fName))++r20)++([46]:Bytes),i14+1) h1 (gE rfl rfl))
 exact nx 2 rfl (eXi _ (oi h1).symm (gE rfl rfl))
def jp (n:Nat)(a_0:ao):Option Bytes :=
 (kb n a_0).bind λ r1 =>
 if r1=0 then
  (lx n a_0.fModule).bind λ r4 =>
  (
    if a_0.fData=true then
     ck (r4.length+([100,97,116,97,46]:Bytes).length≤9223372036854775807) <|
     some (r4++([100,97,116,97,46]:Bytes))
    else
     some r4
   : Option Bytes).bind λ s8 =>
  ck (s8.length+a_0.fType.length≤9223372036854775807) <|
  ck ((s8++a_0.fType).length+([46]:Bytes).length≤9223372036854775807) <|
  ck (((s8++a_0.fType)++([46]:Bytes)).length+a_0.fName.length≤9223372036854775807) <|
  (fC n a_0.fKey).bind λ r12 =>
  ck ((((s8++a_0.fType)++([46]:Bytes))++a_0.fName).length+r12.length≤9223372036854775807) <|
  some ((((s8++a_0.fType)++([46]:Bytes))++a_0.fName)++r12)
 else
  some ([]:Bytes)
set_option maxHeartbeats 4000000 in
theorem rP (n:Nat)(a_0:ao)(r:Bytes)(h0:jp n a_0=some r):aB Tryz.prog 45 [.agg (ao.cs a_0)] (·=.p (eS r)):=by
 unfold jp at h0
 refine aU good Tryz.func45 rfl rfl rfl λ w0=>mP (λ v:Bytes=>.p (eS v)) ?_
 refine nx 9 rfl (bd h0 λ r1 e2 h0=>?_)
 refine oK (sx _ a_0 _ e2) rfl ⟨sr,trivial⟩ Tryz.call59 rfl (nx 2 rfl ?_)
 refine fN [6] h0 rfl (λ c3 h0=>?_) λ c3 h0=>?_
 ·refine nx 6 rfl (bd h0 λ r4 e5 h0=>?_)
  refine oK (tp _ a_0.fModule _ e5) rfl ⟨sr,trivial⟩ Tryz.call60 rfl (nx 3 rfl ?_)
  refine bd h0 λ o16 h1 h0=>kN o16 (λ v17=>⟨[(1,.ptr 1 0),(3,.p (eS v17))],[(1,(ao.cs a_0).map .p)]⟩) ?_ ?_
  ·refine nx 2 rfl (cc' h0 λ hk9 h0=>?_)
   refine cc' h0 λ hk10 h0=>cc' h0 λ hk11 h0=>bd h0 λ r12 e13 h0=>cc' h0 λ hk14 h0=>mD [(1,.ptr 1 0),(3,.p (eS o16))] rfl ⟨rfl,rfl,trivial⟩ rfl (dR 3 rfl ?_)
   refine dq (.p (eS (o16++a_0.fType))) [14,16] rfl (λ _ e _ q=>af rfl (dr rfl rfl rfl (e _ _ rfl) (e _ _ rfl) hk9 q)) rfl (dq (.p (eS ((o16++a_0.fType)++([46]:Bytes)))) [17] rfl (λ _ e _ q=>af rfl (dr rfl rfl rfl (e _ _ rfl) rfl hk10 q)) rfl ?_)
   refine dR 2 rfl (dq (.p (eS (((o16++a_0.fType)++([46]:Bytes))++a_0.fName))) [18,20] rfl (λ _ e _ q=>af rfl (dr rfl rfl rfl (e _ _ rfl) (e _ _ rfl) hk11 q)) rfl ?_)
   refine dR 2 rfl (dq (.p (eS r12)) [23] rfl (λ _ e _ q=>af rfl (aJ (lf _ a_0.fKey _ e13) rfl rfl rfl (au (e _ _ rfl) aK) ⟨sr,trivial⟩ Tryz.call61 rfl q)) rfl ?_)
   refine dq (.p (eS ((((o16++a_0.fType)++([46]:Bytes))++a_0.fName)++r12))) [21,24] rfl (λ _ e _ q=>af rfl (dr rfl rfl rfl (e _ _ rfl) (e _ _ rfl) hk14 q)) rfl (dR 1 rfl ?_)
   refine dE rfl (nx 2 rfl ?_)
   exact mQ (oi h0) rfl (sr)
  refine nx 5 rfl (fB [11] h1 rfl (λ c6 h1=>?_) λ c6 h1=>?_)
  ·refine nx 3 rfl (oC h1 rfl λ hk7 h1=>?_)
   exact nx 2 rfl (eX _ (oi h1).symm (gE rfl rfl))
  exact nx 2 rfl (eX _ (oi h1).symm (gE rfl rfl))
 exact nx 6 rfl (mQ (oi h0) rfl (sr))
end Go.Ab.R06
end
section
set_option linter.unusedVariables false
set_option linter.unusedSimpArgs false
set_option linter.unnecessarySimpa false
namespace Go.Ab.R06
open Go.Ab Go.Ab.RB
theorem BR (s:Bytes)(hs:s.length≤1000000000):∀ (k i:Nat),i+k=s.length→Ev2 (λ _ m=>bE s m (i:Int)) (·=if lK (wO s) i k then .inl () else .inr false):=by
 intro k
 induction k with
 | zero =>
  intro i hi
  refine ap ?_
  simp only [bE]
  refine am (by omega) (ab rfl)
 | succ k ih =>
  intro i hi
  refine ap ?_
  simp only [bE]
  refine al (by omega) (ag (by omega) ?_)
  have hb:byt s i=((s.getD i 0).toNat:Int):=dM s i
  rw [hb]
  have hor:=EQ (s.getD i 0)
  have hok:=kM s i
  rw [pX,ix] at hok
  refine ai (!wO s i) ?_ ?_
  ·generalize s.getD i 0=b at hor hok ⊢
   generalize wO s i=o at hok ⊢
   generalize iOr .u8 ((b.toNat:Nat):Int) 32=v at hor ⊢
   have hT:(pg b=true)→o=true:=λ h=>hok.2 (.inl ((pX b).1 h))
   have mk:∀ x:Bool,(x=true↔¬ (((97≤b.toNat∧b.toNat≤122)∨(65≤b.toNat∧b.toNat≤90)∨b.toNat=95)∨(i≠0∧48≤b.toNat∧b.toNat≤57)))→x=!o:=λ x hx=>eqB (by rw [hx,← hok]; simp)
   refine ag (by omega) (ar (λ h=>ab (mk _ ?_)) (λ h=>ar (λ h1=>?_) (λ h1=>ar (λ h2=>?_) (λ h2=>ab (mk _ ?_)))))
   ·simp; omega
   ·refine ar (λ h3=>ab (mk _ ?_)) (λ h3=>ag (by omega) (ar (λ h4=>ab (mk _ ?_)) (λ h4=>ag (by omega) (ab (mk _ ?_)))))
    ·simp; omega
    ·simp; omega
    ·rw [decide_eq_true_eq]; omega
   ·refine ar (λ h3=>ab (mk _ ?_)) (λ h3=>ag (by omega) (ar (λ h4=>ab (mk _ ?_)) (λ h4=>ag (by omega) (ab (mk _ ?_)))))
    ·simp; omega
    ·simp; omega
    ·rw [decide_eq_true_eq]; omega
   ·simp; omega
  ·cases hk:wO s i with
   | false=>exact al (by simp) (ab (by simp [lK,hk]))
   | true =>
    refine am (by simp) (ag (aF (by omega) (by omega)) ?_)
    have:=ih (i+1) (by omega)
    rw [Int.natCast_add,Int.natCast_one] at this
    simpa [lK,hk] using this
theorem qi (s:Bytes)(hs:s.length≤1000000000):Ev2 (λ n _=>ce n s) (·=bR s):=by
 simp only [ce]
 have h:=BR s hs s.length 0 (by omega)
 have hi:=pw s
 cases ha:lK (wO s) 0 s.length with
 | false =>
  rw [ha] at h hi
  refine fW false (aH h) (eqB ?_)
  rw [hi]; simp
 | true =>
  rw [ha] at h hi
  refine dF () (aH h) ?_
  refine dw (·=bR s) (ar (λ h=>ab (eqB ?_)) (λ h=>ab (eqB ?_))) (λ t ht=>ab ht)
  ·rw [hi]; simp [h]
  ·rw [hi,decide_eq_true_eq]; simp [h]; omega
theorem vE (b:UInt8):gq (b.toNat:Int)=some (pg b):=by
 simp only [gq]
 have h:=pX b
 generalize pg b=o at h ⊢
 have mk:∀ x:Bool,(x=true↔(97≤b.toNat∧b.toNat≤122)∨(65≤b.toNat∧b.toNat≤90)∨b.toNat=95)→some x=some o:=λ x hx=>congrArg some (eqB (by rw [hx,h]))
 repeat' split
 all_goals (simp only [Option.bind_some]; apply mk; first | (rw [decide_eq_true_eq]; omega) | (simp; omega))
theorem zr (s:Bytes)(hs:s.length≤1000000000):∀ (k i:Nat),i+k=s.length→Ev2 (λ _ m=>cT s m (i:Int)) (·=if lK (λ j=>idB (s.getD j 0)) i k then .inl () else .inr false):=by
 intro k
 induction k with
 | zero =>
  intro i hi
  refine ap ?_
  simp only [cT]
  refine am (by omega) (ab rfl)
 | succ k ih =>
  intro i hi
  refine ap ?_
  simp only [cT]
  refine al (by omega) ?_
  have hb:byt s i=((s.getD i 0).toNat:Int):=dM s i
  rw [hb]
  refine ai (!idB (s.getD i 0)) ?_ ?_
  ·refine ag (by omega) (ai _ (aR (vE _) rfl) ?_)
   have h:=ix (s.getD i 0)
   simp only [idB]
   generalize s.getD i 0=b at h ⊢
   cases hl:pg b with
   | true=>exact am (by simp) (ab (by simp))
   | false =>
    refine al (by simp) (ag (by omega) (ar (λ h1=>ab ?_) (λ h1=>ag (by omega) (ab ?_))))
    ·have:dv b=false:=by rw [← Bool.not_eq_true,h]; omega
     simp [this]
    ·refine eqB ?_
     rw [decide_eq_true_eq,Bool.false_or,Bool.not_eq_true',← Bool.not_eq_true,h]
     omega
  ·cases hk:idB (s.getD i 0) with
   | false=>exact al rfl (ab (by simp only [lK,hk,Bool.false_and]; rfl))
   | true =>
    refine am (by simp) (ag (aF (by omega) (by omega)) ?_)
    have:=ih (i+1) (by omega)
    rw [Int.natCast_add,Int.natCast_one] at this
    simp only [lK,hk,Bool.true_and]
    exact this
theorem kz (s:Bytes)(hs:s.length≤1000000000):Ev2 (λ n _=>cQ n s) (·=bR s):=by
 simp only [cQ]
 have hi:=rl s
 refine ai (decide (s=[])||decide (64 < (s.length:Int))||!pg (s.getD 0 0)) ?_ ?_
 ·refine ar (λ h=>ab (by simp [h])) (λ h=>ar (λ h1=>ab (by simp [h1])) (λ h1=>ag ?_ ?_))
  ·have:=List.length_pos_iff.2 h; omega
  ·refine ai (pg (s.getD 0 0)) (aR (vE _) rfl) (ab ?_)
   have:decide (64 < (s.length:Int))=false:=decide_eq_false h1
   simp [h,this]
 ·refine ar (λ h=>ab (eqB ?_)) (λ h=>?_)
  ·rw [hi]; simp at h ⊢; intro q1 q2 q3
   rcases h with (h | h) | h
   ·exact absurd h q1
   ·omega
   ·rw [h] at q3; cases q3
  ·have l:=zr s hs s.length 0 (by omega)
   simp only [Bool.or_eq_true,decide_eq_true_eq,not_or] at h
   obtain ⟨⟨h1,h2⟩,h3⟩:=h
   have h3:pg (s.getD 0 0)=true:=by simpa using h3
   cases ha:lK (λ j=>idB (s.getD j 0)) 0 s.length with
   | false =>
    rw [ha] at l hi
    refine fW false (aH l) (eqB ?_)
    rw [hi]; simp
   | true =>
    rw [ha] at l hi
    refine dF () (aH l) (ab (eqB ?_))
    rw [hi]; simp only [true_iff]
    exact ⟨h1,by omega,h3,trivial⟩
end Go.Ab.R06
end
section
set_option linter.unusedVariables false
set_option linter.unusedSimpArgs false
set_option linter.unnecessarySimpa false
namespace Go.Ab.R06
open Go.Ab Go.Ab.RB Go.Lib
theorem dB (s p:Bytes):hasPrefix s p=true↔∃ t,s=p++t:=by
 unfold hasPrefix
 rw [List.isPrefixOf_iff_prefix]
 exact ⟨λ ⟨t,h⟩=>⟨t,h.symm⟩,λ ⟨t,h⟩=>⟨t,h.symm⟩⟩
theorem iC (p t:Bytes):hasPrefix (p++t) p=true:=(dB _ _).2 ⟨t,rfl⟩
theorem iA (p t:Bytes):trimPrefix (p++t) p=t:=by
 unfold trimPrefix
 rw [iC,if_pos rfl]; simp
theorem lz {s p:Bytes}(h:hasPrefix s p=false):trimPrefix s p=s:=by
 unfold trimPrefix; rw [h]; simp
def gP (r:av)(p:Bytes):Bool×av:=(hasPrefix r.frest p,av.mk (trimPrefix r.frest p) r.fbad)
def gh (r:av)(p:Bytes):av:=av.mk (trimPrefix r.frest p) (r.fbad||!hasPrefix r.frest p)
theorem has_eq (r:av)(p:Bytes):ek r p=some (gP r p):=rfl
theorem sa (r:av)(p:Bytes):dx r p=some (gh r p):=by
 unfold dx strings_CutPrefix gh
 simp only [Option.bind_some]
 cases r.fbad <;> simp
def jC (b:UInt8):Bool:=decide (b.toNat=46)||decide (b.toNat=91)
def jy:Bytes→Nat
 | []=>0
 | b::r=>if jC b=true then 0 else jy r+1
theorem wy:∀ l:Bytes,jy l≤l.length
 | []=>Nat.le_refl _
 | b::r=>by
  unfold jy
  have:=wy r
  split
  ·omega
  ·simp only [List.length_cons]; omega
theorem BI (b:UInt8):([46,91]:Bytes).contains b=jC b:=by
 refine eqB ?_
 have h1:b.toNat=46↔b=46:=kW (by decide)
 have h2:b.toNat=91↔b=91:=kW (by decide)
 unfold jC
 rw [Bool.or_eq_true,decide_eq_true_eq,decide_eq_true_eq,h1,h2]
 simp
theorem tP:∀ l:Bytes,(if indexAny l [46,91] < 0 then (l.length:Int) else indexAny l [46,91])=(jy l:Int)
 | []=>rfl
 | b::r=>by
  have ih:=tP r
  have hge:=indexAny_ge [46,91] r
  unfold indexAny jy
  rw [BI]
  cases hs:jC b with
  | true=>simp
  | false =>
   simp only [Bool.false_eq_true,if_false,List.length_cons]
   by_cases h:indexAny r [46,91]=-1
   ·rw [h] at ih
    simp only [h,beq_self_eq_true,if_true]
    rw [if_pos (by decide)] at ih ⊢
    omega
   ·have hb:(indexAny r [46,91] == -1)=false:=by simp [h]
    rw [hb]
    rw [if_neg (by omega)] at ih
    simp only [Bool.false_eq_true,if_false]
    rw [if_neg (by omega)]
    omega
def cZ (r:av):Bytes×av:=(r.frest.take (jy r.frest),av.mk (r.frest.drop (jy r.frest)) (r.fbad||!bR (r.frest.take (jy r.frest))))
theorem vb (r:av)(hs:r.frest.length≤1000000000):Ev2 (λ n _=>ci n r) (·=cZ r):=by
 simp only [ci]
 have hx:strings_IndexAny r.frest [46,91]=some (indexAny r.frest [46,91]):=by
  unfold strings_IndexAny; exact bI ⟨rfl,by omega⟩
 have hw:=tP r.frest
 have hle:=wy r.frest
 refine ai _ (aR hx rfl) (ai (jy r.frest:Int) ?_ ?_)
 ·rw [← hw]
  refine ar (λ h=>ab (by rw [if_pos h])) (λ h=>ab (by rw [if_neg h]))
 ·refine ag (by omega) (ag (by omega) ?_)
  have e1:sub r.frest 0 (jy r.frest:Int)=r.frest.take (jy r.frest):=by
   show (r.frest.take (jy r.frest:Int).toNat).drop (0:Int).toNat=_
   simp
  rw [e1,fk,Int.toNat_natCast]
  refine ai (r.fbad||!bR (r.frest.take (jy r.frest))) ?_ (ab rfl)
  cases r.fbad with
  | true=>exact al rfl (ab rfl)
  | false=>exact am (by simp) (ai _ (qi _ (by rw [List.length_take]; omega)) (ab (by simp)))
def cw (k:bA):Bool :=
 if k.fKind=0 then decide (k.fNum=0∧k.fStr=([]:Bytes))
 else if k.fKind=1 then decide (0≤k.fNum∧k.fNum≤io∧k.fStr=([]:Bytes))
 else if k.fKind=2 then decide (k.fNum=0)&&(decide (k.fStr.length≤4096)&&validD k.fStr)
 else false
theorem valid_eq (k:bA):fV k=some (cw k):=by
 unfold fV cw
 by_cases h0:k.fKind=0
 ·rw [if_pos h0,if_pos h0]; simp [h0]
 rw [if_neg h0,if_neg h0]
 by_cases h1:k.fKind=1
 ·rw [if_pos h1,if_pos h1]
  by_cases h2:0≤k.fNum
  ·rw [if_pos h2]
   by_cases h3:k.fNum≤9007199254740992
   ·rw [if_pos h3]; simp [h2,io,h3]
   ·rw [if_neg h3]; simp [io,h3]
  ·rw [if_neg h2]; simp [h2]
 rw [if_neg h1,if_neg h1]
 by_cases h2:k.fKind=2
 ·rw [if_pos h2,if_pos h2]
  by_cases h3:k.fNum=0
  ·rw [if_pos h3,Ep]; simp [h3]
  ·rw [if_neg h3]; simp [h3]
 ·rw [if_neg h2,if_neg h2]
def jR:bA:=bA.mk 0 0 []
def idx (l:Bytes)(c:UInt8):Nat:=(indexByte l c).toNat
def jI (r:av):bA×av :=
 if r.fbad=true then (jR,r) else if hasPrefix r.frest [91]=false then (jR,r)
 else if hasPrefix (r.frest.drop 1) [34]=true then
  (if (jF (r.frest.drop 1)).2.2=0∧dI (jF (r.frest.drop 1)).1=(r.frest.drop 1).take (jF (r.frest.drop 1)).2.1.toNat then
   (bA.mk 2 0 (jF (r.frest.drop 1)).1,gh (av.mk ((r.frest.drop 1).drop (jF (r.frest.drop 1)).2.1.toNat) false) [93])
   else (jR,av.mk (r.frest.drop 1) true))
 else (bA.mk 1 (qY ((r.frest.drop 1).take (idx (r.frest.drop 1) 93))).1 [],
   gh (av.mk ((r.frest.drop 1).drop (idx (r.frest.drop 1) 93)) (!(decide ((qY ((r.frest.drop 1).take (idx (r.frest.drop 1) 93))).2=0)&&!decide ((qY ((r.frest.drop 1).take (idx (r.frest.drop 1) 93))).1 < 0)))) [93])
theorem nR (l:Bytes)(n:Int):sub l 0 n=l.take n.toNat:=by
 show (l.take n.toNat).drop (0:Int).toNat=_
 simp
theorem index_le:∀ (l:Bytes) (c:UInt8),indexByte l c≤l.length
 | [],_=>by simp [indexByte]
 | b::r,c=>by
  have:=index_le r c
  unfold indexByte
  simp only [List.length_cons]
  split
  ·omega
  ·split <;> omega
theorem Bt (r:av)(hs:r.frest.length≤900000000):Ev2 (λ n _=>cI n r) (·=jI r):=by
 simp only [cI]
 cases hb:r.fbad with
 | true =>
  refine ai (true,r.frest,r.fbad) (al rfl (ab (by rw [hb]))) (al rfl (ab ?_))
  unfold jI
  rw [if_pos hb]; rfl
 | false =>
  cases hp:hasPrefix r.frest [91] with
  | false =>
   refine ai (true,r.frest,r.fbad) (am (by simp) (ai _ (aR (has_eq _ _) rfl) (ab ?_))) (al rfl (ab ?_))
   ·unfold gP; simp only [hp,lz hp,Bool.not_false]
   ·unfold jI
    rw [if_neg (by simp [hb]),if_pos hp]; rfl
  | true =>
   obtain ⟨t,ht⟩:=(dB _ _).1 hp
   have hd:r.frest.drop 1=t:=by rw [ht]; rfl
   have htl:t.length≤900000000:=by rw [ht] at hs; simp at hs; omega
   refine ai (false,t,false) (am (by simp) (ai _ (aR (has_eq _ _) rfl) (ab ?_))) (am (by simp) ?_)
   ·unfold gP; simp only [hp,Bool.not_true,hb]; rw [ht,iA]
   unfold jI
   rw [if_neg (by simp [hb]),if_neg (by simp [hp]),hd]
   have hx:strings_HasPrefix t [34]=some (hasPrefix t [34]):=rfl
   cases hq:hasPrefix t [34] with
   | true =>
    rw [hq] at hx
    have hle:=yd t
    have hu:=Ei t (by omega)
    rw [if_pos rfl]
    generalize jF t=U at hle hu ⊢
    obtain ⟨x,n,e⟩:=U
    simp only at hle ⊢
    by_cases he:e=0∧dI x=t.take n.toNat
    ·rw [if_pos he]
     refine ls (ai _ (aR hx rfl) (al rfl (ai _ hu (ai false ?_ (am (by simp) (ag (by dsimp only; omega) (ab ?_)))))))
     ·refine al he.1 (ai _ (sF x (by omega)) (ag (by dsimp only; omega) (ab ?_)))
      rw [nR,decide_eq_true he.2]; rfl
     ·refine ai _ (aR (sa _ _) rfl) (ab ?_)
      rw [fk]
    ·rw [if_neg he]
     refine ls (ai _ (aR hx rfl) (al rfl (ai _ hu (ai true ?_ (al rfl (ab ?_))))))
     ·by_cases h0:e=0
      ·refine al h0 (ai _ (sF x (by omega)) (ag (by dsimp only; omega) (ab ?_)))
       rw [nR,decide_eq_false (λ q=>he ⟨h0,q⟩)]; rfl
      ·exact am h0 (ab rfl)
     ·rfl
   | false =>
    rw [hq] at hx
    rw [if_neg (by simp)]
    have hi:strings_IndexByte t 93=some (indexByte t 93):=rfl
    have hge:=indexByte_ge t 93
    have hle:=index_le t 93
    have hm:(if indexByte t 93 < 0 then (0:Int) else indexByte t 93)=(idx t 93:Int):=by
     unfold idx
     split <;> omega
    have hil:(idx t 93:Int)≤t.length:=by rw [← hm]; split <;> omega
    refine ls (ai _ (aR hx rfl) (am (by simp) (ai _ (aR hi rfl) ?_)))
    rw [hm]
    refine ag (by dsimp only; omega) ?_
    rw [nR,Int.toNat_natCast]
    refine ai _ (wA _ (by rw [List.length_take]; omega)) ?_
    generalize qY (t.take (idx t 93))=N
    obtain ⟨v,e⟩:=N
    simp only
    refine ai (!(decide (e=0)&&!decide (v < 0))) ?_ (ag (by omega) (ab ?_))
    ·refine ar (λ h=>ab (by simp [h])) (λ h=>ab (by simp [h]))
    ·refine ai _ (aR (sa _ _) rfl) (ab ?_)
     rw [fk,Int.toNat_natCast]
def stepT (r:av):ae×av:=(ae.mk (cZ r).1 (jI (cZ r).2).1,(jI (cZ r).2).2)
theorem Db (r:av)(hs:r.frest.length≤900000000):Ev2 (λ n _=>cS n r) (·=stepT r):=by
 simp only [cS]
 refine ai _ (vb r (by omega)) (ai _ (Bt (cZ r).2 ?_) (ab rfl))
 show (r.frest.drop _).length≤_
 rw [List.length_drop]; omega
def iL:Bytes:=[109,111,100,117,108,101,46]
def f0:Nat→List ae→av→List ae×av
 | 0,ms,r=>(ms,r)
 | n+1,ms,r=>if r.fbad=false∧hasPrefix r.frest iL=true then
   f0 n (ms++[(stepT (av.mk (r.frest.drop 7) false)).1]) (gh (stepT (av.mk (r.frest.drop 7) false)).2 [46])
  else (ms,r)
theorem mt (s p:Bytes):(trimPrefix s p).length≤s.length:=trimPrefix_le s p
theorem BH (r:av):(jI r).2.frest.length≤r.frest.length:=by
 unfold jI
 split
 ·exact Nat.le_refl _
 split
 ·exact Nat.le_refl _
 split
 ·split
  ·unfold gh
   have:=mt ((r.frest.drop 1).drop (jF (r.frest.drop 1)).2.1.toNat) [93]
   simp only [List.length_drop] at this ⊢; omega
  ·simp
 ·unfold gh
  have:=mt ((r.frest.drop 1).drop (idx (r.frest.drop 1) 93)) [93]
  simp only [List.length_drop] at this ⊢; omega
theorem uZ (r:av):(stepT r).2.frest.length≤r.frest.length:=by
 unfold stepT
 have:=BH (cZ r).2
 have h2:(cZ r).2.frest.length≤r.frest.length:=by
  show (r.frest.drop _).length≤_
  rw [List.length_drop]; omega
 simp only; omega
theorem uF (r:av)(p:Bytes):(gh r p).frest.length≤r.frest.length:=mt _ _
theorem qf {s p:Bytes}(h:hasPrefix s p=true):p.length≤s.length:=by
 obtain ⟨t,rfl⟩:=(dB _ _).1 h; simp
theorem AO:∀ (k:Nat) (ms:List ae) (r:av),r.frest.length < k→r.frest.length+ms.length≤900000000→Ev2 (λ n m=>cR n m ms r.frest r.fbad) (·=((f0 k ms r).1,(f0 k ms r).2.frest,(f0 k ms r).2.fbad)):=by
 intro k
 induction k with
 | zero=>intro ms r h; omega
 | succ k ih =>
  intro ms r hk hl
  refine ap ?_
  simp only [cR]
  unfold f0
  by_cases hc:r.fbad=false∧hasPrefix r.frest iL=true
  ·rw [if_pos hc]
   have hpl:=qf hc.2
   obtain ⟨t,ht⟩:=(dB _ _).1 hc.2
   have hd:r.frest.drop 7=t:=by rw [ht]; rfl
   have htl:t.length+7=r.frest.length:=by rw [ht]; simp [iL] <;> omega
   rw [hd]
   refine ai (true,t,false) (al (by simp [hc.1]) (ai _ (aR (has_eq _ _) rfl) (ab ?_))) (al rfl ?_)
   ·unfold gP
    show (hasPrefix r.frest iL,trimPrefix r.frest iL,r.fbad)=_
    rw [hc.2,hc.1,ht,iA]
   refine ai _ (Db (av.mk t false) (by simp only; omega)) (ag (by simp; omega) (ai _ (aR (sa _ _) rfl) ?_))
   have h1:=uZ (av.mk t false)
   have h2:=uF (stepT (av.mk t false)).2 [46]
   simp only at h1
   exact ih _ _ (by omega) (by simp; omega)
  ·rw [if_neg hc]
   refine ai (false,r.frest,r.fbad) ?_ (am (by simp) (ab rfl))
   cases hb:r.fbad with
   | true=>exact am (by simp) (ab rfl)
   | false =>
    have hp:hasPrefix r.frest iL=false:=by
     cases h:hasPrefix r.frest iL with
     | false=>rfl
     | true=>exact absurd ⟨hb,h⟩ hc
    refine al rfl (ai _ (aR (has_eq _ _) rfl) (ab ?_))
    unfold gP
    show (hasPrefix r.frest iL,trimPrefix r.frest iL,_)=_
    rw [hp,lz hp]
def eN (s:Bytes):Bool:=([[109,111,100,117,108,101],[100,97,116,97],[118,97,114],[108,111,99,97,108],[101,97,99,104],[99,111,117,110,116],[114,101,109,111,116,101],[111,117,116,112,117,116],[112,97,116,104],[115,101,108,102],[99,104,97,110,103,101]]:List Bytes).contains s
def gN (s:Bytes):Bool:=!eN s&&bR s
theorem yD (s:Bytes)(hs:s.length≤1000000000):Ev2 (λ n _=>d6 n s) (·=gN s):=by
 simp only [d6]
 refine ai (eN s) ?_ ?_
 ·unfold eN
  simp only [List.contains_cons,List.contains_nil,Bool.or_false]
  repeat' refine ar (λ h=>ab (by simp [h])) (λ h=>?_)
  refine ab (eqB ?_)
  simp [*]
 ·unfold gN
  cases eN s with
  | true=>exact al rfl (ab rfl)
  | false=>exact am (by simp) (ai _ (qi s hs) (ab (by simp)))
def bB:Bytes:=[100,97,116,97,46]
def lJ:ao:=ao.mk [] false [] [] jR
def fG (r:av):Bool×Bytes×Bytes×bA×av :=
 let h:=gP r bB
 let t:=cZ h.2
 let n:=cZ (gh t.2 [46])
 let k:=jI n.2
 (h.1,t.1,n.1,k.1,k.2)
def iN (s:Bytes):ao×Int :=
 let p:=f0 (s.length+1) [] (av.mk s false)
 let t:=fG p.2
 if t.2.2.2.2.fbad=true∨t.2.2.2.2.frest≠[]∨gN t.2.1=false then (lJ,2)
 else if 16 < p.1.length then (lJ,4)
 else (ao.mk p.1 t.1 t.2.1 t.2.2.1 t.2.2.2.1,0)
theorem sQ:∀ (k:Nat) (ms:List ae) (r:av),(f0 k ms r).2.frest.length≤r.frest.length
 | 0,_,_=>Nat.le_refl _
 | k+1,ms,r=>by
  unfold f0
  split
  ·have h1:=uZ (av.mk (r.frest.drop 7) false)
   have h2:=uF (stepT (av.mk (r.frest.drop 7) false)).2 [46]
   have h3:=sQ k (ms++[(stepT (av.mk (r.frest.drop 7) false)).1]) (gh (stepT (av.mk (r.frest.drop 7) false)).2 [46])
   simp only [List.length_drop] at h1
   omega
  ·exact Nat.le_refl _
theorem Bl (s:Bytes)(hs:s.length≤800000000):Ev2 (λ n _=>eW n s) (·=iN s):=by
 simp only [eW]
 have l:=AO (s.length+1) [] (av.mk s false) (by simp) (by simp; omega)
 have hl:=sQ (s.length+1) [] (av.mk s false)
 refine ai _ (aH l) ?_
 unfold iN
 generalize f0 (s.length+1) [] (av.mk s false)=p at hl ⊢
 obtain ⟨ms,r⟩:=p
 simp only at hl ⊢
 have e:av.mk r.frest r.fbad=r:=rfl
 rw [e]
 have l1:(gP r bB).2.frest.length≤s.length:=Nat.le_trans (mt _ _) hl
 refine ai _ (aR (has_eq r _) rfl) (ai _ (vb _ (Nat.le_trans l1 (by omega))) (ai _ (aR (sa _ _) rfl) ?_))
 have l2:(gh (cZ (gP r bB).2).2 [46]).frest.length≤s.length:=by
  refine Nat.le_trans (mt _ _) ?_
  show ((gP r bB).2.frest.drop _).length≤_
  rw [List.length_drop]; omega
 refine ai _ (vb _ (Nat.le_trans l2 (by omega))) ?_
 have l3:(cZ (gh (cZ (gP r bB).2).2 [46])).2.frest.length≤s.length:=by
  show (List.drop _ _).length≤_
  rw [List.length_drop]; omega
 refine ai _ (Bt _ (Nat.le_trans l3 (by omega))) ?_
 show Ev2 _ (·=(if (fG r).2.2.2.2.fbad=true∨(fG r).2.2.2.2.frest≠[]∨gN (fG r).2.1=false then (lJ,2) else if 16 < ms.length then (lJ,4) else (ao.mk ms (fG r).1 (fG r).2.1 (fG r).2.2.1 (fG r).2.2.2.1,0)))
 have l4:(cZ (gP r bB).2).1.length≤1000000000:=by
  show (List.take _ _).length≤_
  rw [List.length_take]; omega
 have hk:=yD _ l4
 show Ev2 (λ n m=>((if (fG r).2.2.2.2.fbad=true then some true else if (fG r).2.2.2.2.frest=([]:Bytes) then (d6 n (fG r).2.1).bind λ r49=>some (!r49) else some true:Option Bool)).bind λ t51=>_) _
 have hk:Ev2 (λ n _=>d6 n (fG r).2.1) (·=gN (fG r).2.1):=hk
 refine ai (decide ((fG r).2.2.2.2.fbad=true∨(fG r).2.2.2.2.frest≠[]∨gN (fG r).2.1=false)) ?_ ?_
 ·refine ar (λ h=>ab (by simp [h])) (λ h=>ar (λ h1=>ai _ hk (ab ?_)) (λ h1=>ab (by simp [h1])))
  cases gN (fG r).2.1 <;> simp [h,h1]
 ·refine ar (λ h=>ab ?_) (λ h=>?_)
  ·rw [if_pos (of_decide_eq_true h)]; rfl
  ·rw [if_neg (λ q=>h (decide_eq_true q))]
   refine ar (λ h=>ab ?_) (λ h=>ab ?_)
   ·rw [if_pos (by omega)]; rfl
   ·rw [if_neg (by omega)]; rfl
end Go.Ab.R06
namespace Go.Ab.R06
open Go.Ab Go.Ab.RB Go.Lib
def iK:List ae→Int
 | []=>0
 | x::r=>if bR x.fName=false then 7 else if cw x.fKey=false then 1 else iK r
def nQ (a:ao):Int :=
 if 16 < a.fModule.length then 4 else if iK a.fModule≠0 then iK a.fModule
 else if gN a.fType=false∨bR a.fName=false then 7 else if cw a.fKey=false then 1 else 0
def Sm (a:ao):Prop:=a.fModule.length≤100000∧a.fType.length≤100000∧a.fName.length≤100000∧∀ x∈a.fModule,x.fName.length≤100000
theorem Au (a:ao)(ha:Sm a):∀ (k i:Nat),i+k=a.fModule.length→Ev2 (λ n m=>cz n a m (i:Int)) (·=if iK (a.fModule.drop i)=0 then .inl () else .inr (iK (a.fModule.drop i))):=by
 intro k
 induction k with
 | zero =>
  intro i hi
  refine ap ?_
  simp only [cz]
  refine am (by omega) (ab ?_)
  rw [List.drop_of_length_le (by omega)]; rfl
 | succ k ih =>
  intro i hi
  refine ap ?_
  simp only [cz]
  have hil:i < a.fModule.length:=by omega
  refine al (by omega) (ag (by omega) ?_)
  rw [d7 _ _ hil,List.drop_eq_getElem_cons hil]
  have hx:=ha.2.2.2 _ (List.getElem_mem hil)
  have:=ih (i+1) (by omega)
  have hlen:=ha.1
  generalize a.fModule[i]=x at hx ⊢
  unfold iK
  refine ai _ (qi x.fName (by omega)) ?_
  cases h1:bR x.fName with
  | false=>exact al rfl (ab (by simp))
  | true =>
   refine am (by simp) (ai _ (aR (valid_eq _) rfl) ?_)
   cases h2:cw x.fKey with
   | false=>exact al rfl (ab (by simp))
   | true =>
    refine am (by simp) (ag (aF (by omega) (by omega)) ?_)
    rw [Int.natCast_add,Int.natCast_one] at this
    simpa using this
theorem Cl (a:ao)(ha:Sm a):Ev2 (λ n _=>eZ n a) (·=nQ a):=by
 simp only [eZ]
 unfold nQ
 refine ar (λ h=>ab (by rw [if_pos (by omega)])) (λ h=>?_)
 rw [if_neg (show ¬ 16 < a.fModule.length by omega)]
 have l:=Au a ha a.fModule.length 0 (by omega)
 rw [List.drop_zero] at l
 by_cases he:iK a.fModule=0
 ·rw [if_pos he] at l
  rw [if_neg (by simp [he])]
  refine dF () (aH l) ?_
  refine ai (decide (gN a.fType=false∨bR a.fName=false)) ?_ ?_
  ·refine ai _ (yD _ (by have:=ha.2.1; omega)) ?_
   cases gN a.fType with
   | false=>exact al rfl (ab (by simp))
   | true =>
    refine am (by simp) (ai _ (qi _ (by have:=ha.2.2.1; omega)) (ab ?_))
    cases bR a.fName <;> simp
  ·refine ar (λ h=>ab (by rw [if_pos (of_decide_eq_true h)])) (λ h=>?_)
   rw [if_neg (λ q=>h (decide_eq_true q))]
   refine ai _ (aR (valid_eq _) rfl) ?_
   cases cw a.fKey with
   | false=>exact al rfl (ab (by simp))
   | true=>exact am (by simp) (ab (by simp))
 ·rw [if_neg he] at l
  rw [if_pos he]
  exact fW _ (aH l) rfl
theorem rG:∀ ms:List ae,iK ms=0↔∀ x∈ms,bR x.fName=true∧cw x.fKey=true
 | []=>by simp [iK]
 | x::r=>by
  have ih:=rG r
  unfold iK
  cases h1:bR x.fName with
  | false=>simp [h1]
  | true =>
   cases h2:cw x.fKey with
   | false=>simp [h1,h2]
   | true=>simp [h1,h2,ih]
theorem nM (a:ao):nQ a=0↔a.fModule.length≤16∧(∀ x∈a.fModule,bR x.fName=true∧cw x.fKey=true)∧gN a.fType=true∧bR a.fName=true∧cw a.fKey=true:=by
 rw [← rG]
 unfold nQ
 by_cases h:16 < a.fModule.length
 ·rw [if_pos h]; simp; omega
 rw [if_neg h]
 by_cases h2:iK a.fModule=0
 ·rw [if_neg (by simp [h2])]
  cases gN a.fType <;> cases bR a.fName <;> cases cw a.fKey <;> simp [h2] <;> omega
 ·rw [if_pos h2]
  constructor
  ·intro q; exact absurd q h2
  ·intro q; exact q.2.1
theorem fT {s:Bytes}(h:bR s=true):s.length≤64:=((pw s).1 h).2.1
def aL (k:bA):Bytes:=if cw k=false∨k.fKind=0 then [] else if k.fKind=1 then [91]++itoa k.fNum++[93] else [91]++dI k.fStr++[93]
def bU (x:ae):Bytes:=iL++x.fName++aL x.fKey++[46]
def gU (a:ao):Bytes:=a.fModule.flatMap bU++((if a.fData=true then bB else [])++(a.fType++[46]++a.fName++aL a.fKey))
def pK (a:ao):Bytes:=if nQ a=0 then gU a else []
theorem mn {k:bA}(h:cw k=true)(h1:k.fKind=1):0≤k.fNum∧k.fNum≤io∧k.fStr=[]:=by
 unfold cw at h
 rw [if_neg (by omega),if_pos h1] at h
 exact of_decide_eq_true h
theorem ka {k:bA}(h:cw k=true):k.fKind=0∨k.fKind=1∨k.fKind=2:=by
 unfold cw at h
 split at h
 ·left; assumption
 split at h
 ·right; left; assumption
 split at h
 ·right; right; assumption
 ·cases h
theorem mg {k:bA}(h:cw k=true)(h1:k.fKind=2):k.fNum=0∧k.fStr.length≤4096∧validD k.fStr=true:=by
 unfold cw at h
 rw [if_neg (by omega),if_neg (by omega),if_pos h1] at h
 simpa using h
theorem tH {k:bA}(h:cw k=true)(h1:k.fKind=0):k=jR:=by
 unfold cw at h
 rw [if_pos h1] at h
 have:=of_decide_eq_true h
 cases k
 simp only at *
 rw [h1,this.1,this.2]; rfl
theorem qT (s:Bytes):(dI s).length≤6*s.length+2:=by
 have:=(sy s).2
 unfold dI
 simp only [List.length_cons,List.length_append,List.length_nil]; omega
theorem j5 (k:bA):(aL k).length≤24600:=by
 unfold aL
 split
 ·simp
 ·rename_i h
  have hk:cw k=true:=by
   cases hh:cw k with
   | true=>rfl
   | false=>exact absurd (.inl hh) h
  split
  ·rename_i h1
   have hn:=mn hk h1
   have:=pY hn.1 hn.2.1
   simp only [List.length_append,List.length_cons,List.length_nil]; omega
  ·rename_i h1
   have h2:k.fKind=2:=by
    rcases ka hk with q | q | q
    ·exact absurd (.inr q) h
    ·exact absurd q h1
    ·exact q
   have hs:=mg hk h2
   have:=qT k.fStr
   simp only [List.length_append,List.length_cons,List.length_nil]; omega
theorem x9 (k:bA):Ev2 (λ n _=>cW n k) (·=aL k):=by
 simp only [cW]
 unfold aL
 refine ai (decide (cw k=false∨k.fKind=0)) ?_ ?_
 ·refine ai _ (aR (valid_eq _) rfl) ?_
  cases cw k with
  | false=>exact al rfl (ab (by simp))
  | true=>exact am (by simp) (ab (by simp))
 ·refine ar (λ h=>ab (by rw [if_pos (of_decide_eq_true h)])) (λ h=>?_)
  have h:=λ q=>h (decide_eq_true q)
  rw [if_neg h]
  have hk:cw k=true:=by
   cases hh:cw k with
   | true=>rfl
   | false=>exact absurd (.inl hh) h
  refine ar (λ h1=>?_) (λ h1=>?_)
  ·rw [if_pos h1]
   have hn:=mn hk h1
   have hl:=pY hn.1 hn.2.1
   have hf:ir k.fNum=some (itoa k.fNum):=by
    unfold ir strconv_Itoa
    rw [bI (aF (by omega) (by have:=hn.2.1; unfold io at this; omega))]; rfl
   refine ai _ (aR hf rfl) (ag (by simp only [List.length_cons,List.length_nil]; omega) (ag (by simp only [List.length_append,List.length_cons,List.length_nil]; omega) (ab rfl)))
  ·rw [if_neg h1]
   have h2:k.fKind=2:=by
    rcases ka hk with q | q | q
    ·exact absurd (.inr q) h
    ·exact absurd q h1
    ·exact q
   have hs:=mg hk h2
   have hl:=qT k.fStr
   refine ai _ (sF _ (by omega)) (ag (by simp only [List.length_cons,List.length_nil]; omega) (ag (by simp only [List.length_append,List.length_cons,List.length_nil]; omega) (ab rfl)))
theorem mF {x:ae}(h:bR x.fName=true):(bU x).length≤25000:=by
 have h1:=fT h
 have h2:=j5 x.fKey
 unfold bU iL
 simp only [List.length_append,List.length_cons,List.length_nil]; omega
theorem qX:∀ (ms:List ae),(∀ x∈ms,bR x.fName=true)→(ms.flatMap bU).length≤25000*ms.length
 | [],_=>by simp
 | x::r,h=>by
  have:=qX r λ y hy=>h y (List.mem_cons_of_mem _ hy)
  have h1:=mF (h x List.mem_cons_self)
  simp only [List.flatMap_cons,List.length_append,List.length_cons]; omega
theorem zA (a:ao)(hm:a.fModule.length≤16)(ha:∀ x∈a.fModule,bR x.fName=true):∀ (k i:Nat) (f:Bytes),i+k=a.fModule.length→f.length≤25000*i→Ev2 (λ n m=>co n a m (i:Int) f) (·=f++(a.fModule.drop i).flatMap bU):=by
 intro k
 induction k with
 | zero =>
  intro i f hi hf
  refine ap ?_
  simp only [co]
  refine am (by omega) (ab ?_)
  rw [List.drop_of_length_le (by omega)]; simp
 | succ k ih =>
  intro i f hi hf
  refine ap ?_
  simp only [co]
  have hil:i < a.fModule.length:=by omega
  refine al (by omega) (ag (by omega) ?_)
  rw [d7 _ _ hil,List.drop_eq_getElem_cons hil]
  have hx:=ha _ (List.getElem_mem hil)
  generalize a.fModule[i]=x at hx ⊢
  have h1:=fT hx
  have h2:=j5 x.fKey
  have h3:=mF hx
  refine ag (by simp only [List.length_cons,List.length_nil]; omega) (ai _ (x9 x.fKey) ?_)
  refine ag (by simp only [List.length_append,List.length_cons,List.length_nil]; omega) (ag (by simp only [List.length_append,List.length_cons,List.length_nil]; omega) ?_)
  have e:((([109,111,100,117,108,101,46]:Bytes)++x.fName)++aL x.fKey)++([46]:Bytes)=bU x:=rfl
  rw [e]
  refine ai _ (aR (w2 f (bU x) (by omega)) rfl) (ag (aF (by omega) (by omega)) ?_)
  have:=ih (i+1) (f++bU x) (by omega) (by rw [List.length_append]; omega)
  rw [Int.natCast_add,Int.natCast_one] at this
  simpa using this
theorem za (a:ao)(ha:Sm a):Ev2 (λ n _=>eG n a) (·=pK a):=by
 simp only [eG]
 unfold pK
 refine ai _ (Cl a ha) (ar (λ h=>?_) (λ h=>ab (by rw [if_neg h])))
 rw [if_pos h]
 obtain ⟨c1,c2,c3,c4,c5⟩:=(nM a).1 h
 have l:=zA a c1 (λ x hx=>(c2 x hx).1) a.fModule.length 0 [] (by omega) (by simp)
 have hl:=qX a.fModule (λ x hx=>(c2 x hx).1)
 rw [List.drop_zero] at l
 refine ai _ (aH l) ?_
 unfold gU
 generalize a.fModule.flatMap bU=st at hl ⊢
 have h1:a.fType.length≤64:=by
  unfold gN at c3
  rw [Bool.and_eq_true] at c3
  exact fT c3.2
 have h2:=fT c4
 have h3:=j5 a.fKey
 refine ai (st++(if a.fData=true then bB else [])) ?_ ?_
 ·refine ar (λ h=>?_) (λ h=>ab (by rw [if_neg h]; simp))
  rw [if_pos h]
  exact ai _ (aR (w2 _ [100,97,116,97,46] (by simp only [List.nil_append,List.length_cons,List.length_nil]; omega)) rfl) (ab (by simp [bB]))
 ·have hd:(if a.fData=true then bB else ([]:Bytes)).length≤5:=by split <;> simp [bB]
  refine ag (by simp only [List.length_cons,List.length_nil]; omega) (ag (by simp only [List.length_append,List.length_cons,List.length_nil]; omega) (ai _ (x9 a.fKey) (ag (by simp only [List.length_append,List.length_cons,List.length_nil]; omega) ?_)))
  refine ai _ (aR (w2 _ _ (by simp only [List.length_append,List.length_cons,List.length_nil]; omega)) rfl) (ai _ (aR (DU _ (by simp only [List.length_append,List.length_cons,List.length_nil]; omega)) rfl) (ab ?_))
  simp
theorem kZ {r:av}(h:(cZ r).2.fbad=false):r.fbad=false∧bR (cZ r).1=true∧r.frest=(cZ r).1++(cZ r).2.frest:=by
 unfold cZ at *
 simp only [Bool.or_eq_false_iff,Bool.not_eq_false'] at h
 exact ⟨h.1,h.2,(List.take_append_drop _ _).symm⟩
theorem lj {r:av}{p:Bytes}(h:(gh r p).fbad=false):r.fbad=false∧r.frest=p++(gh r p).frest:=by
 unfold gh at *
 simp only [Bool.or_eq_false_iff,Bool.not_eq_false'] at h
 obtain ⟨t,ht⟩:=(dB _ _).1 h.2
 refine ⟨h.1,?_⟩
 simp only
 rw [ht,iA]
theorem qI {r:av}(h:(jI r).2.fbad=false):r.fbad=false∧cw (jI r).1=true∧r.frest=aL (jI r).1++(jI r).2.frest:=by
 have hno:cw jR=true∧aL jR=[]:=⟨rfl,rfl⟩
 unfold jI at *
 by_cases hb:r.fbad=true
 ·rw [if_pos hb] at h; rw [hb] at h; cases h
 rw [if_neg hb] at h ⊢
 have hb:r.fbad=false:=by simpa using hb
 by_cases hp:hasPrefix r.frest [91]=false
 ·rw [if_pos hp] at h ⊢
  exact ⟨hb,hno.1,by rw [hno.2]; rfl⟩
 rw [if_neg hp] at h ⊢
 obtain ⟨l,hl⟩:=(dB _ _).1 (by simpa using hp)
 have hd:r.frest.drop 1=l:=by rw [hl]; rfl
 rw [hd] at h ⊢
 by_cases hq:hasPrefix l [34]=true
 ·rw [if_pos hq] at h ⊢
  have hok:=@vu l
  generalize jF l=U at h hok ⊢
  obtain ⟨x,n,e⟩:=U
  simp only at h ⊢
  by_cases he:e=0∧dI x=l.take n.toNat
  ·rw [if_pos he] at h ⊢
   obtain ⟨rfl,he⟩:=he
   have hx:=hok rfl
   have hs:=lj h
   have hko:cw (bA.mk 2 0 x)=true:=by
    unfold cw
    simp [hx.1,hx.2.1]
   refine ⟨hb,hko,?_⟩
   have ht:aL (bA.mk 2 0 x)=[91]++dI x++[93]:=by
    unfold aL
    rw [if_neg (by rw [hko]; simp),if_neg (by simp)]
   rw [ht,hl,he]
   have h2:=hs.2
   simp only at h2
   rw [List.append_assoc,List.append_assoc,← h2,List.take_append_drop]
  ·rw [if_neg he] at h; cases h
 ·rw [if_neg hq] at h ⊢
  have hs:=lj h
  simp only at hs
  generalize hN:qY (l.take (idx l 93))=N at h hs ⊢
  obtain ⟨v,e⟩:=N
  simp only at hs h ⊢
  have h1:=hs.1
  have he:e=0∧¬ v < 0:=by simpa using h1
  obtain ⟨rfl,hv⟩:=he
  have hi:=yO _ _ hN (by omega)
  have hko:cw (bA.mk 1 v [])=true:=by
   unfold cw
   simp; exact ⟨by omega,hi.2⟩
  refine ⟨hb,hko,?_⟩
  have ht:aL (bA.mk 1 v [])=[91]++itoa v++[93]:=by
   unfold aL
   rw [if_neg (by rw [hko]; simp),if_pos rfl]
  rw [ht,hl,hi.1,List.append_assoc,List.append_assoc,← hs.2,List.take_append_drop]
theorem mK:∀ (k:Nat) (ms:List ae) (r:av),(f0 k ms r).2.fbad=false→r.fbad=false∧∃ new,(f0 k ms r).1=ms++new∧r.frest=new.flatMap bU++(f0 k ms r).2.frest∧∀ x∈new,bR x.fName=true∧cw x.fKey=true
 | 0,ms,r,h=>⟨h,[],by simp [f0],by simp [f0],by simp⟩
 | k+1,ms,r,h=>by
  unfold f0 at h ⊢
  by_cases hc:r.fbad=false∧hasPrefix r.frest iL=true
  ·rw [if_pos hc] at h ⊢
   obtain ⟨t,ht⟩:=(dB _ _).1 hc.2
   have hd:r.frest.drop 7=t:=by rw [ht]; rfl
   rw [hd] at h ⊢
   obtain ⟨b1,new,e1,e2,e3⟩:=mK k _ _ h
   have s1:=lj b1
   have s2:(jI (cZ (av.mk t false)).2).2.fbad=false:=s1.1
   have s3:=qI s2
   have s4:=kZ s3.1
   have hs1:(jI (cZ (av.mk t false)).2).2.frest=[46]++(gh (stepT (av.mk t false)).2 [46]).frest:=s1.2
   refine ⟨hc.1,(stepT (av.mk t false)).1::new,by rw [e1]; simp,?_,?_⟩
   ·rw [ht,List.flatMap_cons]
    have h4:=s4.2.2
    simp only at h4
    show iL++t=(iL++(cZ (av.mk t false)).1++aL (jI (cZ (av.mk t false)).2).1++[46]++new.flatMap bU)++_
    simp only [List.append_assoc]
    rw [← e2,← hs1,← s3.2.2,← h4]
   ·intro x hx
    rcases List.mem_cons.1 hx with rfl | hx
    ·exact ⟨s4.2.1,s3.2.1⟩
    ·exact e3 x hx
  ·rw [if_neg hc] at h ⊢
   exact ⟨h,[],by simp,by simp,by simp⟩
theorem rz {s:Bytes}{a:ao}(h:iN s=(a,0)):nQ a=0∧gU a=s∧Sm a:=by
 unfold iN at h
 simp only at h
 have hL:=mK (s.length+1) [] (av.mk s false)
 generalize f0 (s.length+1) [] (av.mk s false)=p at h hL
 obtain ⟨ms,r⟩:=p
 simp only at h hL
 split at h
 ·cases h
 ·rename_i h0
  split at h
  ·cases h
  ·rename_i h1
   cases h
   simp only [not_or] at h0
   obtain ⟨hb,hr,hk⟩:=h0
   have hb:(fG r).2.2.2.2.fbad=false:=by simpa using hb
   have hr:(fG r).2.2.2.2.frest=[]:=by simpa using hr
   have hk:gN (fG r).2.1=true:=by simpa using hk
   have hb:(jI (cZ (gh (cZ (gP r bB).2).2 [46])).2).2.fbad=false:=hb
   have hr:(jI (cZ (gh (cZ (gP r bB).2).2 [46])).2).2.frest=[]:=hr
   have hk:gN (cZ (gP r bB).2).1=true:=hk
   have s1:=qI hb
   have s2:=kZ s1.1
   have s3:=lj s2.1
   have s4:=kZ s3.1
   have hrb:r.fbad=false:=s4.1
   obtain ⟨_,new,e1,e2,e3⟩:=hL hrb
   simp only [List.nil_append] at e1
   subst e1
   have hdat:r.frest=(if (gP r bB).1=true then bB else [])++(gP r bB).2.frest:=by
    unfold gP
    simp only
    cases hp:hasPrefix r.frest bB with
    | true =>
     obtain ⟨t,ht⟩:=(dB _ _).1 hp
     rw [ht,iA]; rfl
    | false=>rw [lz hp]; rfl
   have hlen:∀ x∈ms,x.fName.length≤100000:=λ x hx=>by have:=fT (e3 x hx).1; omega
   have hty:(cZ (gP r bB).2).1.length≤64:=fT s4.2.1
   have hnm:=fT s2.2.1
   refine ⟨(nM _).2 ⟨by show ms.length≤16; omega,e3,hk,s2.2.1,s1.2.1⟩,?_,⟨by show ms.length≤_; omega,?_,?_,hlen⟩⟩
   ·show ms.flatMap bU++((if (gP r bB).1=true then bB else [])++((cZ (gP r bB).2).1++[46]++(cZ (gh (cZ (gP r bB).2).2 [46])).1++aL (jI (cZ (gh (cZ (gP r bB).2).2 [46])).2).1))=s
    have x1:=s1.2.2
    rw [hr,List.append_nil] at x1
    rw [← x1,List.append_assoc,← s2.2.2,List.append_assoc,← s3.2,← s4.2.2,← hdat,← e2]
   ·show (cZ (gP r bB).2).1.length≤100000
    omega
   ·show (cZ (gh (cZ (gP r bB).2).2 [46])).1.length≤100000
    omega
end Go.Ab.R06
namespace Go.Ab.R06
open Go.Ab Go.Ab.RB Go.Lib
theorem mT {b:UInt8}(h:idB b=true):jC b=false:=by
 simp only [idB,Bool.or_eq_true,pX,ix] at h
 unfold jC
 rw [Bool.or_eq_false_iff,decide_eq_false_iff_not,decide_eq_false_iff_not]
 omega
theorem kw {s:Bytes}(h:bR s=true){b:UInt8}(hb:b∈s):idB b=true:=by
 have:=(rl s).1 h
 rw [sB] at this
 exact List.all_eq_true.1 this.2.2.2 b hb
theorem u0:∀ (w t:Bytes),(∀ b∈w,jC b=false)→(t=[]∨∃ b r,t=b::r∧jC b=true)→jy (w++t)=w.length
 | [],t,_,h=>by
  rcases h with rfl | ⟨b,r,rfl,hb⟩
  ·rfl
  ·show jy (b::r)=0
   unfold jy; rw [if_pos hb]
 | b::w,t,hw,h=>by
  show jy (b::(w++t))=_
  unfold jy
  rw [if_neg (by simp [hw b List.mem_cons_self]),u0 w t (λ y hy=>hw y (List.mem_cons_of_mem _ hy)) h]
  simp
theorem qB {w t:Bytes}(hw:bR w=true)(h:t=[]∨∃ b r,t=b::r∧jC b=true):cZ (av.mk (w++t) false)=(w,av.mk t false):=by
 unfold cZ
 simp only
 rw [u0 w t (λ b hb=>mT (kw hw hb)) h,List.take_left,List.drop_left,hw]
 rfl
theorem oy (p t:Bytes):gh (av.mk (p++t) false) p=av.mk t false:=by
 unfold gh
 simp only
 rw [iA,iC]; rfl
theorem wJ:∀ (l:Bytes) (c:UInt8) (t:Bytes),(∀ b∈l,b≠c)→indexByte (l++c::t) c=l.length
 | [],c,t,_=>by simp [indexByte]
 | b::r,c,t,h=>by
  have ih:=wJ r c t (λ y hy=>h y (List.mem_cons_of_mem _ hy))
  have hb:(b == c)=false:=by simpa using h b List.mem_cons_self
  show indexByte (b::(r++c::t)) c=_
  unfold indexByte
  rw [hb,ih]
  have:((r.length:Int) == -1)=false:=by simp <;> omega
  simp only [Bool.false_eq_true,if_false,this,List.length_cons]
  omega
theorem ru {v:Int}(h0:0≤v):(itoa v).all dv=true∧itoa v≠[]:=by
 obtain ⟨u,rfl⟩:∃ u:Nat,v=u:=⟨v.toNat,by omega⟩
 have e:itoa (u:Int)=decDigits u:=by unfold itoa; rw [if_neg (by omega)]; simp
 rw [e]
 have:=u9 (u+1) u (by omega)
 exact ⟨this.2.1,this.2.2.1⟩
theorem wH {k:bA}{t:Bytes}(hk:cw k=true)(h:hasPrefix t [91]=false):jI (av.mk (aL k++t) false)=(k,av.mk t false):=by
 rcases ka hk with h0 | h0 | h0
 ·have e:=tH hk h0
  subst e
  have et:aL jR=[]:=rfl
  rw [et,List.nil_append]
  unfold jI
  rw [if_neg (by simp),if_pos h]
 ·have hn:=mn hk h0
  have et:aL k=[91]++itoa k.fNum++[93]:=by
   unfold aL
   rw [if_neg (by rw [hk]; simp [h0]),if_pos h0]
  obtain ⟨hd,hne⟩:=ru hn.1
  have e1:aL k++t=[91]++(itoa k.fNum++93::t):=by rw [et]; simp
  have hix:idx (itoa k.fNum++93::t) 93=(itoa k.fNum).length:=by
   unfold idx
   rw [wJ]
   ·simp
   ·intro b hb q
    have:=jO hd hb
    rw [q] at this
    have h93:(93:UInt8).toNat=93:=rfl
    omega
  have hnp:hasPrefix (itoa k.fNum++93::t) [34]=false:=by
   rw [← Bool.not_eq_true,dB]
   rintro ⟨u,hu⟩
   cases hx:itoa k.fNum with
   | nil=>exact hne hx
   | cons c r =>
    rw [hx] at hu hd
    have hc:c=34:=(List.cons.inj hu).1
    have:=jO hd (b:=c) List.mem_cons_self
    rw [hc] at this
    have h34:(34:UInt8).toNat=34:=rfl
    omega
  unfold jI
  rw [e1,if_neg (by simp),if_neg (by rw [iC]; simp)]
  have hd1:([91]++(itoa k.fNum++93::t)).drop 1=itoa k.fNum++93::t:=rfl
  rw [hd1,if_neg (by rw [hnp]; simp),hix,List.take_left,List.drop_left,zG _ hn.1 hn.2.1]
  simp only
  have hv0:¬ k.fNum < 0:=by have:=hn.1; omega
  simp only [hv0,decide_true,decide_false,Bool.not_false,Bool.and_self,Bool.not_true]
  have hs:=oy [93] t
  rw [show (93::t:Bytes)=[93]++t from rfl,hs]
  refine Prod.ext ?_ rfl
  cases k
  simp only at *
  rw [h0,hn.2.2]
 ·have hs:=mg hk h0
  have et:aL k=[91]++dI k.fStr++[93]:=by
   unfold aL
   rw [if_neg (by rw [hk]; simp [h0]),if_neg (by omega)]
  have e1:aL k++t=[91]++(dI k.fStr++([93]++t)):=by rw [et]; simp
  have hu:=tA k.fStr ([93]++t) hs.2.2 hs.2.1
  unfold jI
  rw [e1,if_neg (by simp),if_neg (by rw [iC]; simp)]
  have hd1:([91]++(dI k.fStr++([93]++t))).drop 1=dI k.fStr++([93]++t):=rfl
  have hq:hasPrefix (dI k.fStr++([93]++t)) [34]=true:=by
   rw [dB]; exact ⟨k.fStr.flatMap fJ++[34]++([93]++t),by simp [dI]⟩
  rw [hd1,if_pos hq,hu]
  simp only [Int.toNat_natCast]
  rw [List.take_left,List.drop_left,if_pos ⟨trivial,rfl⟩,oy]
  refine Prod.ext ?_ rfl
  cases k
  simp only at *
  rw [h0,hs.1]
theorem qm (k:bA)(t:Bytes)(ht:∃ b r,t=b::r∧jC b=true):∃ b r,aL k++t=b::r∧jC b=true:=by
 unfold aL
 split
 ·exact ht
 ·split
  ·exact ⟨91,_,rfl,by decide⟩
  ·exact ⟨91,_,rfl,by decide⟩
theorem rk (k:bA):aL k=[]∨∃ b r,aL k=b::r∧jC b=true:=by
 unfold aL
 split
 ·exact .inl rfl
 ·split
  ·exact .inr ⟨91,_,rfl,by decide⟩
  ·exact .inr ⟨91,_,rfl,by decide⟩
theorem rF {b c:UInt8}{t:Bytes}(h:b≠c):hasPrefix (b::t) [c]=false:=by
 rw [← Bool.not_eq_true,dB]
 rintro ⟨u,hu⟩
 exact h (List.cons.inj hu).1
theorem rB:∀ (new:List ae) (k:Nat) (ms:List ae) (t:Bytes),new.length < k→(∀ x∈new,bR x.fName=true∧cw x.fKey=true)→hasPrefix t iL=false →
  f0 k ms (av.mk (new.flatMap bU++t) false)=(ms++new,av.mk t false)
 | [],k,ms,t,hk,_,ht=>by
  obtain ⟨k,rfl⟩:∃ k',k=k'+1:=⟨k - 1,by omega⟩
  unfold f0
  rw [if_neg]
  ·simp
  ·rintro ⟨_,q⟩
   simp only [List.flatMap_nil,List.nil_append] at q
   rw [ht] at q; cases q
 | x::r,k,ms,t,hk,hx,ht=>by
  obtain ⟨k,rfl⟩:∃ k',k=k'+1:=⟨k - 1,by omega⟩
  have h1:=hx x List.mem_cons_self
  have ih:=rB r k (ms++[x]) t (by simp only [List.length_cons] at hk; omega) (λ y hy=>hx y (List.mem_cons_of_mem _ hy)) ht
  generalize hT:r.flatMap bU++t=T at ih
  have e:(x::r).flatMap bU++t=iL++(x.fName++(aL x.fKey++([46]++T))):=by
   rw [List.flatMap_cons,List.append_assoc,hT]; simp [bU]
  unfold f0
  rw [e]
  simp only
  rw [if_pos ⟨trivial,iC _ _⟩]
  have hd:(iL++(x.fName++(aL x.fKey++([46]++T)))).drop 7=x.fName++(aL x.fKey++([46]++T)):=rfl
  have hst:stepT (av.mk (x.fName++(aL x.fKey++([46]++T))) false)=(x,av.mk ([46]++T) false):=by
   unfold stepT
   rw [qB (t:=aL x.fKey++([46]++T)) h1.1 (.inr (qm _ _ ⟨46,T,rfl,by decide⟩))]
   simp only
   rw [wH (t:=[46]++T) h1.2 (rF (b:=46) (c:=91) (t:=T) (by decide))]
  rw [hd,hst]
  simp only
  rw [oy,ih]
  simp
theorem sG:∀ (p w t u:Bytes),(∀ b∈p,jC b=false)→(∀ b∈w,jC b=false)→w++46::t=p++46::u→w=p
 | [],[],_,_,_,_,_=>rfl
 | [],c::w,t,u,_,hw,h=>by
  have:=(List.cons.inj h).1
  have h2:=hw c List.mem_cons_self
  rw [this] at h2
  exact absurd h2 (by decide)
 | c::p,[],t,u,hp,_,h=>by
  have:=(List.cons.inj h).1
  have h2:=hp c List.mem_cons_self
  rw [← this] at h2
  exact absurd h2 (by decide)
 | c::p,d::w,t,u,hp,hw,h=>by
  obtain ⟨h1,h2⟩:=List.cons.inj h
  rw [h1,sG p w t u (λ b hb=>hp b (List.mem_cons_of_mem _ hb)) (λ b hb=>hw b (List.mem_cons_of_mem _ hb)) h2]
theorem kH (s:Bytes):gN s=true↔eN s=false∧bR s=true:=by
 unfold gN; simp
end Go.Ab.R06
end
