/- Texts of the proof, one behind the other. No statement is proved here. -/
import Derived.Lib.MapLaws
import Derived.Lib.ValidLaws
import Derived.Lib.ParseIntB
import Derived.Test.YtaiecfcflcphmaaGreatDoorZ15Aa
import Derived.Test.YtaiecfcflcphmaaGreatDoorZ15Ab
import Derived.Test.YtaiecfcflcphmaaGreatDoorZ15Ac
set_option maxHeartbeats 4000000
section
namespace Go.Ab.R06
open Go.Ab Go.Ab.RB
section
variable {α β:Type} {P:α->Prop}
theorem aN {g:Nat->Nat->Option β}{k:Nat->Nat->β->Option α}(x:β)(h:Ev2 g (·=x))(hk:Ev2 (λ n m=>k n m x) P):Ev2 (λ n m=>(g n m).bind (k n m)) P :=
 d6 (·=x) h λ y hy=>by subst hy; exact hk
end
def qp (b:UInt8):Bool:=(decide (97<=b.toNat)&&decide (b.toNat<=122))||(decide (65<=b.toNat)&&decide (b.toNat<=90))||decide (b.toNat=95)
def zF (b:UInt8):Bool:=decide (48<=b.toNat)&&decide (b.toNat<=57)
def idB (b:UInt8):Bool:=qp b||zF b
def cM:Bk->Bool|[]=>false|b::r=>decide ((b::r).length<=64)&&qp b&&r.all idB
def rt (s:Bk)(i:Nat):Bool:=qp (s.getD i 0)||(decide (i≠0)&&zF (s.getD i 0))
def oZ (p:Nat->Bool):Nat->Nat->Bool|_,0=>true|i,k+1=>p i&&oZ p (i+1) k
theorem qL (p:Nat->Bool):∀ (k i:Nat),oZ p i k=true↔∀ j,i<=j->j<i+k->p j=true
 | 0,i=>by simp [oZ]; intro j h1 h2; omega
 | k+1,i=>by
  rw [oZ,ph,qL p k (i+1)];constructor
  ·rintro ⟨h1,h2⟩ j h3 h4;by_cases e:j=i
   ·rw [e]; exact h1
   ·exact h2 j O O
  ·intro h;exact ⟨h i O O,λ j h1 h2=>h j O O⟩
theorem or32:(List.range 256).all (λ n=>(decide ((97:Int)<=iOr .u8 (n:Int) 32)&&decide (iOr .u8 (n:Int) 32<=122))==((decide (97<=n)&&decide (n<=122))||(decide (65<=n)&&decide (n<=90))))=true:=by kernel_rfl
theorem AO (b:UInt8):(97<=iOr .u8 ((b.toNat:Nat):Int) 32/\iOr .u8 ((b.toNat:Nat):Int) 32<=122)↔((97<=b.toNat/\b.toNat<=122)\/(65<=b.toNat/\b.toNat<=90)):=by
 have h:=rd.1 or32 b.toNat (List.mem_range.2 b.toNat_lt);have h:=eq_of_beq h;rw [Bool.eq_iff_iff] at h;simpa using h
theorem py (b:UInt8):qp b=true↔(97<=b.toNat/\b.toNat<=122)\/(65<=b.toNat/\b.toNat<=90)\/b.toNat=95:=by
 simp [qp,or_assoc]
theorem tW (b:UInt8):zF b=true↔48<=b.toNat/\b.toNat<=57:=by simp [zF]
theorem eqB {a b:Bool}(h:a=true↔b=true):a=b:=Bool.eq_iff_iff.2 h
theorem lF (s:Bk)(i:Nat):rt s i=true↔qp (s.getD i 0)=true\/(i≠0/\zF (s.getD i 0)=true):=by simp [rt]
theorem ol (s:Bk):cM s=true↔s≠[]/\s.length<=64/\oZ (rt s) 0 s.length=true:=by
 rw [qL]
 cases s with
 | nil=>simp [cM]
 | cons b r=>
  simp only [cM,ph,decide_eq_true_eq,rd];constructor
  ·rintro ⟨⟨h1,h2⟩,h3⟩;refine ⟨by simp,h1,λ j _ hj=>?_⟩;rw [lF]
   cases j with
   | zero=>exact .inl h2
   | succ j=>
    have hm:r.getD j 0∈r:=by
     rw [List.getD_eq_getElem?_getD,List.getElem?_eq_getElem (by simp at hj; omega)];exact List.getElem_mem _
    have:=h3 _ hm;simp only [idB,Bool.or_eq_true] at this;rcases this with h|h
    ·exact .inl h
    ·exact .inr ⟨by omega,h⟩
  ·rintro ⟨_,h1,h2⟩;refine ⟨⟨h1,?_⟩,λ x hx=>?_⟩
   ·have:=(lF _ _).1 (h2 0 O G);simpa using this
   ·obtain ⟨j,hj,rfl⟩:=List.getElem_of_mem hx;have:=(lF _ _).1 (h2 (j+1) O (by simp; omega));rw [show (b::r).getD (j+1) 0=r[j] by simp [hj]] at this;simp only [idB,Bool.or_eq_true];rcases this with h|h
    ·exact .inl h
    ·exact .inr h.2
theorem xe (s:Bk):cM s=true↔s≠[]/\s.length<=64/\qp (s.getD 0 0)=true/\oZ (λ j=>idB (s.getD j 0)) 0 s.length=true:=by
 rw [ol,qL,qL];constructor
 ·rintro ⟨h1,h2,h3⟩;have hl:0<s.length:=List.length_pos_iff.2 h1;refine ⟨h1,h2,?_,λ j _ hj=>?_⟩
  ·have:=(lF s 0).1 (h3 0 O O);simpa using this
  ·have:=(lF s j).1 (h3 j O hj);simp only [idB,Bool.or_eq_true];rcases this with h|h
   ·exact .inl h
   ·exact .inr h.2
 ·rintro ⟨h1,h2,h3,h4⟩;refine ⟨h1,h2,λ j _ hj=>(lF s j).2 ?_⟩;have:=h4 j O hj;simp only [idB,Bool.or_eq_true] at this;by_cases e:j=0
  ·subst e; exact .inl h3
  ·rcases this with h|h
   ·exact .inl h
   ·exact .inr ⟨e,h⟩
end Go.Ab.R06
namespace Go.Ab.R06
open Go.Ab Go.Ab.RB Go.Lib
def pz:Int:=9007199254740992
theorem yt (v:Int):jD v=some (decide (-pz<=v/\v<=pz)):=by
 simp only [jD];by_cases h:(-9007199254740992:Int)<=v
 ·rw [if_pos h];by_cases h2:v<=9007199254740992
  ·simp [h2,pz,h]
  ·simp [h2,pz]
 ·rw [if_neg h,Option.bind_some];refine congrArg some (eqB ?_);rw [decide_eq_true_eq]; unfold pz;constructor
  ·intro q; cases q
  ·intro q; exact absurd q.1 h
end Go.Ab.R06
namespace Go.Ab.R06
open Go.Ab Go.Ab.RB Go.Lib
theorem t63:(List.range 256).all (λ n=>cZ .u8 (n:Int) 63==((n%64:Nat):Int))=true:=by kernel_rfl
theorem tab {f g:Nat->Int}{m:Nat}(h:(List.range m).all (λ n=>f n==g n)=true)(n:Nat)(hn:n<m):f n=g n:=eq_of_beq (rd.1 h n (List.mem_range.2 hn))
def AZ (r:Int):Prop:=(0<=r/\r<55296)\/(57343<r/\r<=1114111)
theorem iG (l:Bk)(h:l≠[]):decodeGo (str l)=decodeL l:=by
 unfold decodeGo;rw [if_neg]
 ·rfl
 ·rw [jm]; intro q; exact h (List.length_eq_zero_iff.1 q)
theorem zY (l:Bk)(h:l≠[]):1<=(decodeL l).2/\(decodeL l).2<=l.length/\(¬ ((decodeL l).1=65533/\(decodeL l).2=1)->AZ ((decodeL l).1:Int)/\encodeRune ((decodeL l).1:Int)=l.take (decodeL l).2):=by
 have hl:0<l.length:=List.length_pos_iff.2 h;have hd:=decN l.length (l.getD 0 0).toNat (l.getD 1 0).toNat (l.getD 2 0).toNat (l.getD 3 0).toNat O (UInt8.toNat_lt _);rw [<- decodeL_N] at hd;refine ⟨hd.1,hd.2.1,λ q=>⟨?_,encode_decode l h q⟩⟩;have:=hd.2.2.2.2.2;unfold AZ; omega
theorem yD (l:Bk)(h:l≠[]):validD l=true↔¬ ((decodeL l).1=65533/\(decodeL l).2=1)/\validD (l.drop (decodeL l).2)=true:=by
 rw [validD_step l h];by_cases q:(decodeL l).1=65533/\(decodeL l).2=1
 ·simp [q]
 ·simp [q]
end Go.Ab.R06
namespace Go.Ab.R06
open Go.Ab Go.Ab.RB Go.Lib
theorem BA (s:Bk):jx s=some (decide (s.length<=4096)&&validD s):=by
 unfold jx;by_cases h:(s.length:Int)<=4096
 ·have hv:fq s=some (validD s):=by unfold fq; exact gz O
  rw [if_pos h,hv];simp; omega
 ·rw [if_neg h];simp; intro q; omega
end Go.Ab.R06
namespace Go.Ab.R06
open Go.Ab Go.Ab.RB Go.Lib
end Go.Ab.R06
namespace Go.Ab.R06
open Go.Ab Go.Ab.RB Go.Lib
def badR (c:Nat×Nat):Prop:=(c.1=65533/\c.2=1)\/c.1<32\/c.1=127
instance (c:Nat×Nat):Decidable (badR c):=inferInstanceAs (Decidable (_\/_))
end Go.Ab.R06
end
section
namespace Go.Ab
open Go
def tmO:Operand->List Nat|.tmp t=>[t]|_=>[]
def tmL:List (Nat×Operand)->List Nat|[]=>[]|(_,x)::r=>tmO x++tmL r
def opR (o:Oper):List Nat:=match o.op with
 | .move x=>tmO x
 | .assign x=>tmO x
 | .pick c x y=>tmO c++(tmO x++tmO y)
 | .binOp _ _ x y _=>tmO x++tmO y
 | .unOp _ _ x=>tmO x
 | .fieldAddr _ x _=>tmO x
 | .load _ x=>tmO x
 | .nilCheck x=>tmO x
 | .extract x _=>tmO x
 | .field _ x _=>tmO x
 | .convert _ _ x=>tmO x
 | .build _ parts=>tmL parts.toList
 | .store _ x v=>tmO x++tmO v
 | _=>[]
def qC (o:Oper):Bool:=match o.op with
 | .call _=>false
 | _=>true
def knKS:gw->Nat->Option Nat|[],_=>none|(k,d,_)::r,i=>bif Nat.beq d i then some k else knKS r i
def DI (bas:List (Nat×AV))(o:Oper)(rev:gw)(j i:Nat):Option AV:=match look bas i with
 | some x=>some x
 | none=>(match knKS rev i with
  | some k=>(match iW o k with
   | true=>(match dz rev k with
    | some (i',v)=>(match Nat.beq i' i with
     | true=>some (v j)
     | false=>none)
    | none=>none)
   | false=>none)
  | none=>none)
def x8 (bas:List (Nat×AV))(o:Oper)(rev:gw)(j:Nat):List Nat->List (Nat×AV)
 | []=>[]
 | i::r=>(match DI bas o rev j i with
  | some x=>(i,x)::x8 bas o rev j r
  | none=>x8 bas o rev j r)
theorem Ci {bas:List (Nat×AV)}{o:Oper}{rev:gw}{j i:Nat}{x:AV}(h:DI bas o rev j i=some x):look bas i=some x\/∃ k v,iW o k=true/\dz rev k=some (i,v)/\v j=x:=by
 unfold DI at h;split at h
 ·rename_i y hy; cases h; exact .inl hy
 ·split at h
  ·rename_i k hk;split at h
   ·rename_i hb;split at h
    ·rename_i i' v hl;split at h
     ·rename_i hi
      cases h
      exact .inr ⟨k,v,hb,by rw [hl,cl hi],Z⟩
     ·cases h
    ·cases h
   ·cases h
  ·cases h
theorem oe {bas:List (Nat×AV)}{o:Oper}{rev:gw}{j:Nat}:∀ (l:List Nat),KnS bas o rev j (x8 bas o rev j l)
 | []=>trivial
 | i::r=>by
  unfold x8;split
  ·rename_i x hx; exact ⟨Ci hx,oe r⟩
  ·exact oe r
section
variable {kn sl:List (Nat×AV)} {ob:List (Nat×List AV)} {C:Cx} {o:Oper}
theorem xV {F:Option AV->Option AV}{x:Operand}{y:AV}(hs:∀ i x,look kn i=some x->look sl i=some x)(hF:F none=none)(h:F (evo kn x)=some y):F (evo sl x)=some y:=by
 cases hx:evo kn x with
 | none=>rw [hx,hF] at h; cases h
 | some v=>rw [hx] at h; rw [jJ hs hx]; exact h
theorem B9 {c x y:Operand}{z:AV}(hs:∀ i x,look kn i=some x->look sl i=some x)(h:pkP kn x y (evo kn c)=some z):pkP sl x y (evo sl c)=some z:=by
 cases hc:evo kn c with
 | none=>rw [hc] at h; cases h
 | some v=>
  rw [hc] at h;rw [jJ hs hc];unfold pkP at h ⊢;split at h
  ·exact jJ hs h
  ·exact jJ hs h
  ·cases h
theorem Cl {op:BinOp}{t:TypeId}(Y0z:Option AV):bnP C op t none Y0z=none:=by
 unfold bnP;split <;> first|rfl|contradiction|(rename_i h _; cases h)|(rename_i h; cases h)
theorem Br {op:BinOp}{t:TypeId}(X:Option AV):bnP C op t X none=none:=by
 unfold bnP;split <;> first|rfl|contradiction|(rename_i h _; cases h)|(rename_i h; cases h)
theorem B4 {op:BinOp}{t:TypeId}{x y:Operand}{z:AV}(hs:∀ i x,look kn i=some x->look sl i=some x)(h:bnP C op t (evo kn x) (evo kn y)=some z):bnP C op t (evo sl x) (evo sl y)=some z:=by
 cases hx:evo kn x with
 | none=>rw [hx,Cl] at h; cases h
 | some v=>
  cases hy:evo kn y with
  | none=>rw [hy,Br] at h; cases h
  | some u=>
   rw [hx,hy] at h;rw [jJ hs hx,jJ hs hy]; exact h
theorem tc (hs:∀ i x,look kn i=some x->look sl i=some x):∀ {ps:List (Nat×Operand)} {l:List (Nat×AV)},fZ kn ps=some l->fZ sl ps=some l
 | [],l,h=>h
 | (i,x)::r,l,h=>by
  unfold fZ at h ⊢
  cases hx:evo kn x with
  | none=>rw [hx] at h; cases h
  | some v=>
   cases hr:fZ kn r with
   | none=>rw [hx,hr] at h; cases h
   | some m=>
    rw [hx,hr] at h;rw [jJ hs hx,tc hs hr]; exact h
theorem Cy {t f:Nat}:faP C t f none=none:=by
 unfold faP
 repeat' split
 all_goals first|rfl|contradiction
theorem B7 {t:Nat}:ldP C ob t none=none:=by
 unfold ldP
 repeat' split
 all_goals first|rfl|contradiction
theorem Ck {t f:Nat}:flP C t f none=none:=by
 unfold flP
 repeat' split
 all_goals first|rfl|contradiction
theorem Cn {t f:Nat}:cvP C t f none=none:=by
 unfold cvP
 repeat' split
 all_goals first|rfl|contradiction
theorem Cu {t:Nat}:buP C t none=none:=by
 unfold buP
 repeat' split
 all_goals first|rfl|contradiction
theorem CX {t:Nat}{ps:List (Nat×Operand)}{y:AV}(hs:∀ i x,look kn i=some x->look sl i=some x)(h:buP C t (fZ kn ps)=some y):buP C t (fZ sl ps)=some y:=by
 cases hp:fZ kn ps with
 | none=>rw [hp,Cu] at h; cases h
 | some l=>rw [hp] at h; rw [tc hs hp]; exact h
theorem xj {y:AV}(hs:∀ i x,look kn i=some x->look sl i=some x)(hc:qC o=true)(h:opV C o kn ob=some y):opV C o sl ob=some y:=by
 unfold opV qC at *
 cases ho:o.op <;> simp only [ho] at h hc ⊢
 all_goals first
  | (cases h; done)
  | exact jJ hs h
  | exact B9 hs h
  | exact B4 hs h
  | exact xV (F:=faP C _ _) hs Cy h
  | exact xV (F:=ldP C ob _) hs B7 h
  | exact xV (F:=ncP) hs Z h
  | exact xV (F:=xtP _) hs Z h
  | exact xV (F:=flP C _ _) hs Ck h
  | exact xV (F:=cvP C _ _) hs Cn h
  | exact CX hs h
  | (cases hc; done)
  | skip
 all_goals (rename_i op _ _; cases op <;> simp only at h ⊢)
 all_goals first
  | (cases h; done)
  | exact xV (F:=ntP) hs Z h
def stV (C:Cx)(o:Oper)(kn:List (Nat×AV))(ob:List (Nat×List AV)):Option (List (Nat×List AV)):=match o.op with
 | .store t x v=>(match look C.tt t with
  | some i=>(match evo kn x with
   | some (.ptr id k)=>(match evo kn v with
    | some y=>(match y.cellsA with
     | some xs=>(match Nat.beq xs.length i.size with
      | true=>(match look ob id with
       | some cs=>(match Nat.ble (k+xs.length) cs.length with
        | true=>some ((id,na cs k xs)::ob)
        | false=>none)
       | none=>none)
      | false=>none)
     | none=>none)
    | none=>none)
   | _=>none)
  | none=>none)
 | _=>none
theorem Do {ops:Array Oper}{ob':List (Nat×List AV)}{K:AS->Prop}(h:stV C o kn ob=some ob')(hg:o.guard=none)(hd:o.dst=none)(hs:∀ i x,look kn i=some x->look sl i=some x)(hK:K ⟨sl,ob'⟩):One C ops o K ⟨sl,ob⟩:=by
 unfold stV at h;split at h
 ·rename_i t x v ho;split at h
  ·rename_i i hi;split at h
   ·rename_i id k hx;split at h
    ·rename_i y hv;split at h
     ·rename_i xs hc;split at h
      ·rename_i EH;split at h
       ·rename_i cs hob;split at h
        ·rename_i hl
         cases h
         exact ab hg (em ho hd hi (jJ hs hx) (jJ hs hv) hc (cl EH) hob (n6 hl) hK)
        ·cases h
       ·cases h
      ·cases h
     ·cases h
    ·cases h
   ·cases h
  ·cases h
 ·cases h
end
section
variable {C:Cx} {ops:Array Oper} {S:gb} {K:gw->Prop} {o:Oper} {k:Nat} {rev:gw} {d:Nat}
def sV (C:Cx)(ops:Array Oper)(S:gb)(o:Oper)(R:List Nat)(k:Nat)(rev:gw)(v:Nat->AV)(j:Nat):Option AV:=match oj ops S.imp o k j with
 | true=>opV C o (x8 (S.bas j) o rev j R) (S.obj j)
 | false=>some (v j)
def sL (C:Cx)(ops:Array Oper)(S:gb)(o:Oper)(R:List Nat)(k:Nat)(rev:gw)(v:Nat->AV):Nat->List (Option AV)|0=>[]|j+1=>sV C ops S o R k rev v j::sL C ops S o R k rev v j
def gL (ops:Array Oper)(S:gb)(o:Oper)(R:List Nat)(k:Nat)(rev:gw)(t:Nat)(x:AV):Nat->List (Option AV)
 | 0=>[]
 | j+1=>(match oj ops S.imp o k j with
  | true=>look (x8 (S.bas j) o rev j R) t
  | false=>some x)::gL ops S o R k rev t x j
def vL (v:Nat->AV):Nat->List (Option AV)|0=>[]|j+1=>some (v j)::vL v j
theorem C9 {v:Nat->AV}(hg:o.guard=none)(hd:o.dst=some d)(hn:Nat.blt d C.n=true)(hc:qC o=true):∀ {m:Nat},sL C ops S o (opR o) k rev v m=vL v m->Stg C ops S o k rev d v m
 | 0,_=>trivial
 | j+1,h=>by
  have h1:sV C ops S o (opR o) k rev v j=some (v j):=(List.cons.inj h).1;refine ⟨λ ha=>?_,C9 hg hd hn hc (List.cons.inj h).2⟩;unfold sV at h1;rw [ha] at h1;exact ⟨_,oe _,λ sl hs K hK=>ab hg (tS (xj hs hc h1) hd hn hK)⟩
def cL (S:gb)(d:Nat):Nat->List (Option AV)|0=>[]|j+1=>look (S.bas j) d::cL S d j
def nL:Nat->List (Option AV)|0=>[]|j+1=>none::nL j
def aL (v:Nat->AV):Nat->List AV|0=>[]|j+1=>v (j+1)::aL v j
def bL (S:gb)(v:Nat->AV):Nat->List AV|0=>[]|j+1=>trA (S.D j) (v j)::bL S v j
theorem AR:∀ {m:Nat},cL S d m=nL m->∀ j,j<m->look (S.bas j) d=none
 | 0,_,j,h=>absurd h (Nat.not_lt_zero _)
 | m+1,h,j,hj=>by
  by_cases e:j=m
  ·subst e; exact (List.cons.inj h).1
  ·exact AR (List.cons.inj h).2 j O
theorem xo {v:Nat->AV}:∀ {m:Nat},aL v m=bL S v m->∀ j,j<m->v (j+1)=trA (S.D j) (v j)
 | 0,_,j,h=>absurd h (Nat.not_lt_zero _)
 | m+1,h,j,hj=>by
  by_cases e:j=m
  ·subst e; exact (List.cons.inj h).1
  ·exact xo (List.cons.inj h).2 j O
theorem dP {rest:List Oper}(v:Nat->AV)
  (e:(o.dst,S.imp.findIdx? (Nat.beq k),o.guard,qC o,(rev.all λ p=>!(Nat.beq p.2.1 d)),Nat.blt d C.n,cL S d S.m,(λ j=>look (S.bas (j+S.m)) d),aL v S.m,sL C ops S o (opR o) k rev v (S.m+1))=(some d,none,none,true,true,true,nL S.m,(λ _=>none),bL S v S.m,vL v (S.m+1)))
  (h:DS C ops S K rest (k+1) ((k,d,v)::rev)):DS C ops S K (o::rest) k rev:=by
 simp only [Prod.mk.injEq] at e;obtain ⟨e1,e2,e3,e4,e5,e6,e7,e8,e9,GW⟩:=e;refine ap v e2 e1 e5 (λ j=>?_) (xo e9) (C9 e3 e1 e6 e4 GW) h;by_cases hj:j<S.m
 ·exact AR e7 j hj
 ·have:look (S.bas (j-S.m+S.m)) d=none:=congrFun e8 (j-S.m)
  rwa [show j-S.m+S.m=j by omega] at this
theorem dPc {rest:List Oper}(y:AV)
  (e:(o.dst,S.imp.findIdx? (Nat.beq k),o.guard,qC o,(rev.all λ p=>!(Nat.beq p.2.1 d)),Nat.blt d C.n,cL S d S.m,(λ j=>look (S.bas (j+S.m)) d),aL (λ _=>y) S.m,sL C ops S o (opR o) k rev (λ _=>y) (S.m+1))=(some d,none,none,true,true,true,nL S.m,(λ _=>none),bL S (λ _=>y) S.m,vL (λ _=>y) (S.m+1)))
  (h:DS C ops S K rest (k+1) ((k,d,λ _=>y)::rev)):DS C ops S K (o::rest) k rev:=dP (λ _=>y) e h
theorem dS {rest:List Oper}{i:Nat}
  (e:(S.imp.findIdx? (Nat.beq k),o.dst,o.guard,S.D i,stV C o (x8 (S.bas i) o rev i (opR o)) (S.obj i))=(some i,none,none,Tr.none,some (S.obj (i+1))))
  (h:DS C ops S K rest (k+1) rev):DS C ops S K (o::rest) k rev:=by
 simp only [Prod.mk.injEq] at e;obtain ⟨e1,e2,e3,e4,e5⟩:=e;refine dj _ e1 (oe (opR o)) e2 (λ sl hs K hK=>?_) h;rw [e4] at hK;exact Do e5 e3 e2 hs hK
theorem yk (e7:cL S d S.m=nL S.m)(e8:(λ j=>look (S.bas (j+S.m)) d)=λ _=>none)(j:Nat):look (S.bas j) d=none:=by
 by_cases hj:j<S.m
 ·exact AR e7 j hj
 ·have:look (S.bas (j-S.m+S.m)) d=none:=congrFun e8 (j-S.m)
  rwa [show j-S.m+S.m=j by omega] at this
theorem A2 {v:Nat->AV}{R:List Nat}{w b:Bool}{g t:Nat}(hb:b=w)(hg:o.guard=some (g,w))(hj:(ops.toList[g]?).bind (·.dst)=some t)(hd:o.dst=some d)(hn:Nat.blt d C.n=true)(hc:qC o=true) :
  ∀ {m:Nat},gL ops S o R k rev t (.p (.val (.bool b))) m=vL (λ _=>.p (.val (.bool b))) m->sL C ops S o R k rev v m=vL v m->Stg C ops S o k rev d v m
 | 0,_,_=>trivial
 | j+1,hG,h=>by
  have h1:sV C ops S o R k rev v j=some (v j):=(List.cons.inj h).1;have h2:=(List.cons.inj hG).1;refine ⟨λ ha=>?_,A2 hb hg hj hd hn hc (List.cons.inj hG).2 (List.cons.inj h).2⟩;unfold sV at h1;rw [ha] at h1 h2;exact ⟨_,oe _,λ sl hs K hK=>bh (tS (xj hs hc h1) hd hn hK) hg hj (hs _ _ h2) hb⟩
theorem dPy {rest:List Oper}{w b:Bool}{g t:Nat}(v:Nat->AV)(hb:b=w)
  (e:(o.dst,o.guard,(ops.toList[g]?).bind (·.dst),S.imp.findIdx? (Nat.beq k),qC o,(rev.all λ p=>!(Nat.beq p.2.1 d)),Nat.blt d C.n,cL S d S.m,(λ j=>look (S.bas (j+S.m)) d),aL v S.m,gL ops S o (t::opR o) k rev t (.p (.val (.bool b))) (S.m+1),sL C ops S o (t::opR o) k rev v (S.m+1))=(some d,some (g,w),some t,none,true,true,true,nL S.m,(λ _=>none),bL S v S.m,vL (λ _=>.p (.val (.bool b))) (S.m+1),vL v (S.m+1)))
  (h:DS C ops S K rest (k+1) ((k,d,v)::rev)):DS C ops S K (o::rest) k rev:=by
 simp only [Prod.mk.injEq] at e;obtain ⟨e1,e2,e3,e4,e5,e6,e7,e8,e9,GW,G6,Gg⟩:=e;exact ap v e4 e1 e6 (yk e8 e9) (xo GW) (A2 hb e2 e3 e1 e7 e5 G6 Gg) h
theorem Bc {R:List Nat}{w b:Bool}{g t:Nat}(hb:b=!w)(hg:o.guard=some (g,w))(hj:(ops.toList[g]?).bind (·.dst)=some t)(hd:o.dst=some d)(hn:Nat.blt d C.n=true) :
  ∀ {m:Nat},gL ops S o R k rev t (.p (.val (.bool b))) m=vL (λ _=>.p (.val (.bool b))) m->Stg C ops S o k rev d (λ _=>.p (.val Go.undef)) m
 | 0,_=>trivial
 | j+1,hG=>by
  have h2:=(List.cons.inj hG).1;refine ⟨λ ha=>?_,Bc hb hg hj hd hn (List.cons.inj hG).2⟩;rw [ha] at h2;exact ⟨_,oe _,λ sl hs K hK=>Au hg hj (hs _ _ h2) hb hd hn hK⟩
theorem dPn {rest:List Oper}{w b:Bool}{g t:Nat}(hb:b=!w)
  (e:(o.dst,o.guard,(ops.toList[g]?).bind (·.dst),S.imp.findIdx? (Nat.beq k),(rev.all λ p=>!(Nat.beq p.2.1 d)),Nat.blt d C.n,cL S d S.m,(λ j=>look (S.bas (j+S.m)) d),aL (λ _=>.p (.val Go.undef)) S.m,gL ops S o [t] k rev t (.p (.val (.bool b))) (S.m+1))=(some d,some (g,w),some t,none,true,true,nL S.m,(λ _=>none),bL S (λ _=>.p (.val Go.undef)) S.m,vL (λ _=>.p (.val (.bool b))) (S.m+1)))
  (h:DS C ops S K rest (k+1) ((k,d,λ _=>.p (.val Go.undef))::rev)):DS C ops S K (o::rest) k rev:=by
 simp only [Prod.mk.injEq] at e;obtain ⟨e1,e2,e3,e4,e6,e7,e8,e9,GW,G6⟩:=e;exact ap _ e4 e1 e6 (yk e8 e9) (xo GW) (Bc hb e2 e3 e1 e7 G6) h
theorem Af {R:List Nat}{w:Bool}{g t:Nat}(hg:o.guard=some (g,w))(hj:(ops.toList[g]?).bind (·.dst)=some t)(hd:o.dst=some d)(hn:Nat.blt d C.n=true) :
  ∀ {m:Nat},gL ops S o R k rev t (.p (.val Go.undef)) m=vL (λ _=>.p (.val Go.undef)) m->Stg C ops S o k rev d (λ _=>.p (.val Go.undef)) m
 | 0,_=>trivial
 | j+1,hG=>by
  have h2:=(List.cons.inj hG).1;refine ⟨λ ha=>?_,Af hg hj hd hn (List.cons.inj hG).2⟩;rw [ha] at h2;exact ⟨_,oe _,λ sl hs K hK=>wK hg hj (hs _ _ h2) hd hn hK⟩
theorem dPx {rest:List Oper}{w:Bool}{g t:Nat}
  (e:(o.dst,o.guard,(ops.toList[g]?).bind (·.dst),S.imp.findIdx? (Nat.beq k),(rev.all λ p=>!(Nat.beq p.2.1 d)),Nat.blt d C.n,cL S d S.m,(λ j=>look (S.bas (j+S.m)) d),aL (λ _=>.p (.val Go.undef)) S.m,gL ops S o [t] k rev t (.p (.val Go.undef)) (S.m+1))=(some d,some (g,w),some t,none,true,true,nL S.m,(λ _=>none),bL S (λ _=>.p (.val Go.undef)) S.m,vL (λ _=>.p (.val Go.undef)) (S.m+1)))
  (h:DS C ops S K rest (k+1) ((k,d,λ _=>.p (.val Go.undef))::rev)):DS C ops S K (o::rest) k rev:=by
 simp only [Prod.mk.injEq] at e;obtain ⟨e1,e2,e3,e4,e6,e7,e8,e9,GW,G6⟩:=e;exact ap _ e4 e1 e6 (yk e8 e9) (xo GW) (Af e2 e3 e1 e7 G6) h
end
def lkM (s:List (Nat×List AV)):List (Nat×List AV)->List (Option (List AV))|[]=>[]|(j,_)::r=>look s j::lkM s r
def smM:List (Nat×List AV)->List (Option (List AV))|[]=>[]|(_,cs)::r=>some cs::smM r
theorem td {s:List (Nat×List AV)}:∀ {t:List (Nat×List AV)},lkM s t=smM t->leO s t
 | [],_=>trivial
 | (_j,cs)::_r,h=>⟨⟨cs,(List.cons.inj h).1,aM cs⟩,td (List.cons.inj h).2⟩
theorem tH:∀ l:List AV,nb l l
 | []=>trivial
 | x::r=>⟨AV.sub_refl x,tH r⟩
def lkB (sl:List (Nat×AV)):List (Nat×AV)->List (Option AV)|[]=>[]|(i,_)::r=>look sl i::lkB sl r
def smB:List (Nat×AV)->List (Option AV)|[]=>[]|(_,x)::r=>some x::smB r
theorem rD {sl:List (Nat×AV)}:∀ {b:List (Nat×AV)},lkB sl b=smB b->fy sl b
 | [],_=>trivial
 | (_i,_x)::_r,h=>⟨(List.cons.inj h).1,rD (List.cons.inj h).2⟩
def lkS (S:gb):Nat->List (List (Option AV))|0=>[]|j+1=>lkB (trL (S.D j) (S.bas j)) (S.bas (j+1))::lkS S j
def smS (S:gb):Nat->List (List (Option AV))|0=>[]|j+1=>smB (S.bas (j+1))::smS S j
theorem tR {S:gb}:∀ {m:Nat},lkS S m=smS S m->∀ j,j<m->fy (trL (S.D j) (S.bas j)) (S.bas (j+1))
 | 0,_,j,h=>absurd h (Nat.not_lt_zero _)
 | m+1,h,j,hj=>by
  by_cases e:j=m
  ·subst e; exact rD (List.cons.inj h).1
  ·exact tR (List.cons.inj h).2 j O
section
variable {C:Cx} {Q:Exit->AS->Prop} {K:AS->Prop} {sl:List (Nat×AV)} {ob:List (Nat×List AV)} {o:Oper} {d:Nat} {s:AS} {k:List Fr} {ops:Array Oper}
theorem cVq (ids EL:List Nat)(NB NE:Nat){f:FuncId}{args:Array Operand}{ts:Array TypeId}{l q:List AV}{Fa qo rob ob':List (Nat×List AV)}{r r':AV}(hc:aU C.P f q qo (λ x y=>x=r/\y=rob))(henter:∀ vs w,(callFunc f vs).run C.P w=.ok (.enter f vs) w)
  (e:(o.op,o.dst,Nat.blt d C.n,kx sl args.toList,AV.mapA.go (lU ids EL) l,iM ob ids,iB (lU ids EL) Fa,lkM qo qo,nodupB ids,ids.all (λ i=>Nat.blt i (2*M1)),Nat.ble ids.length M1,Nat.ble NE M1,ids.all (λ i=>!(du EL NB NE i)),nodupB EL,EL.all (λ i=>Nat.blt i M1),Nat.ble EL.length 100000,r.mapA (lH ids NB NE),iB (lH ids NB NE) rob)=(.call { callee:=.value (.func f),args:=args,argTypes:=ts },some d,true,some l,some q,some Fa,some qo,smM qo,true,true,true,true,true,true,true,true,some r',some ob'))
  (hK:K ⟨(d,r')::(co (du EL NB NE) ⟨sl,ob⟩).sl,ob'++(co (du EL NB NE) ⟨sl,ob.filter λ p=>!(ids.any (Nat.beq p.1))⟩).ob⟩):ba C o K ⟨sl,ob⟩:=by
 simp only [Prod.mk.injEq] at e;obtain ⟨e1,e2,e3,e4,e5,e6,e7,e8,e9,GW,G6,Gg,I9,J0,H0,Jr,GV,JZ⟩:=e;exact aQ ids EL NB NE hc e1 e2 e3 e4 e5 (tH _) e6 e7 (td e8) e9 GW G6 Gg I9 J0 H0 Jr henter GV JZ hK
theorem iT {β:Type}{v v0:β}{tt:List (Nat×TI)}{fn:Func}{ts ids:List Nat}{mk:β->AV}{mo:β->List (Nat×List AV)}{Fa:List (Nat×List AV)}{l:List AV}(e:some v=some v0)
  (h:(nC tt fn.results.toList s,(rQ l).mapA (mg ts),iM s.ob ids,iB (mg ts) Fa,lkM (mo v) (mo v))=(some l,some (mk v),some Fa,some (mo v),smM (mo v))):M C (λ e s=>∃ v,v=v0/\uA C tt fn ts ids (mk v) (mo v) e s) ⟨.ex .ret,[],s⟩:=by
 simp only [Prod.mk.injEq] at h;obtain ⟨h1,h2,h3,h4,h5⟩:=h;exact mQo (Option.some.inj e) (ay _) h1 h2 h3 h4 (AV.sub_refl _) (td h5)
theorem mSq (S:gb){id:Nat}
  (e:(C.P.follows .mixedOrders,S.imp.length,S.obj 0,lkB sl (S.bas 0),lkS S S.m,nodupB S.imp,S.imp.all (λ i=>Nat.blt i ops.size),chainB ops S.imp,(ops.toList.zipIdx.all λ p=>p.1.after.toList.all λ e=>!(Region.binds .any e)||Nat.blt e.on p.2))=(true,S.m,ob,smB (S.bas 0),smS S S.m,true,true,true,true))
  (h:DS C ops S (λ rev=>M C Q ⟨.ex .normal,k,⟨ed rev S.m++S.bas S.m,S.obj S.m⟩⟩) ops.toList 0 []):M C Q ⟨.cd (.region id ops true),k,⟨sl,ob⟩⟩:=by
 simp only [Prod.mk.injEq] at e;obtain ⟨e1,e2,e3,e4,e5,e6,e7,e8,e9⟩:=e;exact mS S e1 e2 e3 (rD e4) (tR e5) e6 e7 e8 e9 h
end
def ob2 (A:List (Nat×List AV))(x:Nat×List AV):Nat->List (Nat×List AV)|0=>A|_+1=>x::A
def ob3 (A:List (Nat×List AV))(x y:Nat×List AV):Nat->List (Nat×List AV)|0=>A|1=>x::A|_+2=>y::x::A
def ob5 (A:List (Nat×List AV))(x y z u:Nat×List AV):Nat->List (Nat×List AV)|0=>A|1=>x::A|2=>y::x::A|3=>z::y::x::A|_+4=>u::z::y::x::A
end Go.Ab
end
section
namespace Go.Ab.R06
open Go.Proofs Go.Ab Go.Ab.RB
attribute [local irreducible] awp gg ba aF aU AV.sub M cB
def nn (Kx:Int):Option Bool :=(if (-9007199254740992)<=Kx then some (decide (Kx<=9007199254740992))else some false : Option Bool).bind λ t2=>some t2
theorem tm (Kx:Int)(r:Bool)(h0:nn Kx=some r):aF Tryz.prog 216 [eI Kx] (·=.p (eB r)):=by
 unfold nn at h0;refine aZ good Tryz.func216 Z Z Z λ w0=>mP (λ v:Bool=>.p (eB v)) ?_;refine nx 5 Z (bd h0 λ o4 h1 h0=>?_);refine kN o4 (λ v5=>⟨[(2,.p (eB v5))],[]⟩) ?_ ?_
 ·exact nx 2 Z (mQ (oi h0) Z (sr))
 refine nx 4 Z (fD [4,5] h1 Z (λ c1 h1=>?_) λ c1 h1=>?_)
 ·exact nx 5 Z (eX _ (oi h1).symm (gE Z Z))
 exact nx 5 Z (eX _ (oi h1).symm (gE Z Z))
def sK (Ez:Bk):Nat->Int->Option (Unit⊕Bool)|0,_=>none|m+1,i9=>if i9<(Ez.length:Int) then(ck ((0:Int)<=i9/\i9<(Ez.length:Int))<|if byt Ez i9<48 then some true else ck ((0:Int)<=i9/\i9<(Ez.length:Int))<|some (decide (57<byt Ez i9)) : Option Bool).bind λ HR=>if HR=true then some (.inr false)else ck (inR (i9+1))<|sK Ez m (i9+1)else some (.inl ())
def eJ (Ez:Bk)(EO:Int)(lo_2:Int)(hi_3:Int):Option Bool :=(if EO<(Ez.length:Int) then ck ((0:Int)<=EO/\EO<(Ez.length:Int))<|if lo_2<=byt Ez EO then ck ((0:Int)<=EO/\EO<(Ez.length:Int))<|some (decide (byt Ez EO<=hi_3))else some false else some false : Option Bool).bind λ t5=>some t5
theorem iP (Ez:Bk)(EO:Int)(lo_2:Int)(hi_3:Int)(r:Bool)(h0:eJ Ez EO lo_2 hi_3=some r):aF Tryz.prog 132 [eS Ez,eI EO,eK .u8 lo_2,eK .u8 hi_3] (·=.p (eB r)):=by
 unfold eJ at h0;refine aZ good Tryz.func132 Z Z Z λ w0=>mP (λ v:Bool=>.p (eB v)) ?_;refine nx 5 Z (bd h0 λ o7 h1 h0=>?_);refine kN o7 (λ v8=>⟨[(8,.p (eB v8))],[]⟩) ?_ ?_
 ·exact nx 2 Z (mQ (oi h0) Z (sr))
 refine nx 3 Z (oLs Z ?_);refine nx 2 Z (fD [12,13] h1 Z (λ c1 h1=>?_) λ c1 h1=>?_)
 ·refine nx 2 Z (oI h1 Z λ Hm h1=>?_);refine nx 4 Z (fD [18,19,20] h1 Z (λ c3 h1=>?_) λ c3 h1=>?_)
  ·refine nx 2 Z (oI h1 Z λ IY h1=>?_);exact nx 5 Z (eX _ (oi h1).symm (gE Z Z))
  exact nx 8 Z (eX _ (oi h1).symm (gE Z Z))
 exact nx 15 Z (eX _ (oi h1).symm (gE Z Z))
def kK (Ez:Bk)(EO:Int):Option (Int×Int) :=(if EO<0 then some true else some (decide ((Ez.length:Int)<=EO)) : Option Bool).bind λ t2=>if t2=true then some (0,0)else ck ((0:Int)<=EO/\EO<(Ez.length:Int))<|if byt Ez EO<128 then ck (inR (byt Ez EO))<|some (byt Ez EO,1)else(if 194<=byt Ez EO then if byt Ez EO<=223 then ck (inR (EO+1))<|(eJ Ez (EO+1) 128 191).bind λ Fb=>some Fb else some false else some false : Option Bool).bind λ t12=>if t12=true then ck (inR (cZ .u8 (byt Ez EO) 31))<|ck ((0:Int)<=6)<|ck (inR (EO+1))<|ck ((0:Int)<=EO+1/\EO+1<(Ez.length:Int))<|ck (inR (cZ .u8 (byt Ez (EO+1)) 63))<|some (iOr .i64 (ky .i64 (cZ .u8 (byt Ez EO) 31) 6) (cZ .u8 (byt Ez (EO+1)) 63),2)else(if byt Ez EO=224 then some 160 else some 128 : Option Int).bind λ lo20=>(if byt Ez EO=237 then some 159 else some 191 : Option Int).bind λ hi22=>(if 224<=byt Ez EO then if byt Ez EO<=239 then ck (inR (EO+1))<|(eJ Ez (EO+1) lo20 hi22).bind λ H6=>if H6=true then ck (inR (EO+2))<|(eJ Ez (EO+2) 128 191).bind λ IM=>some IM else some false else some false else some false : Option Bool).bind λ MX=>if MX=true then ck (inR (cZ .u8 (byt Ez EO) 15))<|ck ((0:Int)<=12)<|ck (inR (EO+1))<|ck ((0:Int)<=EO+1/\EO+1<(Ez.length:Int))<|ck (inR (cZ .u8 (byt Ez (EO+1)) 63))<|ck ((0:Int)<=6)<|ck (inR (EO+2))<|ck ((0:Int)<=EO+2/\EO+2<(Ez.length:Int))<|ck (inR (cZ .u8 (byt Ez (EO+2)) 63))<|some (iOr .i64 (iOr .i64 (ky .i64 (cZ .u8 (byt Ez EO) 15) 12) (ky .i64 (cZ .u8 (byt Ez (EO+1)) 63) 6)) (cZ .u8 (byt Ez (EO+2)) 63),3)else(if byt Ez EO=240 then some 144 else some 128 : Option Int).bind λ lo44=>(if byt Ez EO=244 then some 143 else some 191 : Option Int).bind λ hi46=>(if 240<=byt Ez EO then if byt Ez EO<=244 then ck (inR (EO+1))<|(eJ Ez (EO+1) lo44 hi46).bind λ r50=>if r50=true then ck (inR (EO+2))<|(eJ Ez (EO+2) 128 191).bind λ Ix=>if Ix=true then ck (inR (EO+3))<|(eJ Ez (EO+3) 128 191).bind λ GE=>some GE else some false else some false else some false else some false : Option Bool).bind λ t60=>if t60=true then ck (inR (cZ .u8 (byt Ez EO) 7))<|ck ((0:Int)<=18)<|ck (inR (EO+1))<|ck ((0:Int)<=EO+1/\EO+1<(Ez.length:Int))<|ck (inR (cZ .u8 (byt Ez (EO+1)) 63))<|ck ((0:Int)<=12)<|ck (inR (EO+2))<|ck ((0:Int)<=EO+2/\EO+2<(Ez.length:Int))<|ck (inR (cZ .u8 (byt Ez (EO+2)) 63))<|ck ((0:Int)<=6)<|ck (inR (EO+3))<|ck ((0:Int)<=EO+3/\EO+3<(Ez.length:Int))<|ck (inR (cZ .u8 (byt Ez (EO+3)) 63))<|some (iOr .i64 (iOr .i64 (iOr .i64 (ky .i64 (cZ .u8 (byt Ez EO) 7) 18) (ky .i64 (cZ .u8 (byt Ez (EO+1)) 63) 12)) (ky .i64 (cZ .u8 (byt Ez (EO+2)) 63) 6)) (cZ .u8 (byt Ez (EO+3)) 63),4)else some (0,0)
theorem sB (Ez:Bk)(EO:Int)(r:Int×Int)(h0:kK Ez EO=some r):aF Tryz.prog 107 [eS Ez,eI EO] (·=.tuple [.p (eI r.1),.p (eI r.2)]):=by
 unfold kK at h0;refine aZ good Tryz.func107 Z Z Z λ w0=>mP (λ v:Int×Int=>.tuple [.p (eI v.1),.p (eI v.2)]) ?_;refine nx 7 Z (bd h0 λ KL h1 h0=>?_);refine kN KL (λ IC=>⟨[(0,.p (eS Ez)),(1,.p (eI EO)),(16,.p (eB IC))],[]⟩) ?_ ?_
 ·refine nx 1 Z (fB [16] h0 Z (λ c3 h0=>?_) λ c3 h0=>?_)
  ·exact nx 7 Z (mQ (oi h0) Z (aG ⟨sr,sr,trivial⟩))
  refine nx 6 Z (oI h0 Z λ IY h0=>?_);refine nx 8 Z (fD [21] h0 Z (λ c5 h0=>?_) λ c5 h0=>?_)
  ·refine nx 4 Z (cc' h0 λ MH h0=>?_);refine mO Z (gS Z Z Z Z Z Z Z Z (lx MH) ?_);exact nx 4 Z (mQ (oi h0) Z (aG ⟨sr,sr,trivial⟩))
  refine nx 4 Z (bd h0 λ Ji h1 h0=>?_);refine kN Ji (λ G8=>⟨[(0,.p (eS Ez)),(1,.p (eI EO)),(6,.p (eK .u8 (byt Ez EO))),(35,.p (eB G8))],[]⟩) ?_ ?_
  ·refine nx 1 Z (fB [35] h0 Z (λ FS h0=>?_) λ FS h0=>?_)
   ·refine nx 5 Z (cc' h0 λ HU h0=>?_);refine mO Z (gS Z Z Z Z Z Z Z Z (lx HU) ?_);refine cc' h0 λ Gv h0=>mO Z (oO Z Z Z Z Z Z Gv ?_);refine nx 2 Z (oA h0 Z Z λ GT h0=>?_);refine oI h0 Z λ K3 h0=>nx 1 Z (cc' h0 λ Hg h0=>?_);refine mO Z (gS Z Z Z Z Z Z Z Z (lx Hg) ?_);exact nx 5 Z (mQ (oi h0) Z (aG ⟨sr,sr,trivial⟩))
   refine nx 8 Z (bd h0 λ Nc h1 h0=>?_);refine kN Nc (λ v88=>⟨[(0,.p (eS Ez)),(1,.p (eI EO)),(6,.p (eK .u8 (byt Ez EO))),(7,.p (eK .u8 v88)),(8,.p (eK .u8 191))],[]⟩) ?_ ?_
   ·refine nx 2 Z (bd h0 λ LS h1 h0=>?_);refine kN LS (λ J6=>⟨[(0,.p (eS Ez)),(1,.p (eI EO)),(6,.p (eK .u8 (byt Ez EO))),(7,.p (eK .u8 Nc)),(8,.p (eK .u8 J6))],[]⟩) ?_ ?_
    ·refine nx 3 Z (bd h0 λ o91 h1 h0=>?_);refine kN o91 (λ v92=>⟨[(0,.p (eS Ez)),(1,.p (eI EO)),(6,.p (eK .u8 (byt Ez EO))),(70,.p (eB v92))],[]⟩) ?_ ?_
     ·refine nx 1 Z (fB [70] h0 Z (λ Mt h0=>?_) λ Mt h0=>?_)
      ·refine nx 2 Z (cc' h0 λ IB h0=>?_);refine cc' h0 λ IA h0=>cc' h0 λ HA h0=>cc' h0 λ Jo h0=>cc' h0 λ L6 h0=>cc' h0 λ K0 h0=>cc' h0 λ JW h0=>cc' h0 λ FO h0=>cc' h0 λ Gm h0=>mD [(0,.p (eS Ez)),(1,.p (eI EO)),(6,.p (eK .u8 (byt Ez EO)))] Z ⟨Z,Z,Z,trivial⟩ Z (dR 2 Z ?_);refine dq (.p (eI (cZ .u8 (byt Ez EO) 15))) [72] Z (λ _ e _ q=>ab Z (gS Z Z Z Z Z Z Z (e _ _ Z) (lx IB) q)) Z (dq (.p (eI (ky .i64 (cZ .u8 (byt Ez EO) 15) 12))) [73] Z (λ _ e _ q=>ab Z (oO Z Z Z (e _ _ Z) Z Z IA q)) Z ?_);refine dR 2 Z (dq (.p (eI (EO+1))) [76] Z (λ _ e _ q=>ab Z (ec Z Z Z (e _ _ Z) Z Z HA q)) Z ?_);refine dq (.p (eK .u8 (byt Ez (EO+1)))) [75,77] Z (λ _ e _ q=>ab Z (gA Z Z Z Z Z (e _ _ Z) (e _ _ Z) Jo q)) Z (dR 1 Z ?_);refine dq (.p (eI (cZ .u8 (byt Ez (EO+1)) 63))) [79] Z (λ _ e _ q=>ab Z (gS Z Z Z Z Z Z Z (e _ _ Z) (lx L6) q)) Z (dq (.p (eI (ky .i64 (cZ .u8 (byt Ez (EO+1)) 63) 6))) [80] Z (λ _ e _ q=>ab Z (oO Z Z Z (e _ _ Z) Z Z K0 q)) Z ?_);refine dR 3 Z (dq (.p (eI (EO+2))) [84] Z (λ _ e _ q=>ab Z (ec Z Z Z (e _ _ Z) Z Z JW q)) Z ?_);refine dq (.p (eK .u8 (byt Ez (EO+2)))) [83,85] Z (λ _ e _ q=>ab Z (gA Z Z Z Z Z (e _ _ Z) (e _ _ Z) FO q)) Z (dR 1 Z ?_);refine dq (.p (eI (cZ .u8 (byt Ez (EO+2)) 63))) [87] Z (λ _ e _ q=>ab Z (gS Z Z Z Z Z Z Z (e _ _ Z) (lx Gm) q)) Z (dR 3 Z ?_);refine dE Z (nx 2 Z ?_);exact mQ (oi h0) Z (aG ⟨sr,sr,trivial⟩)
      refine nx 8 Z (bd h0 λ o93 h1 h0=>?_);refine kN o93 (λ v94=>⟨[(0,.p (eS Ez)),(1,.p (eI EO)),(6,.p (eK .u8 (byt Ez EO))),(7,.p (eK .u8 v94)),(8,.p (eK .u8 191))],[]⟩) ?_ ?_
      ·refine nx 2 Z (bd h0 λ o95 h1 h0=>?_);refine kN o95 (λ v96=>⟨[(0,.p (eS Ez)),(1,.p (eI EO)),(6,.p (eK .u8 (byt Ez EO))),(7,.p (eK .u8 o93)),(8,.p (eK .u8 v96))],[]⟩) ?_ ?_
       ·refine nx 3 Z (bd h0 λ o97 h1 h0=>?_);refine kN o97 (λ v98=>⟨[(0,.p (eS Ez)),(1,.p (eI EO)),(6,.p (eK .u8 (byt Ez EO))),(119,.p (eB v98))],[]⟩) ?_ ?_
        ·refine nx 1 Z (fB [119] h0 Z (λ NN h0=>?_) λ NN h0=>?_)
         ·refine nx 2 Z (cc' h0 λ Np h0=>?_);refine cc' h0 λ hk63 h0=>cc' h0 λ hk64 h0=>cc' h0 λ L2 h0=>cc' h0 λ JR h0=>cc' h0 λ hk67 h0=>cc' h0 λ IU h0=>cc' h0 λ Iy h0=>cc' h0 λ Jn h0=>cc' h0 λ Jm h0=>cc' h0 λ hk72 h0=>cc' h0 λ KA h0=>cc' h0 λ hk74 h0=>?_;refine mD [(0,.p (eS Ez)),(1,.p (eI EO)),(6,.p (eK .u8 (byt Ez EO)))] Z ⟨Z,Z,Z,trivial⟩ Z (dR 2 Z ?_);refine dq (.p (eI (cZ .u8 (byt Ez EO) 7))) [121] Z (λ _ e _ q=>ab Z (gS Z Z Z Z Z Z Z (e _ _ Z) (lx Np) q)) Z (dq (.p (eI (ky .i64 (cZ .u8 (byt Ez EO) 7) 18))) [122] Z (λ _ e _ q=>ab Z (oO Z Z Z (e _ _ Z) Z Z hk63 q)) Z ?_);refine dR 2 Z (dq (.p (eI (EO+1))) [125] Z (λ _ e _ q=>ab Z (ec Z Z Z (e _ _ Z) Z Z hk64 q)) Z ?_);refine dq (.p (eK .u8 (byt Ez (EO+1)))) [124,126] Z (λ _ e _ q=>ab Z (gA Z Z Z Z Z (e _ _ Z) (e _ _ Z) L2 q)) Z (dR 1 Z ?_);refine dq (.p (eI (cZ .u8 (byt Ez (EO+1)) 63))) [128] Z (λ _ e _ q=>ab Z (gS Z Z Z Z Z Z Z (e _ _ Z) (lx JR) q)) Z (dq (.p (eI (ky .i64 (cZ .u8 (byt Ez (EO+1)) 63) 12))) [129] Z (λ _ e _ q=>ab Z (oO Z Z Z (e _ _ Z) Z Z hk67 q)) Z ?_);refine dR 3 Z (dq (.p (eI (EO+2))) [133] Z (λ _ e _ q=>ab Z (ec Z Z Z (e _ _ Z) Z Z IU q)) Z ?_);refine dq (.p (eK .u8 (byt Ez (EO+2)))) [132,134] Z (λ _ e _ q=>ab Z (gA Z Z Z Z Z (e _ _ Z) (e _ _ Z) Iy q)) Z (dR 1 Z ?_);refine dq (.p (eI (cZ .u8 (byt Ez (EO+2)) 63))) [136] Z (λ _ e _ q=>ab Z (gS Z Z Z Z Z Z Z (e _ _ Z) (lx Jn) q)) Z (dq (.p (eI (ky .i64 (cZ .u8 (byt Ez (EO+2)) 63) 6))) [137] Z (λ _ e _ q=>ab Z (oO Z Z Z (e _ _ Z) Z Z Jm q)) Z ?_);refine dR 3 Z (dq (.p (eI (EO+3))) [141] Z (λ _ e _ q=>ab Z (ec Z Z Z (e _ _ Z) Z Z hk72 q)) Z ?_);refine dq (.p (eK .u8 (byt Ez (EO+3)))) [140,142] Z (λ _ e _ q=>ab Z (gA Z Z Z Z Z (e _ _ Z) (e _ _ Z) KA q)) Z (dR 1 Z ?_);refine dq (.p (eI (cZ .u8 (byt Ez (EO+3)) 63))) [144] Z (λ _ e _ q=>ab Z (gS Z Z Z Z Z Z Z (e _ _ Z) (lx hk74) q)) Z (dR 3 Z ?_);refine dE Z (nx 1 Z ?_);refine mG (gE (t:=⟨[(4,.p (eI (iOr .i64 (iOr .i64 (iOr .i64 (ky .i64 (cZ .u8 (byt Ez EO) 7) 18) (ky .i64 (cZ .u8 (byt Ez (EO+1)) 63) 12)) (ky .i64 (cZ .u8 (byt Ez (EO+2)) 63) 6)) (cZ .u8 (byt Ez (EO+3)) 63)))),(5,.p (eI 4))],[]⟩) Z Z) (nx 1 Z ?_);exact mQ (oi h0) Z (aG ⟨sr,sr,trivial⟩)
         exact nx 8 Z (mQ (oi h0) Z (aG ⟨sr,sr,trivial⟩))
        refine nx 4 Z (fD [95,96] h1 Z (λ Lf h1=>?_) λ Lf h1=>?_)
        ·refine nx 4 Z (fD [98,99,100] h1 Z (λ NQ h1=>?_) λ NQ h1=>?_)
         ·refine nx 2 Z (oA h1 Z Z λ L4 h1=>?_);refine nx 2 Z (bd h1 λ r50 e51 h1=>?_);refine oK (iP Ez (EO+1) o93 o95 _ e51) Z ⟨sr,sr,sr,sr,trivial⟩ Tryz.call132 Z (nx 2 Z ?_);refine fB [106,107,108] h1 Z (λ KF h1=>?_) λ KF h1=>?_
          ·refine nx 2 Z (oA h1 Z Z λ IW h1=>?_);refine bd h1 λ Ix NA h1=>oK (iP Ez (EO+2) 128 191 _ NA) Z ⟨sr,sr,sr,sr,trivial⟩ Tryz.call132 Z (nx 2 Z ?_);refine fB [112,113,114] h1 Z (λ NO h1=>?_) λ NO h1=>?_
           ·refine nx 2 Z (oA h1 Z Z λ JS h1=>?_);refine bd h1 λ GE K7 h1=>oK (iP Ez (EO+3) 128 191 _ K7) Z ⟨sr,sr,sr,sr,trivial⟩ Tryz.call132 Z (nx 2 Z ?_);exact eX _ (oi h1).symm (gE Z Z)
           exact nx 6 Z (eX _ (oi h1).symm (gE Z Z))
          exact nx 12 Z (eX _ (oi h1).symm (gE Z Z))
         exact nx 20 Z (eX _ (oi h1).symm (gE Z Z))
        exact nx 24 Z (eX _ (oi h1).symm (gE Z Z))
       refine nx 5 Z (fD [93] h1 Z (λ NR h1=>?_) λ NR h1=>?_)
       ·exact nx 4 Z (eX _ (oi h1).symm (gE Z Z))
       exact nx 2 Z (eX _ (oi h1).symm (gE Z Z))
      refine nx 5 Z (fD [91] h1 Z (λ HN h1=>?_) λ HN h1=>?_)
      ·exact nx 4 Z (eX _ (oi h1).symm (gE Z Z))
      exact nx 2 Z (eX _ (oi h1).symm (gE Z Z))
     refine nx 4 Z (fD [52,53] h1 Z (λ GX h1=>?_) λ GX h1=>?_)
     ·refine nx 4 Z (fD [55,56,57] h1 Z (λ HD h1=>?_) λ HD h1=>?_)
      ·refine nx 2 Z (oA h1 Z Z λ Gu h1=>?_);refine nx 2 Z (bd h1 λ H6 Mp h1=>?_);refine oK (iP Ez (EO+1) Nc LS _ Mp) Z ⟨sr,sr,sr,sr,trivial⟩ Tryz.call132 Z (nx 2 Z ?_);refine fB [63,64,65] h1 Z (λ Lh h1=>?_) λ Lh h1=>?_
       ·refine nx 2 Z (oA h1 Z Z λ KC h1=>?_);refine bd h1 λ IM Mm h1=>oK (iP Ez (EO+2) 128 191 _ Mm) Z ⟨sr,sr,sr,sr,trivial⟩ Tryz.call132 Z (nx 2 Z ?_);exact eX _ (oi h1).symm (gE Z Z)
       exact nx 6 Z (eX _ (oi h1).symm (gE Z Z))
      exact nx 14 Z (eX _ (oi h1).symm (gE Z Z))
     exact nx 18 Z (eX _ (oi h1).symm (gE Z Z))
    refine nx 5 Z (fD [50] h1 Z (λ c21 h1=>?_) λ c21 h1=>?_)
    ·exact nx 4 Z (eX _ (oi h1).symm (gE Z Z))
    exact nx 2 Z (eX _ (oi h1).symm (gE Z Z))
   refine nx 5 Z (fD [48] h1 Z (λ HE h1=>?_) λ HE h1=>?_)
   ·exact nx 4 Z (eX _ (oi h1).symm (gE Z Z))
   exact nx 2 Z (eX _ (oi h1).symm (gE Z Z))
  refine nx 4 Z (fD [25,26] h1 Z (λ c7 h1=>?_) λ c7 h1=>?_)
  ·refine nx 4 Z (fD [28,29,30] h1 Z (λ c8 h1=>?_) λ c8 h1=>?_)
   ·refine nx 2 Z (oA h1 Z Z λ Iv h1=>?_);refine bd h1 λ Fb G6 h1=>oK (iP Ez (EO+1) 128 191 _ G6) Z ⟨sr,sr,sr,sr,trivial⟩ Tryz.call132 Z (nx 2 Z ?_);exact eX _ (oi h1).symm (gE Z Z)
   exact nx 6 Z (eX _ (oi h1).symm (gE Z Z))
  exact nx 10 Z (eX _ (oi h1).symm (gE Z Z))
 refine nx 4 Z (fD [10,11] h1 Z (λ c1 h1=>?_) λ c1 h1=>?_)
 ·exact nx 6 Z (eX _ (oi h1).symm (gE Z Z))
 refine nx 2 Z (oLs Z ?_);exact nx 3 Z (eX _ (oi h1).symm (gE Z Z))
def gi (Ez:Bk):Nat->Int->Option (Unit⊕Bool)|0,_=>none|m+1,i8=>if i8<(Ez.length:Int) then(kK Ez i8).bind λ Fb=>if Fb.2=0 then some (.inr false)else ck (inR (i8+Fb.2))<|gi Ez m (i8+Fb.2)else some (.inl ())
def im (n:Nat)(Ez:Bk):Option Bool :=if 4096<(Ez.length:Int) then some false else jn (gi Ez n 0) λ _Hl=>some true
theorem pG (n:Nat)(Ez:Bk)(r:Bool)(h0:im n Ez=some r):aF Tryz.prog 73 [eS Ez] (·=.p (eB r)):=by
 unfold im at h0;refine aZ good Tryz.func73 Z Z Z λ w0=>mP (λ v:Bool=>.p (eB v)) ?_;refine nx 8 Z (oLs Z ?_);refine nx 2 Z (fD [8] h0 Z (λ c1 h0=>?_) λ c1 h0=>?_)
 ·exact nx 6 Z (mQ (oi h0) Z (sr))
 refine nx 8 rfl ?_;obtain ⟨MF,h1,E3,hR0⟩:=bR h0;refine kEx 0 (λ Ih:Unit=>MF=.inl Ih) (λ Ih=>⟨[],[]⟩) (λ Ih hv=>?_) ?_
 ·have h0:=E3 _ hv;exact nx 6 Z (mQ (oi h0) Z (sr))
 refine lG (λ (q18:Int)=>⟨[(0,.p (eS Ez)),(3,.p (eI q18))],[]⟩) (λ m (q18:Int)=>gi Ez m q18) Y 0 h1 (gE rfl rfl) ?_;rintro m i8 h1;replace h1:gi Ez (m+1) i8=some MF:=h1;rw [gi] at h1;refine nx 5 rfl (oLs rfl ?_);refine nx 2 rfl (fD [12] h1 rfl (λ c9 h1=>?_) λ c9 h1=>?_)
 ·refine nx 7 Z (bd h1 λ Fb G6 h1=>?_);refine oK (sB Ez i8 _ G6) Z ⟨sr,sr,trivial⟩ Tryz.call107 Z (nx 12 Z ?_);refine fD [20] h1 Z (λ HG h1=>?_) λ HG h1=>?_
  ·exact nx 6 Z (mQ (hR0 _ (oi h1).symm) Z (sr))
  refine nx 5 Z (oA h1 Z Z λ HV h1=>?_);exact nx 2 Z (eX (i8+Fb.2) h1 (gE Z Z))
 exact nx 2 Z (eXi _ (oi h1).symm (gE Z Z))
def kG (EJ:ar):Option Bool :=(if EJ.AI=2 then some true else if EJ.AI=1 then if EJ.Em=0 then some true else if EJ.Em=1 then some true else some (decide (EJ.Em=0))else some (decide (EJ.Em=0)) : Option Bool).bind λ num5=>(if EJ.AI=3 then some true else some (decide (EJ.Ep=([]:Bk))) : Option Bool).bind λ str7=>(if EJ.AI=4 then some true else if EJ.AI=5 then some true else some (decide ((EJ.Ei.length:Int)=0)) : Option Bool).bind λ items10=>(if EJ.AI=5 then if (EJ.El.length:Int)=(EJ.Ei.length:Int) then some true else some false else some (decide ((EJ.El.length:Int)=0)) : Option Bool).bind λ keys13=>(if 0<=EJ.AI then if EJ.AI<=6 then if num5=true then if str7=true then if items10=true then some keys13 else some false else some false else some false else some false else some false : Option Bool).bind λ FA=>some FA
theorem sP (EJ:ar)(r:Bool)(h0:kG EJ=some r):aF Tryz.prog 215 [.agg (ar.cs EJ)] (·=.p (eB r)):=by
 unfold kG at h0;refine aZ good Tryz.func215 Z Z Z λ w0=>mP (λ v:Bool=>.p (eB v)) ?_;refine nx 6 Z (bd h0 λ Ip h1 h0=>?_);refine kN Ip (λ Ig=>⟨[(1,.ptr 1 0),(3,.p (eB Ig))],[(1,(ar.cs EJ).map .p)]⟩) ?_ ?_
 ·refine nx 2 Z (bd h0 λ FR h1 h0=>?_);refine kN FR (λ HZ=>⟨[(1,.ptr 1 0),(3,.p (eB Ip)),(4,.p (eB HZ))],[(1,(ar.cs EJ).map .p)]⟩) ?_ ?_
  ·refine nx 2 Z (bd h0 λ Ht h1 h0=>?_);refine kN Ht (λ Gx=>⟨[(1,.ptr 1 0),(3,.p (eB Ip)),(4,.p (eB FR)),(5,.p (eB Gx))],[(1,(ar.cs EJ).map .p)]⟩) ?_ ?_
   ·refine nx 2 Z (bd h0 λ Lz h1 h0=>?_);refine kN Lz (λ Mw=>⟨[(1,.ptr 1 0),(3,.p (eB Ip)),(4,.p (eB FR)),(5,.p (eB Ht)),(6,.p (eB Mw))],[(1,(ar.cs EJ).map .p)]⟩) ?_ ?_
    ·refine nx 2 Z (bd h0 λ Ly h1 h0=>?_);refine kN Ly (λ Mv=>⟨[(2,.p (eB Mv))],[]⟩) ?_ ?_
     ·exact nx 2 Z (mQ (oi h0) Z (sr))
     refine nx 5 Z (fD [77,78] h1 Z (λ HF h1=>?_) λ HF h1=>?_)
     ·refine nx 5 Z (fD [81,82,83] h1 Z (λ Gw h1=>?_) λ Gw h1=>?_)
      ·refine nx 3 Z (fB [3,84,85,86] h1 Z (λ Ju h1=>?_) λ Ju h1=>?_)
       ·refine nx 3 Z (fB [4,87,88,89] h1 Z (λ Fc h1=>?_) λ Fc h1=>?_)
        ·refine nx 3 Z (fB [5,90,91,92] h1 Z (λ G7 h1=>?_) λ G7 h1=>?_)
         ·exact nx 4 Z (eX _ (oi h1).symm (gE Z Z))
         exact nx 4 Z (eX _ (oi h1).symm (gE Z Z))
        exact nx 7 Z (eX _ (oi h1).symm (gE Z Z))
       exact nx 10 Z (eX _ (oi h1).symm (gE Z Z))
      exact nx 13 Z (eX _ (oi h1).symm (gE Z Z))
     exact nx 18 Z (eX _ (oi h1).symm (gE Z Z))
    refine nx 5 Z (fD [54,55] h1 Z (λ GK h1=>?_) λ GK h1=>?_)
    ·refine nx 2 Z (oLl (f:=eS) Z Z ?_);refine nx 2 Z (oLl (f:=bw) Z Z ?_);refine nx 3 Z (fD [62,63,64] h1 Z (λ HG h1=>?_) λ HG h1=>?_)
     ·exact nx 12 Z (eX _ (oi h1).symm (gE Z Z))
     refine nx 4 Z (lT [68] (jY GK) Z ?_);exact nx 8 Z (eX _ (oi h1).symm (gE Z Z))
    refine nx 13 Z (lT [68] (pW GK) Z ?_);refine nx 2 Z (oLl (f:=eS) Z Z ?_);exact nx 5 Z (eX _ (oi h1).symm (gE Z Z))
   refine nx 5 Z (fD [40,41] h1 Z (λ c8 h1=>?_) λ c8 h1=>?_)
   ·exact nx 12 Z (eX _ (oi h1).symm (gE Z Z))
   refine nx 5 Z (fD [44,45,46] h1 Z (λ c9 h1=>?_) λ c9 h1=>?_)
   ·exact nx 7 Z (eX _ (oi h1).symm (gE Z Z))
   refine nx 2 Z (oLl (f:=bw) Z Z ?_);exact nx 4 Z (eX _ (oi h1).symm (gE Z Z))
  refine nx 5 Z (fD [32,33] h1 Z (λ c6 h1=>?_) λ c6 h1=>?_)
  ·exact nx 6 Z (eX _ (oi h1).symm (gE Z Z))
  refine nx 2 Z (oS Z Z ?_);exact nx 3 Z (eX _ (oi h1).symm (gE Z Z))
 refine nx 5 Z (fD [9,10] h1 Z (λ c1 h1=>?_) λ c1 h1=>?_)
 ·exact nx 21 Z (eX _ (oi h1).symm (gE Z Z))
 refine nx 4 Z (fD [13,14] h1 Z (λ c2 h1=>?_) λ c2 h1=>?_)
 ·refine nx 4 Z (fD [17,18] h1 Z (λ c3 h1=>?_) λ c3 h1=>?_)
  ·exact nx 13 Z (eX _ (oi h1).symm (gE Z Z))
  refine nx 7 Z (fD [21,22,23,24,25] h1 Z (λ c4 h1=>?_) λ c4 h1=>?_)
  ·exact nx 6 Z (eX _ (oi h1).symm (gE Z Z))
  exact nx 6 Z (eX _ (oi h1).symm (gE Z Z))
 exact nx 17 Z (eX _ (oi h1).symm (gE Z Z))
def kc (n:Nat)(Ez:Bk):Option Int :=if 4096<(Ez.length:Int) then some 3 else(im n Ez).bind λ r2=>if (!r2)=true then some 1 else some 0
theorem qf (n:Nat)(Ez:Bk)(r:Int)(h0:kc n Ez=some r):aF Tryz.prog 217 [eS Ez] (·=.p (eI r)):=by
 unfold kc at h0;refine aZ good Tryz.func217 Z Z Z λ w0=>mP (λ v:Int=>.p (eI v)) ?_;refine nx 8 Z (oLs Z ?_);refine nx 2 Z (fD [5] h0 Z (λ c1 h0=>?_) λ c1 h0=>?_)
 ·exact nx 6 Z (mQ (oi h0) Z (sr))
 refine nx 6 Z (bd h0 λ r2 e3 h0=>?_);refine oK (pG _ Ez _ e3) Z ⟨sr,trivial⟩ Tryz.call73 Z (nx 2 Z ?_);refine fB [8] h0 Z (λ c4 h0=>?_) λ c4 h0=>?_
 ·exact nx 6 Z (mQ (oi h0) Z (sr))
 exact nx 7 Z (mQ (oi h0) Z (sr))
def ga (n:Nat)(EJ:ar):Nat->Int->Option (Unit⊕Int)|0,_=>none|m+1,i25=>if i25<(EJ.El.length:Int) then ck ((0:Int)<=i25/\i25<(EJ.El.length:Int))<|(kc n (lat EJ.El i25)).bind λ FX=>if FX=0 then(if 0<i25 then ck (inR (i25-1))<|ck ((0:Int)<=i25-1/\i25-1<(EJ.El.length:Int))<|ck ((0:Int)<=i25/\i25<(EJ.El.length:Int))<|some (!Op.bytesLess (lat EJ.El (i25-1)) (lat EJ.El i25))else some false : Option Bool).bind λ t35=>if t35=true then some (.inr 1)else ck (inR (i25+1))<|ga n EJ m (i25+1)else some (.inr FX)else some (.inl ())
def my (n:Nat)(EJ:ar):Option Int :=(kG EJ).bind λ r1=>if (!r1)=true then some 1 else(if EJ.AI=2 then(nn EJ.Em).bind λ r5=>some (!r5)else some false : Option Bool).bind λ t7=>if t7=true then some 5 else(kc n EJ.Ep).bind λ r9=>if r9=0 then jn (ga n EJ n 0) λ _KI=>some 0 else some r9
theorem uJ (n:Nat)(EJ:ar)(r:Int)(h0:my n EJ=some r):aF Tryz.prog 203 [.agg (ar.cs EJ)] (·=.p (eI r)):=by
 unfold my at h0;refine aZ good Tryz.func203 Z Z Z λ w0=>mP (λ v:Int=>.p (eI v)) ?_;refine nx 9 Z (bd h0 λ r1 e2 h0=>?_);refine oK (sP EJ _ e2) Z ⟨sr,trivial⟩ Tryz.call215 Z (nx 2 Z ?_);refine fB [8] h0 Z (λ c3 h0=>?_) λ c3 h0=>?_
 ·exact nx 6 Z (mQ (oi h0) Z (sr))
 refine nx 4 Z (bd h0 λ H9 h1 h0=>?_);refine kN H9 (λ HX=>⟨[(1,.ptr 1 0),(17,.p (eB HX))],[(1,(ar.cs EJ).map .p)]⟩) ?_ ?_
 ·refine nx 1 Z (fB [17] h0 Z (λ c8 h0=>?_) λ c8 h0=>?_)
  ·exact nx 6 Z (mQ (oi h0) Z (sr))
  refine nx 7 Z (bd h0 λ r9 GW h0=>?_);refine oK (qf _ EJ.Ep _ GW) Z ⟨sr,trivial⟩ Tryz.call217 Z (nx 7 Z ?_);refine fN [22] h0 Z (λ GK h0=>?_) λ GK h0=>?_
  ·refine nx 8 rfl ?_;obtain ⟨LY,h1,E3,hR0⟩:=bR h0;refine kEx 0 (λ LF:Unit=>LY=.inl LF) (λ LF=>⟨[],[]⟩) (λ LF hv=>?_) ?_
   ·have h0:=E3 _ hv;exact nx 6 Z (mQ (oi h0) Z (sr))
   refine lG (λ (Ie:Int)=>⟨[(1,.ptr 1 0),(4,.p (eI Ie))],[(1,(ar.cs EJ).map .p)]⟩) (λ m (Ie:Int)=>ga n EJ m Ie) Y 0 h1 (gE rfl rfl) ?_;rintro m i25 h1;replace h1:ga n EJ (m+1) i25=some LY:=h1;rw [ga] at h1;refine nx 6 rfl (oLl (f:=eS) rfl rfl ?_);refine nx 2 rfl (fD [28] h1 rfl (λ Is h1=>?_) λ Is h1=>?_)
   ·refine nx 10 Z (oE h1 Y Z Z Y λ HM h1=>?_);refine nx 1 Z (bd h1 λ FX Mo h1=>?_);refine oK (qf _ (lat EJ.El i25) _ Mo) Z ⟨sr,trivial⟩ Tryz.call217 Z (nx 7 Z ?_);refine fN [38] h1 Z (λ Ic h1=>?_) λ Ic h1=>?_
    ·refine nx 3 Z (bd h1 λ MB h2 h1=>?_);refine kN MB (λ MO=>⟨[(1,.ptr 1 0),(4,.p (eI i25)),(55,.p (eB MO))],[(1,(ar.cs EJ).map .p)]⟩) ?_ ?_
     ·refine nx 1 Z (fB [55] h1 Z (λ J3 h1=>?_) λ J3 h1=>?_)
      ·exact nx 6 Z (mQ (hR0 _ (oi h1).symm) Z (sr))
      refine nx 4 Z (oA h1 Z Z λ Jo h1=>?_);exact nx 2 Z (eX (i25+1) h1 (gE Z Z))
     refine fD (p:=0<i25) [] h2 Z (λ J4 h2=>?_) λ J4 h2=>?_
     ·refine cc' h2 λ Nr h2=>cc' h2 λ L8 h2=>cc' h2 λ IB h2=>mD [(1,.ptr 1 0),(4,.p (eI i25))] Z ⟨Z,Z,trivial⟩ Z (dR 1 Z ?_);refine dL (dt J4) Z (dR 4 Z ?_);refine dq (.p (eI (i25-1))) [42,45] Z (λ _ e _ q=>bh (ec Z Z Z (e _ _ Z) Z Z Nr q) Z Z (e _ _ Z) (rfl)) Z (dq (.rptr [eS (lat EJ.El (i25-1))]) [42,44,46] Z (λ _ e _ q=>bh (cT (f:=eS) (l:=EJ.El) (λ x=>[eS x]) Z Z Z Z Z Z (e _ _ Z) Z (e _ _ Z) L8 Y Y q) Z Z (e _ _ Z) (rfl)) Z ?_);refine dR 4 Z (dq (.rptr [eS (lat EJ.El i25)]) [42,50,51] Z (λ _ e _ q=>bh (cT (f:=eS) (l:=EJ.El) (λ x=>[eS x]) Z Z Z Z Z Z (e _ _ Z) Z (e _ _ Z) IB Y Y q) Z Z (e _ _ Z) (rfl)) Z ?_);refine dR 1 Z (dq (.p (eB (!Op.bytesLess (lat EJ.El (i25-1)) (lat EJ.El i25)))) [42,48,53] Z (λ _ e _ q=>bh (jv Z Z Z (e _ _ Z) (e _ _ Z) Z q) Z Z (e _ _ Z) (rfl)) Z ?_);refine dR 1 Z (dE Z ?_);exact nx 1 Z (eX _ (oi h2).symm (gE Z Z))
     refine mD [(1,.ptr 1 0),(4,.p (eI i25))] Z ⟨Z,Z,trivial⟩ Z (dR 1 Z ?_);refine dL (df J4) Z (dR 14 Z ?_);refine dE Z (nx 1 Z ?_);exact eX _ (oi h2).symm (gE Z Z)
    exact nx 7 Z (mQ (hR0 _ (oi h1).symm) Z (sr))
   exact nx 2 Z (eXi _ (oi h1).symm (gE Z Z))
  exact nx 7 Z (mQ (oi h0) Z (sr))
 refine nx 5 Z (fD [11,12] h1 Z (λ c4 h1=>?_) λ c4 h1=>?_)
 ·refine nx 2 Z (bd h1 λ r5 e6 h1=>?_);refine oK (tm EJ.Em _ e6) Z ⟨sr,trivial⟩ Tryz.call216 Z (nx 3 Z ?_);exact eX _ (oi h1).symm (gE Z Z)
 exact nx 6 Z (eX _ (oi h1).symm (gE Z Z))
def gn (Hb:ar->Int->Int->Option (Int×Int))(EJ:ar)(EE:Int):Nat->Int->Int->Option (Int⊕(Int×Int))|0,_,_=>none|m+1,n16,i17=>if i17<(EJ.Ei.length:Int) then ck ((0:Int)<=i17/\i17<(EJ.Ei.length:Int))<|ck (inR (EE+1))<|(Hb (lat EJ.Ei i17) (EE+1) n16).bind λ EY=>if EY.1=0 then ck (inR (i17+1))<|gn Hb EJ EE m EY.2 (i17+1)else some (.inr (EY.1,EY.2))else some (.inl n16)
def ir:Nat->ar->Int->Int->Option (Int×Int)|0,_,_,_=>none|n+1,EJ,EE,EU=>if 32<EE then some (4,EU)else if 4096<=EU then some (14,EU)else(my n EJ).bind λ r3=>if r3=0 then ck (inR (EU+1))<|jn (gn (ir n) EJ EE n (EU+1) 0) λ n27=>some (0,n27)else some (r3,EU)
theorem tw (n:Nat):∀ (EJ:ar) (EE:Int) (EU:Int) (r:Int×Int),ir n EJ EE EU=some r->aF Tryz.prog 182 [.agg (ar.cs EJ),eI EE,eI EU] (·=.tuple [.p (eI r.1),.p (eI r.2)]):=by
 induction n with
 | zero=>intro EJ EE EU r h0; cases h0
 | succ n ih=>
 have Hx:=ih;intro EJ EE EU r h0;rw [ir] at h0;refine aZ good Tryz.func182 Z Z Z λ w0=>mP (λ v:Int×Int=>.tuple [.p (eI v.1),.p (eI v.2)]) ?_;refine nx 12 Z (fD [14] h0 Z (λ c1 h0=>?_) λ c1 h0=>?_)
 ·exact nx 8 Z (mQ (oi h0) Z (aG ⟨sr,sr,trivial⟩))
 refine nx 8 Z (fD [17] h0 Z (λ c2 h0=>?_) λ c2 h0=>?_)
 ·exact nx 8 Z (mQ (oi h0) Z (aG ⟨sr,sr,trivial⟩))
 refine nx 6 Z (bd h0 λ r3 e4 h0=>?_);refine oK (uJ _ EJ _ e4) Z ⟨sr,trivial⟩ Tryz.call203 Z (nx 7 Z ?_);refine fN [22] h0 Z (λ c5 h0=>?_) λ c5 h0=>?_
 ·refine nx 5 rfl (oA h0 Z Z λ MH h0=>?_);refine nx 8 rfl ?_;obtain ⟨Ht,h1,E3,hR0⟩:=bR h0;refine kEx 0 (λ Gx:Int=>Ht=.inl Gx) (λ Gx=>⟨[(9,.p (eI Gx))],[]⟩) (λ Gx hv=>?_) ?_
  ·have h0:=E3 _ hv;exact nx 8 Z (mQ (oi h0) Z (aG ⟨sr,sr,trivial⟩))
  refine lG (λ (Hk:Int×Int)=>⟨[(1,.p (eI EE)),(3,.ptr 3 0),(9,.p (eI Hk.1)),(10,.p (eI Hk.2))],[(3,(ar.cs EJ).map .p)]⟩) (λ m (Hk:Int×Int)=>gn (ir n) EJ EE m Hk.1 Hk.2) Y (EU+1,0) h1 (gE rfl rfl) ?_;rintro m ⟨n16,i17⟩ h1;replace h1:gn (ir n) EJ EE (m+1) n16 i17=some Ht:=h1;rw [gn] at h1;refine nx 6 rfl (oLl (f:=bw) rfl rfl ?_);refine nx 2 rfl (fD [31] h1 rfl (λ G7 h1=>?_) λ G7 h1=>?_)
  ·refine nx 9 Z (oE h1 ar.BY Z Z Y λ FD h1=>?_);refine nx 2 Z (oA h1 Z Z λ Fv h1=>?_);refine nx 1 Z (bd h1 λ EY Ir h1=>?_);refine oK (Hx (lat EJ.Ei i17) (EE+1) n16 _ Ir) Z ⟨sr,sr,sr,trivial⟩ Tryz.call182 Z (nx 12 Z ?_);refine fN [47] h1 Z (λ GX h1=>?_) λ GX h1=>?_
   ·refine nx 8 Z (oA h1 Z Z λ G3 h1=>?_);exact nx 2 Z (eX (EY.2,i17+1) h1 (gE Z Z))
   refine nx 8 Z (mG (gE (t:=⟨[(6,.p (eI EY.1)),(7,.p (eI EY.2))],[]⟩) Z Z) ?_);exact nx 1 Z (mQ (hR0 _ (oi h1).symm) Z (aG ⟨sr,sr,trivial⟩))
  exact nx 2 Z (eXi _ (oi h1).symm (gE Z Z))
 exact nx 9 Z (mQ (oi h0) Z (aG ⟨sr,sr,trivial⟩))
def lz (n:Nat)(EJ:ar):Option Int :=(ir n EJ 1 0).bind λ r1=>some r1.1
theorem s9 (n:Nat)(EJ:ar)(r:Int)(h0:lz n EJ=some r):aF Tryz.prog 154 [.agg (ar.cs EJ)] (·=.p (eI r)):=by
 unfold lz at h0;refine aZ good Tryz.func154 Z Z Z λ w0=>mP (λ v:Int=>.p (eI v)) ?_;refine nx 8 Z (bd h0 λ r1 e2 h0=>?_);refine oK (tw _ EJ 1 0 _ e2) Z ⟨sr,sr,sr,trivial⟩ Tryz.call182 Z (nx 12 Z ?_);exact mQ (oi h0) Z (sr)
def sM (Ez:Bk):Nat->Int->Option Int|0,_=>none|m+1,at11=>(if at11<(Ez.length:Int) then ck ((0:Int)<=at11/\at11<(Ez.length:Int))<|if byt Ez at11=32 then some true else ck ((0:Int)<=at11/\at11<(Ez.length:Int))<|if byt Ez at11=9 then some true else ck ((0:Int)<=at11/\at11<(Ez.length:Int))<|some (decide (byt Ez at11=13))else some false : Option Bool).bind λ FT=>if FT=true then ck (inR (at11+1))<|sM Ez m (at11+1)else some at11
def jE (HQ:Int):Option Bool :=(if 97<=HQ then if HQ<=122 then some true else if 65<=HQ then if HQ<=90 then some true else some (decide (HQ=95))else some (decide (HQ=95))else if 65<=HQ then if HQ<=90 then some true else some (decide (HQ=95))else some (decide (HQ=95)) : Option Bool).bind λ t7=>some t7
theorem oQ (HQ:Int)(r:Bool)(h0:jE HQ=some r):aF Tryz.prog 105 [eK .u8 HQ] (·=.p (eB r)):=by
 unfold jE at h0;refine aZ good Tryz.func105 Z Z Z λ w0=>mP (λ v:Bool=>.p (eB v)) ?_;refine nx 5 Z (bd h0 λ o9 h1 h0=>?_);refine kN o9 (λ MV=>⟨[(2,.p (eB MV))],[]⟩) ?_ ?_
 ·exact nx 2 Z (mQ (oi h0) Z (sr))
 refine nx 4 Z (fD [4,5] h1 Z (λ c1 h1=>?_) λ c1 h1=>?_)
 ·refine nx 4 Z (fD [7,8,9] h1 Z (λ c2 h1=>?_) λ c2 h1=>?_)
  ·exact nx 13 Z (eX _ (oi h1).symm (gE Z Z))
  refine nx 3 Z (fD [11,12] h1 Z (λ c3 h1=>?_) λ c3 h1=>?_)
  ·refine nx 5 Z (fD [14,15,16,17] h1 Z (λ c4 h1=>?_) λ c4 h1=>?_)
   ·exact nx 5 Z (eX _ (oi h1).symm (gE Z Z))
   exact nx 5 Z (eX _ (oi h1).symm (gE Z Z))
  exact nx 10 Z (eX _ (oi h1).symm (gE Z Z))
 refine nx 7 Z (fD [11,12] h1 Z (λ c5 h1=>?_) λ c5 h1=>?_)
 ·refine nx 5 Z (fD [14,15,16,17] h1 Z (λ c6 h1=>?_) λ c6 h1=>?_)
  ·exact nx 5 Z (eX _ (oi h1).symm (gE Z Z))
  exact nx 5 Z (eX _ (oi h1).symm (gE Z Z))
 exact nx 10 Z (eX _ (oi h1).symm (gE Z Z))
def dv (Ez:Bk):Nat->Int->Option (Unit⊕Bool)|0,_=>none|m+1,i20=>if i20<(Ez.length:Int) then(ck ((0:Int)<=i20/\i20<(Ez.length:Int))<|(jE (byt Ez i20)).bind λ Fw=>if (!Fw)=true then ck ((0:Int)<=i20/\i20<(Ez.length:Int))<|if byt Ez i20<48 then some true else ck ((0:Int)<=i20/\i20<(Ez.length:Int))<|some (decide (57<byt Ez i20))else some false : Option Bool).bind λ KQ=>if KQ=true then some (.inr false)else ck (inR (i20+1))<|dv Ez m (i20+1)else some (.inl ())
def dp (n:Nat)(Ez:Bk):Option Bool :=(if Ez=([]:Bk) then some true else if 64<(Ez.length:Int) then some true else ck ((0:Int)<=0/\0<(Ez.length:Int))<|(jE (byt Ez 0)).bind λ r4=>some (!r4) : Option Bool).bind λ t6=>if t6=true then some false else jn (dv Ez n 0) λ _q34=>some true
theorem g5 (n:Nat)(Ez:Bk)(r:Bool)(h0:dp n Ez=some r):aF Tryz.prog 71 [eS Ez] (·=.p (eB r)):=by
 unfold dp at h0;refine aZ good Tryz.func71 Z Z Z λ w0=>mP (λ v:Bool=>.p (eB v)) ?_;refine nx 6 Z (bd h0 λ Jj h1 h0=>?_);refine kN Jj (λ v37=>⟨[(0,.p (eS Ez)),(16,.p (eB v37))],[]⟩) ?_ ?_
 ·refine nx 1 Z (fB [16] h0 Z (λ c7 h0=>?_) λ c7 h0=>?_)
  ·exact nx 6 Z (mQ (oi h0) Z (sr))
  refine nx 8 rfl ?_;obtain ⟨Jz,h1,E3,hR0⟩:=bR h0;refine kEx 0 (λ I':Unit=>Jz=.inl I') (λ I'=>⟨[],[]⟩) (λ I' hv=>?_) ?_
  ·have h0:=E3 _ hv;exact nx 6 Z (mQ (oi h0) Z (sr))
  refine lG (λ (KI:Int)=>⟨[(0,.p (eS Ez)),(3,.p (eI KI))],[]⟩) (λ m (KI:Int)=>dv Ez m KI) Y 0 h1 (gE rfl rfl) ?_;rintro m i20 h1;replace h1:dv Ez (m+1) i20=some Jz:=h1;rw [dv] at h1;refine nx 5 rfl (oLs rfl ?_);refine nx 2 rfl (fD [20] h1 rfl (λ c21 h1=>?_) λ c21 h1=>?_)
  ·refine nx 5 Z (bd h1 λ JM h2 h1=>?_);refine kN JM (λ MP=>⟨[(0,.p (eS Ez)),(3,.p (eI i20)),(39,.p (eB MP))],[]⟩) ?_ ?_
   ·refine nx 1 Z (fB [39] h1 Z (λ Ic h1=>?_) λ Ic h1=>?_)
    ·exact nx 6 Z (mQ (hR0 _ (oi h1).symm) Z (sr))
    refine nx 4 Z (oA h1 Z Z λ Iq h1=>?_);exact nx 2 Z (eX (i20+1) h1 (gE Z Z))
   refine nx 3 Z (oI h2 Z λ Fl h2=>?_);refine bd h2 λ Fw Jq h2=>oK (oQ (byt Ez i20) _ Jq) Z ⟨sr,trivial⟩ Tryz.call105 Z (nx 2 Z ?_);refine fB [27,28] h2 Z (λ HO h2=>?_) λ HO h2=>?_
   ·refine nx 2 Z (oI h2 Z λ FV h2=>?_);refine nx 2 Z (fD [32,33] h2 Z (λ HW h2=>?_) λ HW h2=>?_)
    ·exact nx 7 Z (eX _ (oi h2).symm (gE Z Z))
    refine nx 2 Z (oI h2 Z λ JY h2=>?_);exact nx 4 Z (eX _ (oi h2).symm (gE Z Z))
   exact nx 12 Z (eX _ (oi h2).symm (gE Z Z))
  exact nx 2 Z (eXi _ (oi h1).symm (gE Z Z))
 refine nx 2 Z (oS Z Z ?_);refine nx 1 Z (fD [5,6] h1 Z (λ c1 h1=>?_) λ c1 h1=>?_)
 ·exact nx 11 Z (eX _ (oi h1).symm (gE Z Z))
 refine nx 1 Z (oLs Z ?_);refine nx 3 Z (fD [9,10,11] h1 Z (λ c2 h1=>?_) λ c2 h1=>?_)
 ·exact nx 6 Z (eX _ (oi h1).symm (gE Z Z))
 refine nx 1 Z (oI h1 Z λ IZ h1=>?_);refine bd h1 λ r4 e5 h1=>oK (oQ (byt Ez 0) _ e5) Z ⟨sr,trivial⟩ Tryz.call105 Z (nx 3 Z ?_);exact eX _ (oi h1).symm (gE Z Z)
def iz (E0:Int):Option Bool :=(if E0=12 then some true else some (decide (E0=13)) : Option Bool).bind λ t2=>some t2
theorem qb (E0:Int)(r:Bool)(h0:iz E0=some r):aF Tryz.prog 180 [eI E0] (·=.p (eB r)):=by
 unfold iz at h0;refine aZ good Tryz.func180 Z Z Z λ w0=>mP (λ v:Bool=>.p (eB v)) ?_;refine nx 5 Z (bd h0 λ o4 h1 h0=>?_);refine kN o4 (λ v5=>⟨[(2,.p (eB v5))],[]⟩) ?_ ?_
 ·exact nx 2 Z (mQ (oi h0) Z (sr))
 refine nx 4 Z (fD [4,5] h1 Z (λ c1 h1=>?_) λ c1 h1=>?_)
 ·exact nx 5 Z (eX _ (oi h1).symm (gE Z Z))
 exact nx 5 Z (eX _ (oi h1).symm (gE Z Z))
def io (E0:Int):Option Bool :=(if E0=3 then some true else if E0=4 then some true else if E0=9 then some true else(iz E0).bind λ r4=>some r4 : Option Bool).bind λ t6=>some t6
theorem mu (E0:Int)(r:Bool)(h0:io E0=some r):aF Tryz.prog 155 [eI E0] (·=.p (eB r)):=by
 unfold io at h0;refine aZ good Tryz.func155 Z Z Z λ w0=>mP (λ v:Bool=>.p (eB v)) ?_;refine nx 5 Z (bd h0 λ o8 h1 h0=>?_);refine kN o8 (λ v9=>⟨[(2,.p (eB v9))],[]⟩) ?_ ?_
 ·exact nx 2 Z (mQ (oi h0) Z (sr))
 refine nx 4 Z (fD [4,5] h1 Z (λ c1 h1=>?_) λ c1 h1=>?_)
 ·exact nx 13 Z (eX _ (oi h1).symm (gE Z Z))
 refine nx 4 Z (fD [7,8,9] h1 Z (λ c2 h1=>?_) λ c2 h1=>?_)
 ·exact nx 9 Z (eX _ (oi h1).symm (gE Z Z))
 refine nx 4 Z (fD [11,12,13] h1 Z (λ c3 h1=>?_) λ c3 h1=>?_)
 ·exact nx 5 Z (eX _ (oi h1).symm (gE Z Z))
 refine nx 1 Z (bd h1 λ r4 e5 h1=>?_);refine oK (qb E0 _ e5) Z ⟨sr,trivial⟩ Tryz.call180 Z (nx 3 Z ?_);exact eX _ (oi h1).symm (gE Z Z)
def iE (E0:Int)(n_1:Int):Option Bool :=(if E0=1 then some true else some (decide (E0=3)) : Option Bool).bind λ t2=>if t2=true then some (decide (n_1=0))else if E0=2 then some (decide (1<=n_1))else(if E0=4 then some true else some (decide (E0=6)) : Option Bool).bind λ t6=>if t6=true then some (decide (n_1=1))else(if E0=5 then some true else some (decide (E0=7)) : Option Bool).bind λ t9=>if t9=true then some (decide (n_1=2))else if E0=8 then some (decide (n_1=3))else(if E0=9 then some true else some (decide (E0=10)) : Option Bool).bind λ M0=>if M0=true then some true else if E0=11 then ck ((2:Int)≠0)<|some (decide (n_1.tmod 2=0))else if E0=12 then(if n_1=2 then some true else some (decide (n_1=3)) : Option Bool).bind λ FA=>some FA else if E0=13 then(if n_1=3 then some true else some (decide (n_1=4)) : Option Bool).bind λ t22=>some t22 else some false
theorem uM (E0:Int)(n_1:Int)(r:Bool)(h0:iE E0 n_1=some r):aF Tryz.prog 179 [eI E0,eI n_1] (·=.p (eB r)):=by
 unfold iE at h0;refine aZ good Tryz.func179 Z Z Z λ w0=>mP (λ v:Bool=>.p (eB v)) ?_;refine nx 11 Z (bd h0 λ Ht h1 h0=>?_);refine kN Ht (λ Gx=>⟨[(1,.p (eI n_1)),(5,.p (eI E0)),(6,.p (eB Gx))],[]⟩) ?_ ?_
 ·refine nx 1 Z (fB [6] h0 Z (λ c3 h0=>?_) λ c3 h0=>?_)
  ·exact nx 8 Z (mQ (oi h0) Z (sr))
  refine nx 6 Z (fD [11,12] h0 Z (λ c4 h0=>?_) λ c4 h0=>?_)
  ·exact nx 8 Z (mQ (oi h0) Z (sr))
  refine nx 2 Z (bd h0 λ Lz h1 h0=>?_);refine kN Lz (λ Mw=>⟨[(1,.p (eI n_1)),(5,.p (eI E0)),(15,.p (eB Mw))],[]⟩) ?_ ?_
  ·refine nx 1 Z (fB [15] h0 Z (λ c7 h0=>?_) λ c7 h0=>?_)
   ·exact nx 8 Z (mQ (oi h0) Z (sr))
   refine nx 2 Z (bd h0 λ Ly h1 h0=>?_);refine kN Ly (λ Mv=>⟨[(1,.p (eI n_1)),(5,.p (eI E0)),(20,.p (eB Mv))],[]⟩) ?_ ?_
   ·refine nx 1 Z (fB [20] h0 Z (λ FP h0=>?_) λ FP h0=>?_)
    ·exact nx 8 Z (mQ (oi h0) Z (sr))
    refine nx 6 Z (fD [25,26] h0 Z (λ GK h0=>?_) λ GK h0=>?_)
    ·exact nx 8 Z (mQ (oi h0) Z (sr))
    refine nx 2 Z (bd h0 λ H' h1 h0=>?_);refine kN H' (λ H2=>⟨[(1,.p (eI n_1)),(5,.p (eI E0)),(29,.p (eB H2))],[]⟩) ?_ ?_
    ·refine nx 1 Z (fB [29] h0 Z (λ HF h0=>?_) λ HF h0=>?_)
     ·exact nx 6 Z (mQ (oi h0) Z (sr))
     refine nx 6 Z (fD [32,33] h0 Z (λ Gw h0=>?_) λ Gw h0=>?_)
     ·refine nx 4 Z (cc' h0 λ GT h0=>?_);refine mO Z (AH Z Z Z Z Z Z GT ?_);exact nx 4 Z (mQ (oi h0) Z (sr))
     refine nx 6 Z (fD [37,38] h0 Z (λ Fc h0=>?_) λ Fc h0=>?_)
     ·refine nx 2 Z (bd h0 λ MC h1 h0=>?_);refine kN MC (λ MR=>⟨[(4,.p (eB MR))],[]⟩) ?_ ?_
      ·exact nx 2 Z (mQ (oi h0) Z (sr))
      refine nx 4 Z (fD [40,41] h1 Z (λ G7 h1=>?_) λ G7 h1=>?_)
      ·exact nx 5 Z (eX _ (oi h1).symm (gE Z Z))
      exact nx 5 Z (eX _ (oi h1).symm (gE Z Z))
     refine nx 6 Z (fD [45,46] h0 Z (λ c20 h0=>?_) λ c20 h0=>?_)
     ·refine nx 2 Z (bd h0 λ I8 h1 h0=>?_);refine kN I8 (λ Kg=>⟨[(4,.p (eB Kg))],[]⟩) ?_ ?_
      ·exact nx 2 Z (mQ (oi h0) Z (sr))
      refine nx 4 Z (fD [48,49] h1 Z (λ c21 h1=>?_) λ c21 h1=>?_)
      ·exact nx 5 Z (eX _ (oi h1).symm (gE Z Z))
      exact nx 5 Z (eX _ (oi h1).symm (gE Z Z))
     exact nx 7 Z (mQ (oi h0) Z (sr))
    refine nx 5 Z (fD [29,30] h1 Z (λ HG h1=>?_) λ HG h1=>?_)
    ·exact nx 2 Z (eX _ (oi h1).symm (gE Z Z))
    exact nx 5 Z (eX _ (oi h1).symm (gE Z Z))
   refine nx 5 Z (fD [20,21] h1 Z (λ c8 h1=>?_) λ c8 h1=>?_)
   ·exact nx 2 Z (eX _ (oi h1).symm (gE Z Z))
   exact nx 5 Z (eX _ (oi h1).symm (gE Z Z))
  refine nx 5 Z (fD [15,16] h1 Z (λ c5 h1=>?_) λ c5 h1=>?_)
  ·exact nx 2 Z (eX _ (oi h1).symm (gE Z Z))
  exact nx 5 Z (eX _ (oi h1).symm (gE Z Z))
 refine nx 5 Z (fD [6,7] h1 Z (λ c1 h1=>?_) λ c1 h1=>?_)
 ·exact nx 2 Z (eX _ (oi h1).symm (gE Z Z))
 exact nx 5 Z (eX _ (oi h1).symm (gE Z Z))
def kg (EJ:ar):Option Bool :=(if EJ.AI=0 then if EJ.Em=0 then if EJ.Ep=([]:Bk) then if (EJ.Ei.length:Int)=0 then some (decide ((EJ.El.length:Int)=0))else some false else some false else some false else some false : Option Bool).bind λ t5=>some t5
theorem uF (EJ:ar)(r:Bool)(h0:kg EJ=some r):aF Tryz.prog 181 [.agg (ar.cs EJ)] (·=.p (eB r)):=by
 unfold kg at h0;refine aZ good Tryz.func181 Z Z Z λ w0=>mP (λ v:Bool=>.p (eB v)) ?_;refine nx 6 Z (bd h0 λ o7 h1 h0=>?_);refine kN o7 (λ v8=>⟨[(2,.p (eB v8))],[]⟩) ?_ ?_
 ·exact nx 2 Z (mQ (oi h0) Z (sr))
 refine nx 5 Z (fD [5,6] h1 Z (λ c1 h1=>?_) λ c1 h1=>?_)
 ·refine nx 5 Z (fD [9,10,11] h1 Z (λ c2 h1=>?_) λ c2 h1=>?_)
  ·refine nx 2 Z (oS Z Z ?_);refine nx 2 Z (fD [14,15,16] h1 Z (λ c3 h1=>?_) λ c3 h1=>?_)
   ·refine nx 2 Z (oLl (f:=bw) Z Z ?_);refine nx 3 Z (fD [20,21,22] h1 Z (λ c4 h1=>?_) λ c4 h1=>?_)
    ·refine nx 2 Z (oLl (f:=eS) Z Z ?_);exact nx 4 Z (eX _ (oi h1).symm (gE Z Z))
    exact nx 7 Z (eX _ (oi h1).symm (gE Z Z))
   exact nx 13 Z (eX _ (oi h1).symm (gE Z Z))
  exact nx 18 Z (eX _ (oi h1).symm (gE Z Z))
 exact nx 23 Z (eX _ (oi h1).symm (gE Z Z))
def fX (EG:ag):Option Bool :=((iE EG.AI (EG.B'.length:Int)).bind λ r1=>if (!r1)=true then some true else(iz EG.AI).bind λ r4=>if (!r4)=true then if EG.Eo=([]:Bk) then(io EG.AI).bind λ r8=>if (!r8)=true then some (!decide (EG.By=([]:Bk)))else some false else some true else(io EG.AI).bind λ Fq=>if (!Fq)=true then some (!decide (EG.By=([]:Bk)))else some false : Option Bool).bind λ HR=>if HR=true then some false else if EG.AI=1 then(if EG.fOp=0 then if EG.C'.AI=0 then some true else if EG.C'.AI=1 then some true else if EG.C'.AI=3 then some true else if EG.C'.AI=2 then some (decide (0<=EG.C'.Em))else some false else some false : Option Bool).bind λ t22=>some t22 else(kg EG.C').bind λ Fw=>if (!Fw)=true then some false else if EG.AI=6 then(if EG.fOp=1 then some true else some (decide (EG.fOp=2)) : Option Bool).bind λ GM=>some GM else if EG.AI=7 then(if 3<=EG.fOp then some (decide (EG.fOp<=15))else some false : Option Bool).bind λ t31=>some t31 else some (decide (EG.fOp=0))
theorem sA (EG:ag)(r:Bool)(h0:fX EG=some r):aF Tryz.prog 153 [.agg (ag.cs EG)] (·=.p (eB r)):=by
 unfold fX at h0;refine aZ good Tryz.func153 Z Z Z λ w0=>mP (λ v:Bool=>.p (eB v)) ?_;refine nx 7 Z (bd h0 λ Jj h1 h0=>?_);refine kN Jj (λ v37=>⟨[(1,.ptr 1 0),(32,.p (eB v37))],[(1,(ag.cs EG).map .p)]⟩) ?_ ?_
 ·refine nx 1 Z (fB [32] h0 Z (λ Gw h0=>?_) λ Gw h0=>?_)
  ·exact nx 6 Z (mQ (oi h0) Z (sr))
  refine nx 9 Z (fD [35] h0 Z (λ Ju h0=>?_) λ Ju h0=>?_)
  ·refine nx 9 Z (bd h0 λ Jz h1 h0=>?_);refine kN Jz (λ I'=>⟨[(2,.p (eB I'))],[]⟩) ?_ ?_
   ·exact nx 2 Z (mQ (oi h0) Z (sr))
   refine nx 5 Z (fD [41,42] h1 Z (λ Fc h1=>?_) λ Fc h1=>?_)
   ·refine nx 3 Z (fD [44,45] h1 Z (λ G7 h1=>?_) λ G7 h1=>?_)
    ·exact nx 20 Z (eX _ (oi h1).symm (gE Z Z))
    refine nx 4 Z (fD [47,48,49] h1 Z (λ HE h1=>?_) λ HE h1=>?_)
    ·exact nx 16 Z (eX _ (oi h1).symm (gE Z Z))
    refine nx 4 Z (fD [51,52,53] h1 Z (λ c20 h1=>?_) λ c20 h1=>?_)
    ·exact nx 12 Z (eX _ (oi h1).symm (gE Z Z))
    refine nx 3 Z (fD [55,56] h1 Z (λ c21 h1=>?_) λ c21 h1=>?_)
    ·exact nx 9 Z (eX _ (oi h1).symm (gE Z Z))
    exact nx 9 Z (eX _ (oi h1).symm (gE Z Z))
   exact nx 23 Z (eX _ (oi h1).symm (gE Z Z))
  refine nx 7 Z (bd h0 λ Fw Jq h0=>?_);refine oK (uF EG.C' _ Jq) Z ⟨sr,trivial⟩ Tryz.call181 Z (nx 2 Z ?_);refine fB [67] h0 Z (λ HO h0=>?_) λ HO h0=>?_
  ·exact nx 6 Z (mQ (oi h0) Z (sr))
  refine nx 14 Z (fD [70,71] h0 Z (λ Is h0=>?_) λ Is h0=>?_)
  ·refine nx 2 Z (bd h0 λ o40 h1 h0=>?_);refine kN o40 (λ MQ=>⟨[(2,.p (eB MQ))],[]⟩) ?_ ?_
   ·exact nx 2 Z (mQ (oi h0) Z (sr))
   refine nx 5 Z (fD [74,75] h1 Z (λ HW h1=>?_) λ HW h1=>?_)
   ·exact nx 6 Z (eX _ (oi h1).symm (gE Z Z))
   exact nx 6 Z (eX _ (oi h1).symm (gE Z Z))
  refine nx 6 Z (fD [80,81] h0 Z (λ Jt h0=>?_) λ Jt h0=>?_)
  ·refine nx 2 Z (bd h0 λ H9 h1 h0=>?_);refine kN H9 (λ HX=>⟨[(2,.p (eB HX))],[]⟩) ?_ ?_
   ·exact nx 2 Z (mQ (oi h0) Z (sr))
   refine nx 5 Z (fD [84,85] h1 Z (λ Ic h1=>?_) λ Ic h1=>?_)
   ·exact nx 6 Z (eX _ (oi h1).symm (gE Z Z))
   exact nx 6 Z (eX _ (oi h1).symm (gE Z Z))
  exact nx 10 Z (mQ (oi h0) Z (sr))
 refine nx 5 Z (oLl (f:=aw) Z Z ?_);refine bd h1 λ r1 e2 h1=>oK (uM EG.AI (EG.B'.length:Int) _ e2) Z ⟨sr,sr,trivial⟩ Tryz.call179 Z (nx 2 Z ?_);refine fB [10,11] h1 Z (λ c3 h1=>?_) λ c3 h1=>?_
 ·exact nx 22 Z (eX _ (oi h1).symm (gE Z Z))
 refine nx 2 Z (bd h1 λ r4 e5 h1=>?_);refine oK (qb EG.AI _ e5) Z ⟨sr,trivial⟩ Tryz.call180 Z (nx 2 Z ?_);refine fB [15,16] h1 Z (λ c6 h1=>?_) λ c6 h1=>?_
 ·refine nx 2 Z (oS Z Z ?_);refine nx 3 Z (fN [19,20,21,22] h1 Z (λ c7 h1=>?_) λ c7 h1=>?_)
  ·refine nx 2 Z (bd h1 λ r8 e9 h1=>?_);refine oK (mu EG.AI _ e9) Z ⟨sr,trivial⟩ Tryz.call155 Z (nx 2 Z ?_);refine fB [26,27] h1 Z (λ FP h1=>?_) λ FP h1=>?_
   ·refine nx 2 Z (oS Z Z ?_);exact nx 3 Z (eX _ (oi h1).symm (gE Z Z))
   exact nx 6 Z (eX _ (oi h1).symm (gE Z Z))
  exact nx 11 Z (eX _ (oi h1).symm (gE Z Z))
 refine nx 8 Z (bd h1 λ Fq Gg h1=>?_);refine oK (mu EG.AI _ Gg) Z ⟨sr,trivial⟩ Tryz.call155 Z (nx 2 Z ?_);refine fB [26,27] h1 Z (λ FS h1=>?_) λ FS h1=>?_
 ·refine nx 2 Z (oS Z Z ?_);exact nx 3 Z (eX _ (oi h1).symm (gE Z Z))
 exact nx 6 Z (eX _ (oi h1).symm (gE Z Z))
def hC (Ez:Bk):Option Bool :=(if Ez=([110,117,108,108]:Bk) then some true else if Ez=([116,114,117,101]:Bk) then some true else if Ez=([102,97,108,115,101]:Bk) then some true else if Ez=([102,111,114]:Bk) then some true else if Ez=([105,110]:Bk) then some true else some (decide (Ez=([105,102]:Bk))) : Option Bool).bind λ t6=>some t6
theorem nc (Ez:Bk)(r:Bool)(h0:hC Ez=some r):aF Tryz.prog 156 [eS Ez] (·=.p (eB r)):=by
 unfold hC at h0;refine aZ good Tryz.func156 Z Z Z λ w0=>mP (λ v:Bool=>.p (eB v)) ?_;refine nx 5 Z (bd h0 λ o8 h1 h0=>?_);refine kN o8 (λ v9=>⟨[(2,.p (eB v9))],[]⟩) ?_ ?_
 ·exact nx 2 Z (mQ (oi h0) Z (sr))
 refine nx 2 Z (oS Z Z ?_);refine nx 1 Z (fD [4,5] h1 Z (λ c1 h1=>?_) λ c1 h1=>?_)
 ·exact nx 21 Z (eX _ (oi h1).symm (gE Z Z))
 refine nx 1 Z (oS Z Z ?_);refine nx 2 Z (fD [7,8,9] h1 Z (λ c2 h1=>?_) λ c2 h1=>?_)
 ·exact nx 17 Z (eX _ (oi h1).symm (gE Z Z))
 refine nx 1 Z (oS Z Z ?_);refine nx 2 Z (fD [11,12,13] h1 Z (λ c3 h1=>?_) λ c3 h1=>?_)
 ·exact nx 13 Z (eX _ (oi h1).symm (gE Z Z))
 refine nx 1 Z (oS Z Z ?_);refine nx 2 Z (fD [15,16,17] h1 Z (λ c4 h1=>?_) λ c4 h1=>?_)
 ·exact nx 9 Z (eX _ (oi h1).symm (gE Z Z))
 refine nx 1 Z (oS Z Z ?_);refine nx 2 Z (fD [19,20,21] h1 Z (λ c5 h1=>?_) λ c5 h1=>?_)
 ·exact nx 5 Z (eX _ (oi h1).symm (gE Z Z))
 refine nx 1 Z (oS Z Z ?_);exact nx 3 Z (eX _ (oi h1).symm (gE Z Z))
def ot (n:Nat)(Ez:Bk):Option Bool :=((dp n Ez).bind λ r1=>if r1=true then(hC Ez).bind λ r4=>some (!r4)else some false : Option Bool).bind λ t6=>some t6
theorem uN (n:Nat)(Ez:Bk)(r:Bool)(h0:ot n Ez=some r):aF Tryz.prog 157 [eS Ez] (·=.p (eB r)):=by
 unfold ot at h0;refine aZ good Tryz.func157 Z Z Z λ w0=>mP (λ v:Bool=>.p (eB v)) ?_;refine nx 5 Z (bd h0 λ o8 h1 h0=>?_);refine kN o8 (λ v9=>⟨[(2,.p (eB v9))],[]⟩) ?_ ?_
 ·exact nx 2 Z (mQ (oi h0) Z (sr))
 refine nx 2 Z (bd h1 λ r1 e2 h1=>?_);refine oK (g5 _ Ez _ e2) Z ⟨sr,trivial⟩ Tryz.call71 Z (nx 1 Z ?_);refine fB [4,5] h1 Z (λ c3 h1=>?_) λ c3 h1=>?_
 ·refine nx 1 Z (bd h1 λ r4 e5 h1=>?_);refine oK (nc Ez _ e5) Z ⟨sr,trivial⟩ Tryz.call156 Z (nx 4 Z ?_);exact eX _ (oi h1).symm (gE Z Z)
 exact nx 6 Z (eX _ (oi h1).symm (gE Z Z))
def mM (n:Nat)(EG:ag):Option Int :=(fX EG).bind λ r1=>if (!r1)=true then some 1 else if EG.AI=1 then(lz n EG.C').bind λ r5=>some r5 else((io EG.AI).bind λ r7=>if r7=true then(dp n EG.By).bind λ Fb=>if (!Fb)=true then some true else if EG.AI=4 then some false else(hC EG.By).bind λ E6=>some E6 else some false : Option Bool).bind λ F5=>if F5=true then some 7 else(if EG.Eo=([]:Bk) then some false else(ot n EG.Eo).bind λ Lq=>some (!Lq) : Option Bool).bind λ t21=>if t21=true then some 7 else some 0
theorem uH (n:Nat)(EG:ag)(r:Int)(h0:mM n EG=some r):aF Tryz.prog 131 [.agg (ag.cs EG)] (·=.p (eI r)):=by
 unfold mM at h0;refine aZ good Tryz.func131 Z Z Z λ w0=>mP (λ v:Int=>.p (eI v)) ?_;refine nx 9 Z (bd h0 λ r1 e2 h0=>?_);refine oK (sA EG _ e2) Z ⟨sr,trivial⟩ Tryz.call153 Z (nx 2 Z ?_);refine fB [5] h0 Z (λ c3 h0=>?_) λ c3 h0=>?_
 ·exact nx 6 Z (mQ (oi h0) Z (sr))
 refine nx 9 Z (fD [8] h0 Z (λ c4 h0=>?_) λ c4 h0=>?_)
 ·refine nx 5 Z (bd h0 λ r5 e6 h0=>?_);refine oK (s9 _ EG.C' _ e6) Z ⟨sr,trivial⟩ Tryz.call154 Z (nx 3 Z ?_);exact mQ (oi h0) Z (sr)
 refine nx 4 Z (bd h0 λ Ip h1 h0=>?_);refine kN Ip (λ Ig=>⟨[(1,.ptr 1 0),(30,.p (eB Ig))],[(1,(ag.cs EG).map .p)]⟩) ?_ ?_
 ·refine nx 1 Z (fB [30] h0 Z (λ Fc h0=>?_) λ Fc h0=>?_)
  ·exact nx 6 Z (mQ (oi h0) Z (sr))
  refine nx 4 Z (bd h0 λ FR h1 h0=>?_);refine kN FR (λ HZ=>⟨[(39,.p (eB HZ))],[]⟩) ?_ ?_
  ·refine nx 1 Z (fB [39] h0 Z (λ J5 h0=>?_) λ J5 h0=>?_)
   ·exact nx 6 Z (mQ (oi h0) Z (sr))
   exact nx 7 Z (mQ (oi h0) Z (sr))
  refine nx 3 Z (oS Z Z ?_);refine nx 1 Z (fN [33,34] h1 Z (λ G7 h1=>?_) λ G7 h1=>?_)
  ·exact nx 6 Z (eX _ (oi h1).symm (gE Z Z))
  refine nx 2 Z (bd h1 λ Lq NJ h1=>?_);refine oK (uN _ EG.Eo _ NJ) Z ⟨sr,trivial⟩ Tryz.call157 Z (nx 3 Z ?_);exact eX _ (oi h1).symm (gE Z Z)
 refine nx 3 Z (bd h1 λ r7 e8 h1=>?_);refine oK (mu EG.AI _ e8) Z ⟨sr,trivial⟩ Tryz.call155 Z (nx 1 Z ?_);refine fB [14,15] h1 Z (λ c9 h1=>?_) λ c9 h1=>?_
 ·refine nx 2 Z (bd h1 λ Fb G6 h1=>?_);refine oK (g5 _ EG.By _ G6) Z ⟨sr,trivial⟩ Tryz.call71 Z (nx 2 Z ?_);refine fB [19,20] h1 Z (λ HG h1=>?_) λ HG h1=>?_
  ·exact nx 11 Z (eX _ (oi h1).symm (gE Z Z))
  refine nx 4 Z (fN [23,24] h1 Z (λ FS h1=>?_) λ FS h1=>?_)
  ·exact nx 7 Z (eX _ (oi h1).symm (gE Z Z))
  refine nx 2 Z (bd h1 λ E6 H0 h1=>?_);refine oK (nc EG.By _ H0) Z ⟨sr,trivial⟩ Tryz.call156 Z (nx 4 Z ?_);exact eX _ (oi h1).symm (gE Z Z)
 exact nx 16 Z (eX _ (oi h1).symm (gE Z Z))
def cW (G':ag->Int->Int->Option (Int×Int))(EG:ag)(EE:Int):Nat->Int->Int->Int->Option (Int×Int)|0,_,_,_=>none|m+1,k17,n18,i19=>(if i19<(EG.B'.length:Int) then some (decide (k17=0))else some false : Option Bool).bind λ t21=>if t21=true then ck ((0:Int)<=i19/\i19<(EG.B'.length:Int))<|ck (inR (EE+1))<|(G' (lat EG.B' i19) (EE+1) n18).bind λ GF=>ck (inR (i19+1))<|cW G' EG EE m GF.1 GF.2 (i19+1)else some (k17,n18)
def ek:Nat->ag->Int->Int->Option (Int×Int)|0,_,_,_=>none|n+1,EG,EE,EU=>if 32<EE then some (4,0)else if 4096<=EU then some (14,0)else(mM n EG).bind λ r3=>ck (inR (EU+1))<|(cW (ek n) EG EE n r3 (EU+1) 0).bind λ LM=>some (LM.1,LM.2)
theorem tV (n:Nat):∀ (EG:ag) (EE:Int) (EU:Int) (r:Int×Int),ek n EG EE EU=some r->aF Tryz.prog 106 [.agg (ag.cs EG),eI EE,eI EU] (·=.tuple [.p (eI r.1),.p (eI r.2)]):=by
 induction n with
 | zero=>intro EG EE EU r h0; cases h0
 | succ n ih=>
 have Hv:=ih;intro EG EE EU r h0;rw [ek] at h0;refine aZ good Tryz.func106 Z Z Z λ w0=>mP (λ v:Int×Int=>.tuple [.p (eI v.1),.p (eI v.2)]) ?_;refine nx 12 Z (fD [12] h0 Z (λ c1 h0=>?_) λ c1 h0=>?_)
 ·exact nx 7 Z (mQ (oi h0) Z (aG ⟨sr,sr,trivial⟩))
 refine nx 8 Z (fD [14] h0 Z (λ c2 h0=>?_) λ c2 h0=>?_)
 ·exact nx 7 Z (mQ (oi h0) Z (aG ⟨sr,sr,trivial⟩))
 refine nx 5 Z (bd h0 λ r3 e4 h0=>?_);refine oK (uH _ EG _ e4) Z ⟨sr,trivial⟩ Tryz.call131 Z (nx 5 Z ?_);refine oA h0 Z Z λ JV h0=>nx 8 Z (bd h0 λ H' h1 h0=>?_);refine kE 0 H' (λ H2=>⟨[(8,.p (eI H2.1)),(9,.p (eI H2.2))],[]⟩) ?_ ?_
 ·exact nx 9 Z (mQ (oi h0) Z (aG ⟨sr,sr,trivial⟩))
 refine lG (λ (GY:Int×Int×Int)=>⟨[(1,.p (eI EE)),(3,.ptr 3 0),(8,.p (eI GY.1)),(9,.p (eI GY.2.1)),(10,.p (eI GY.2.2))],[(3,(ag.cs EG).map .p)]⟩) (λ m (GY:Int×Int×Int)=>cW (ek n) EG EE m GY.1 GY.2.1 GY.2.2) Y (r3,EU+1,0) h1 (gE rfl rfl) ?_;rintro m ⟨k17,n18,i19⟩ h1;replace h1:cW (ek n) EG EE (m+1) k17 n18 i19=some H':=h1;rw [cW] at h1;refine nx 2 rfl (bd h1 λ Jz h2 h1=>?_);refine kN Jz (λ I'=>⟨[(1,.p (eI EE)),(3,.ptr 3 0),(8,.p (eI k17)),(9,.p (eI n18)),(10,.p (eI i19)),(27,.p (eB I'))],[(3,(ag.cs EG).map .p)]⟩) ?_ ?_
 ·refine nx 1 Z (fB [27] h1 Z (λ J5 h1=>?_) λ J5 h1=>?_)
  ·refine nx 8 Z (oE h1 ag.BY Z Z Y λ FK h1=>?_);refine nx 2 Z (oA h1 Z Z λ G3 h1=>?_);refine nx 1 Z (bd h1 λ GF KE h1=>?_);refine oK (Hv (lat EG.B' i19) (EE+1) n18 _ KE) Z ⟨sr,sr,sr,trivial⟩ Tryz.call106 Z (nx 8 Z ?_);exact oA h1 Z Z λ HM h1=>nx 2 Z (eX (GF.1,GF.2,i19+1) h1 (gE Z Z))
  exact nx 2 Z (eXi _ (oi h1).symm (gE Z Z))
 refine nx 4 Z (oLl (f:=aw) Z Z ?_);refine nx 2 Z (fD [23,24] h2 Z (λ c20 h2=>?_) λ c20 h2=>?_)
 ·exact nx 4 Z (eX _ (oi h2).symm (gE Z Z))
 exact nx 4 Z (eX _ (oi h2).symm (gE Z Z))
def lA (n:Nat)(EG:ag):Option Int :=(ek n EG 1 0).bind λ r1=>some r1.1
theorem tU (n:Nat)(EG:ag)(r:Int)(h0:lA n EG=some r):aF Tryz.prog 72 [.agg (ag.cs EG)] (·=.p (eI r)):=by
 unfold lA at h0;refine aZ good Tryz.func72 Z Z Z λ w0=>mP (λ v:Int=>.p (eI v)) ?_;refine nx 8 Z (bd h0 λ r1 e2 h0=>?_);refine oK (tV _ EG 1 0 _ e2) Z ⟨sr,sr,sr,trivial⟩ Tryz.call106 Z (nx 12 Z ?_);exact mQ (oi h0) Z (sr)
def ea (Ha:ag->Option Int)(EG:ag):Nat->Int->Int->Option Int|0,_,_=>none|m+1,n9,i10=>if i10<(EG.B'.length:Int) then ck ((0:Int)<=i10/\i10<(EG.B'.length:Int))<|(Ha (lat EG.B' i10)).bind λ F6=>ck (inR (n9+F6))<|ck (inR (i10+1))<|ea Ha EG m (n9+F6) (i10+1)else some n9
def fF:Nat->ag->Option Int|0,_=>none|n+1,EG=>(ea (fF n) EG n 1 0).bind λ n19=>some n19
theorem tq (n:Nat):∀ (EG:ag) (r:Int),fF n EG=some r->aF Tryz.prog 66 [.agg (ag.cs EG)] (·=.p (eI r)):=by
 induction n with
 | zero=>intro EG r h0; cases h0
 | succ n ih=>
 have Hw:=ih;intro EG r h0;rw [fF] at h0;refine aZ good Tryz.func66 Z Z Z λ w0=>mP (λ v:Int=>.p (eI v)) ?_;refine nx 15 Z (bd h0 λ ME h1 h0=>?_);refine kE 0 ME (λ MU=>⟨[(3,.p (eI MU))],[]⟩) ?_ ?_
 ·exact nx 7 Z (mQ (oi h0) Z (sr))
 refine lG (λ (MA:Int×Int)=>⟨[(1,.ptr 1 0),(3,.p (eI MA.1)),(4,.p (eI MA.2))],[(1,(ag.cs EG).map .p)]⟩) (λ m (MA:Int×Int)=>ea (fF n) EG m MA.1 MA.2) Y (1,0) h1 (gE rfl rfl) ?_;rintro m ⟨n9,i10⟩ h1;replace h1:ea (fF n) EG (m+1) n9 i10=some ME:=h1;rw [ea] at h1;refine nx 6 rfl (oLl (f:=aw) rfl rfl ?_);refine nx 2 rfl (fD [9] h1 rfl (λ GK h1=>?_) λ GK h1=>?_)
 ·refine nx 9 Z (oE h1 ag.BY Z Z Y λ HC h1=>?_);refine nx 1 Z (bd h1 λ F6 J0 h1=>?_);refine oK (Hw (lat EG.B' i10) _ J0) Z ⟨sr,trivial⟩ Tryz.call66 Z (oA h1 Z Z λ Gv h1=>?_);refine nx 4 Z (oA h1 Z Z λ GT h1=>?_);exact nx 2 Z (eX (n9+F6,i10+1) h1 (gE Z Z))
 exact nx 2 Z (eXi _ (oi h1).symm (gE Z Z))
def ey (Ho:ag->Int->Int->Option Int)(EG:ag)(levels_2:Int):Nat->Int->Int->Option Int|0,_,_=>none|m+1,nodes13,i14=>(if i14<(EG.B'.length:Int) then some (decide (0<=nodes13))else some false : Option Bool).bind λ F5=>if F5=true then ck ((0:Int)<=i14/\i14<(EG.B'.length:Int))<|ck (inR (levels_2-1))<|(Ho (lat EG.B' i14) nodes13 (levels_2-1)).bind λ Gr=>ck (inR (i14+1))<|ey Ho EG levels_2 m Gr (i14+1)else some nodes13
def gk:Nat->ag->Int->Int->Option Int|0,_,_,_=>none|n+1,EG,nodes_1,levels_2=>if levels_2<=0 then some (-1)else ck (inR (nodes_1-1))<|(ey (gk n) EG levels_2 n (nodes_1-1) 0).bind λ nodes25=>some nodes25
theorem ux (n:Nat):∀ (EG:ag) (nodes_1:Int) (levels_2:Int) (r:Int),gk n EG nodes_1 levels_2=some r->aF Tryz.prog 101 [.agg (ag.cs EG),eI nodes_1,eI levels_2] (·=.p (eI r)):=by
 induction n with
 | zero=>intro EG nodes_1 levels_2 r h0; cases h0
 | succ n ih=>
 have HK:=ih;intro EG nodes_1 levels_2 r h0;rw [gk] at h0;refine aZ good Tryz.func101 Z Z Z λ w0=>mP (λ v:Int=>.p (eI v)) ?_;refine nx 11 Z (fD [9] h0 Z (λ c1 h0=>?_) λ c1 h0=>?_)
 ·exact nx 6 Z (mQ (oi h0) Z (sr))
 refine nx 5 Z (oA h0 Z Z λ Hm h0=>?_);refine nx 8 Z (bd h0 λ KV h1 h0=>?_);refine kE 0 KV (λ KP=>⟨[(1,.p (eI KP))],[]⟩) ?_ ?_
 ·exact nx 7 Z (mQ (oi h0) Z (sr))
 refine lG (λ (Ks:Int×Int)=>⟨[(1,.p (eI Ks.1)),(2,.p (eI levels_2)),(3,.ptr 3 0),(7,.p (eI Ks.2))],[(3,(ag.cs EG).map .p)]⟩) (λ m (Ks:Int×Int)=>ey (gk n) EG levels_2 m Ks.1 Ks.2) Y (nodes_1-1,0) h1 (gE rfl rfl) ?_;rintro m ⟨nodes13,i14⟩ h1;replace h1:ey (gk n) EG levels_2 (m+1) nodes13 i14=some KV:=h1;rw [ey] at h1;refine nx 2 rfl (bd h1 λ Lz h2 h1=>?_);refine kN Lz (λ Mw=>⟨[(1,.p (eI nodes13)),(2,.p (eI levels_2)),(3,.ptr 3 0),(7,.p (eI i14)),(20,.p (eB Mw))],[(3,(ag.cs EG).map .p)]⟩) ?_ ?_
 ·refine nx 1 Z (fB [20] h1 Z (λ Fc h1=>?_) λ Fc h1=>?_)
  ·refine nx 8 Z (oE h1 ag.BY Z Z Y λ Hg h1=>?_);refine nx 3 Z (oA h1 Z Z λ FD h1=>?_);refine bd h1 λ Gr I5 h1=>oK (HK (lat EG.B' i14) nodes13 (levels_2-1) _ I5) Z ⟨sr,sr,sr,trivial⟩ Tryz.call101 Z (nx 4 Z ?_);exact oA h1 Z Z λ Fl h1=>nx 2 Z (eX (Gr,i14+1) h1 (gE Z Z))
  exact nx 2 Z (eXi _ (oi h1).symm (gE Z Z))
 refine nx 4 Z (oLl (f:=aw) Z Z ?_);refine nx 2 Z (fD [16,17] h2 Z (λ Gw h2=>?_) λ Gw h2=>?_)
 ·exact nx 4 Z (eX _ (oi h2).symm (gE Z Z))
 exact nx 4 Z (eX _ (oi h2).symm (gE Z Z))
def lE (n:Nat)(EG:ag)(nodes_1:Int):Option Bool :=(gk n EG nodes_1 40).bind λ r1=>some (decide (0<=r1))
theorem tI (n:Nat)(EG:ag)(nodes_1:Int)(r:Bool)(h0:lE n EG nodes_1=some r):aF Tryz.prog 65 [.agg (ag.cs EG),eI nodes_1] (·=.p (eB r)):=by
 unfold lE at h0;refine aZ good Tryz.func65 Z Z Z λ w0=>mP (λ v:Bool=>.p (eB v)) ?_;refine nx 9 Z (bd h0 λ r1 e2 h0=>?_);refine oK (ux _ EG nodes_1 40 _ e2) Z ⟨sr,sr,sr,trivial⟩ Tryz.call101 Z (nx 4 Z ?_);exact mQ (oi h0) Z (sr)
abbrev j6:List AV:=[.p (eI 0),.p (eS ([]:Bk)),.p (eI 0)]
abbrev nr:List AV:=[.p (eI 0),.p (eI 0),.p (eS ([]:Bk))]
def cQ (EF:aa):Option (Bool×aa) :=some (decide (EF.fat<(EF.fs.length:Int)),EF)
theorem cj (EF:aa)(r:Bool×aa)(h0:cQ EF=some r):aU Tryz.prog 48 [.ptr 1000000 0] [(1000000,(aa.cs EF).map .p)] (λ x y=>x=.p (eB r.1)/\y=[(1000000,(aa.cs r.2).map .p)]):=by
 unfold cQ at h0;refine bT good [] [1000000] Tryz.func48 Z Z Z Z Z λ w0 F=>mPo (λ v:Bool×aa=>.p (eB v.1)) (λ v=>[(1000000,(aa.cs v.2).map .p)]) ?_;refine nx 5 Z (mD [(0,.ptr 1000000 0)] Z ⟨Z,trivial⟩ Z ?_);refine dR 3 Z (dq (.p (eI EF.fat)) [5] Z (λ _ e _ q=>ab Z (br Z Z Z Z Z (e _ _ Z) Z (aa.g_at _) q)) Z ?_);refine dR 3 Z (dq (.p (eS EF.fs)) [9] Z (λ _ e _ q=>ab Z (br Z Z Z Z Z (e _ _ Z) Z (aa.g_s _) q)) Z ?_);refine dq (.p (eI (EF.fs.length:Int))) [10] Z (λ _ e _ q=>ab Z (re Z Z Z Z Z (e _ _ Z) q)) Z (dR 2 Z ?_);refine dE Z (nx 2 Z ?_);exact mQo (oi h0) (ay _) Z Z Z (aA Z (aD _) Z) (sr) ⟨⟨_,Z,aM _⟩,trivial⟩
def eZ:Nat->aa->Option (aa⊕aa)|0,_=>none|m+1,x20=>(cQ x20).bind λ EY=>if EY.1=true then ck ((0:Int)<=EY.2.fat/\EY.2.fat<(EY.2.fs.length:Int))<|ck ((0:Int)<=byt EY.2.fs EY.2.fat/\byt EY.2.fs EY.2.fat<256)<|jn (if ((lat ki (byt EY.2.fs EY.2.fat)).toNat:Int)=1 then ck (inR (EY.2.fat+1))<|some (.inl (aa.mk EY.2.fs (EY.2.fat+1) EY.2.Eu EY.2.AT))else(if ((lat ki (byt EY.2.fs EY.2.fat)).toNat:Int)=7 then some (decide (EY.2.Eu<0))else some false : Option Bool).bind λ KQ=>if KQ=true then ck ((0:Int)<=EY.2.fat/\EY.2.fat<=(EY.2.fs.length:Int)/\(EY.2.fs.length:Int)<=(EY.2.fs.length:Int))<|(strings_IndexByte (sub EY.2.fs EY.2.fat (EY.2.fs.length:Int)) 10).bind λ Hd=>(if Hd<0 then ck (inR ((EY.2.fs.length:Int)-EY.2.fat))<|some ((EY.2.fs.length:Int)-EY.2.fat)else some Hd : Option Int).bind λ n36=>ck (inR (EY.2.fat+n36))<|some (.inl (aa.mk EY.2.fs (EY.2.fat+n36) EY.2.Eu EY.2.AT))else some (.inr (.inr EY.2)) : Option (aa⊕(aa⊕aa))) λ x38=>eZ m x38 else some (.inl EY.2)
def ix (n:Nat)(EF:aa):Option aa :=jn (eZ n EF) λ x40=>some x40
theorem kW (n:Nat)(EF:aa)(r:aa)(h0:ix n EF=some r):aU Tryz.prog 47 [.ptr 1000000 0] [(1000000,(aa.cs EF).map .p)] (λ x y=>x=.tuple []/\y=[(1000000,(aa.cs r).map .p)]):=by
 unfold ix at h0;refine bT good [] [1000000] Tryz.func47 Z Z Z Z Z λ w0 F=>mPo (λ v:aa=>.tuple []) (λ v=>[(1000000,(aa.cs v).map .p)]) ?_;refine nx 1 rfl ?_;obtain ⟨Kv,h1,E3,hR0⟩:=bR h0;refine kEx 0 (λ v46:aa=>Kv=.inl v46) (λ v46=>⟨[],[(1000000,(aa.cs v46).map .p)]⟩) (λ v46 hv=>?_) ?_
 ·have h0:=E3 _ hv;exact nx 1 Z (xz (oi h0) (ay _) Z Z Z (aA Z (aD _) Z) (sr) ⟨⟨_,Z,aM _⟩,trivial⟩)
 refine lG (λ (Hj:aa)=>⟨[(0,.ptr 1000000 0)],[(1000000,(aa.cs Hj).map .p)]⟩) (λ m (Hj:aa)=>eZ m Hj) Y EF h1 (gE rfl rfl) ?_;rintro m x20 h1;replace h1:eZ (m+1) x20=some Kv:=h1;rw [eZ] at h1;refine nx 4 rfl (bd h1 λ EY Ir h1=>?_);refine mO rfl (aQ [1000000] [] 102000 102000 (cj x20 _ Ir) rfl rfl rfl rfl rfl ⟨sr,trivial⟩ rfl (aA rfl (aD _) rfl) ⟨⟨_,rfl,aM _⟩,trivial⟩ rfl rfl rfl rfl rfl rfl rfl rfl Tryz.call48 rfl (aA rfl (aD _) rfl) ?_);refine nx 1 rfl (fB [5] h1 rfl (λ GX h1=>?_) λ GX h1=>?_)
 ·refine nx 4 rfl (cc' h1 λ G3 h1=>?_);refine cc' h1 λ Gu h1=>mD [(0,.ptr 1000000 0)] rfl ⟨rfl,trivial⟩ rfl (dR 4 rfl ?_);refine dq (.p (eS EY.2.fs)) [9] rfl (λ _ e _ q=>ab rfl (br Z Z Z Z Z (e _ _ rfl) rfl (aa.g_s _) q)) rfl (dR 3 rfl ?_);refine dq (.p (eI EY.2.fat)) [13] rfl (λ _ e _ q=>ab rfl (br Z Z Z Z Z (e _ _ rfl) rfl (aa.g_at _) q)) rfl (dq (.p (eK .u8 (byt EY.2.fs EY.2.fat))) [10,14] rfl (λ _ e _ q=>ab rfl (gA Z Z Z Z Z (e _ _ rfl) (e _ _ rfl) G3 q)) rfl ?_);refine dR 2 rfl (dq (.ptr 1000000 (2+(byt EY.2.fs EY.2.fat).toNat*1)) [15,17] rfl (λ _ e _ q=>ab rfl (gr Z Z Z Z Z Z (e _ _ rfl) (e _ _ rfl) Gu q)) rfl ?_);refine dq (.p (eK .u8 ((lat ki (byt EY.2.fs EY.2.fat)).toNat:Int))) [18] rfl (λ _ e _ q=>ab rfl (br Z Z Z Z Z (e _ _ rfl) rfl (aa.g_class _ Gu) q)) rfl (dR 1 rfl ?_);refine dE rfl (nx 1 rfl ?_);obtain ⟨Lx,h2,hL1,hR1⟩:=bR h1;refine kX (λ JE:aa=>Lx=.inl JE) (λ JE=>⟨[(0,.ptr 1000000 0)],[(1000000,(aa.cs JE).map .p)]⟩) (λ JE hv=>?_) ?_
  ·have h1:=hL1 _ hv;exact nx 1 Z (eX JE h1 (gE Z Z))
  refine nx 7 Z (fD [20,22] h2 Z (λ Is h2=>?_) λ Is h2=>?_)
  ·refine nx 5 Z (mO Z (br Z Z Z Z Z Z Z (aa.g_at _) ?_));refine oA h2 Z Z λ HM h2=>nx 2 Z (mO Z (fg Z Z Z Z Z Z Z Z (aa.b_at _) (aa.u_at _) ?_));exact nx 1 Z (eX _ (oi h2).symm (gE Z Z))
  refine nx 2 Z (bd h2 λ o50 h3 h2=>?_);refine kN o50 (λ v51=>⟨[(0,.ptr 1000000 0),(30,.p (eB v51))],[(1000000,(aa.cs EY.2).map .p)]⟩) ?_ ?_
  ·refine nx 1 Z (fB [30] h2 Z (λ Ic h2=>?_) λ Ic h2=>?_)
   ·refine nx 2 Z (cc' h2 λ Iq h2=>?_);refine bd h2 λ Hd KD h2=>mD [(0,.ptr 1000000 0)] Z ⟨Z,trivial⟩ Z (dR 3 Z ?_);refine dq (.p (eS EY.2.fs)) [42] Z (λ _ e _ q=>ab Z (br Z Z Z Z Z (e _ _ Z) Z (aa.g_s _) q)) Z (dR 3 Z ?_);refine dq (.p (eI EY.2.fat)) [46] Z (λ _ e _ q=>ab Z (br Z Z Z Z Z (e _ _ Z) Z (aa.g_at _) q)) Z (dq (.p (eS (sub EY.2.fs EY.2.fat (EY.2.fs.length:Int)))) [43,47] Z (λ _ e _ q=>ab Z (dZ (a:=EY.2.fs) (l:=EY.2.fat) (h:=(EY.2.fs.length:Int)) Z Z Z Z Z (e _ _ Z) (gR (e _ _ Z)) Z Iq q)) Z ?_);refine dq (.p (eI Hd)) [48] Z (λ _ e _ q=>ab Z (bc (gM (sub EY.2.fs EY.2.fat (EY.2.fs.length:Int)) 10 _ KD) Z Z Z (az (e _ _ Z) (az Z aV)) ⟨sr,sr,trivial⟩ Tryz.call82 Z q)) Z (dR 1 Z ?_);refine dE Z (nx 2 Z ?_);refine bd h2 λ o52 h3 h2=>kN o52 (λ v53=>⟨[(0,.ptr 1000000 0),(3,.p (eI v53))],[(1000000,(aa.cs EY.2).map .p)]⟩) ?_ ?_
    ·refine nx 5 Z (mO Z (br Z Z Z Z Z Z Z (aa.g_at _) ?_));refine nx 1 Z (oA h2 Z Z λ Jo h2=>?_);refine nx 2 Z (mO Z (fg Z Z Z Z Z Z Z Z (aa.b_at _) (aa.u_at _) ?_));exact nx 1 Z (eX _ (oi h2).symm (gE Z Z))
    refine nx 5 Z (fD [51] h3 Z (λ Ms h3=>?_) λ Ms h3=>?_)
    ·refine nx 1 Z (cc' h3 λ IA h3=>?_);refine mD [(0,.ptr 1000000 0)] Z ⟨Z,trivial⟩ Z (dR 3 Z ?_);refine dq (.p (eS EY.2.fs)) [54] Z (λ _ e _ q=>ab Z (br Z Z Z Z Z (e _ _ Z) Z (aa.g_s _) q)) Z (dq (.p (eI (EY.2.fs.length:Int))) [55] Z (λ _ e _ q=>ab Z (re Z Z Z Z Z (e _ _ Z) q)) Z ?_);refine dR 3 Z (dq (.p (eI EY.2.fat)) [59] Z (λ _ e _ q=>ab Z (br Z Z Z Z Z (e _ _ Z) Z (aa.g_at _) q)) Z ?_);refine dq (.p (eI ((EY.2.fs.length:Int)-EY.2.fat))) [56,60] Z (λ _ e _ q=>ab Z (ec Z Z Z (e _ _ Z) (e _ _ Z) Z IA q)) Z (dR 1 Z ?_);refine dE Z (nx 1 Z ?_);exact eX _ (oi h3).symm (gE Z Z)
    exact nx 2 Z (eX _ (oi h3).symm (gE Z Z))
   exact nx 2 Z (mQo (hR0 _ (hR1 _ (oi h2).symm).symm) (ay _) Z Z Z (aA Z (aD _) Z) (sr) ⟨⟨_,Z,aM _⟩,trivial⟩)
  refine nx 4 Z (fD [32,33] h3 Z (λ Lh h3=>?_) λ Lh h3=>?_)
  ·refine nx 3 Z (mO Z (br Z Z Z Z Z Z Z (aa.g_outer _) ?_));exact nx 4 Z (eX _ (oi h3).symm (gE Z Z))
  exact nx 8 Z (eX _ (oi h3).symm (gE Z Z))
 exact nx 2 Z (eXi _ (oi h1).symm (gE Z Z))
def iN (Ez:Bk):Nat->Int->Option (Unit⊕Bk)|0,_=>none|m+1,t8=>if t8<7 then ck ((0:Int)<=t8/\t8<7)<|(strings_HasPrefix Ez (lat ([([61,62]:Bk),([61,61]:Bk),([33,61]:Bk),([60,61]:Bk),([62,61]:Bk),([38,38]:Bk),([124,124]:Bk)]:List Bk) t8)).bind λ Fq=>if Fq=true then some (.inr (lat ([([61,62]:Bk),([61,61]:Bk),([33,61]:Bk),([60,61]:Bk),([62,61]:Bk),([38,38]:Bk),([124,124]:Bk)]:List Bk) t8))else ck (inR (t8+1))<|iN Ez m (t8+1)else some (.inl ())
def l6 (n:Nat)(Ez:Bk):Option Bk :=jn (iN Ez n 0) λ _MA=>(if Ez=([]:Bk) then some true else ck ((0:Int)<=0/\0<(Ez.length:Int))<|(strings_IndexByte ([123,125,91,93,40,41,44,61,60,62,43,45,42,47,37,33,63,58,46]:Bk) (byt Ez 0)).bind λ FU=>some (decide (FU<0)) : Option Bool).bind λ t20=>if t20=true then some ([]:Bk)else ck ((0:Int)<=0/\(0:Int)<=1/\(1:Int)<=(Ez.length:Int))<|some (sub Ez 0 1)
theorem oM (n:Nat)(Ez:Bk)(r:Bk)(h0:l6 n Ez=some r):aF Tryz.prog 83 [eS Ez] (·=.p (eS r)):=by
 unfold l6 at h0;refine aZ good Tryz.func83 Z Z Z λ w0=>mP (λ v:Bk=>.p (eS v)) ?_;refine nx 11 rfl ?_;obtain ⟨Ip,h1,E3,hR0⟩:=bR h0;refine kEx 0 (λ Ig:Unit=>Ip=.inl Ig) (λ Ig=>⟨[(0,.p (eS Ez))],[]⟩) (λ Ig hv=>?_) ?_
 ·have h0:=E3 _ hv;refine nx 3 Z (bd h0 λ FR h1 h0=>?_);refine kN FR (λ HZ=>⟨[(0,.p (eS Ez)),(21,.p (eB HZ))],[]⟩) ?_ ?_
  ·refine nx 1 Z (fB [21] h0 Z (λ c21 h0=>?_) λ c21 h0=>?_)
   ·exact nx 6 Z (mQ (oi h0) Z (sr))
   refine nx 5 Z (oP h0 Z Z Z λ Fl h0=>?_);exact nx 3 Z (mQ (oi h0) Z (sr))
  refine nx 2 Z (oS Z Z ?_);refine nx 1 Z (fD [15,16] h1 Z (λ Ju h1=>?_) λ Ju h1=>?_)
  ·exact nx 6 Z (eX _ (oi h1).symm (gE Z Z))
  refine nx 1 Z (oI h1 Z λ K3 h1=>?_);refine bd h1 λ FU Iw h1=>oK (gM ([123,125,91,93,40,41,44,61,60,62,43,45,42,47,37,33,63,58,46]:Bk) (byt Ez 0) _ Iw) Z ⟨sr,sr,trivial⟩ Tryz.call82 Z (nx 3 Z ?_);exact eX _ (oi h1).symm (gE Z Z)
 refine lG (λ (Kt:Int)=>⟨[(0,.p (eS Ez)),(5,.p (.agg [eS ([61,62]:Bk),eS ([61,61]:Bk),eS ([33,61]:Bk),eS ([60,61]:Bk),eS ([62,61]:Bk),eS ([38,38]:Bk),eS ([124,124]:Bk)])),(6,.p (eI Kt))],[]⟩) (λ m (Kt:Int)=>iN Ez m Kt) Y 0 h1 (gE rfl rfl) ?_;rintro m t8 h1;replace h1:iN Ez (m+1) t8=some Ip:=h1;rw [iN] at h1;refine nx 5 rfl (fD [7] h1 rfl (λ c9 h1=>?_) λ c9 h1=>?_)
 ·refine nx 6 Z (cc' h1 λ Gn h1=>?_);refine mO Z (vD eS ([([61,62]:Bk),([61,61]:Bk),([33,61]:Bk),([60,61]:Bk),([62,61]:Bk),([38,38]:Bk),([124,124]:Bk)]:List Bk) Z Z Z Z Z Z Z Z Z Z Z (by have:=Gn; simp only [List.length_cons,List.length_nil]; omega) ?_);refine nx 6 Z (bd h1 λ Fq Gg h1=>?_);refine oK (ct Ez (lat ([([61,62]:Bk),([61,61]:Bk),([33,61]:Bk),([60,61]:Bk),([62,61]:Bk),([38,38]:Bk),([124,124]:Bk)]:List Bk) t8) _ Gg) Z ⟨sr,sr,trivial⟩ Tryz.call110 Z (nx 1 Z ?_);refine fB [11] h1 Z (λ FS h1=>?_) λ FS h1=>?_
  ·exact nx 7 Z (mQ (hR0 _ (oi h1).symm) Z (sr))
  refine nx 3 Z (oA h1 Z Z λ HU h1=>?_);exact nx 2 Z (eX (t8+1) h1 (gE Z Z))
 exact nx 2 Z (eXi _ (oi h1).symm (gE Z Z))
def fw (n:Nat)(EF:aa):Option (Bool×aa) :=ck ((0:Int)<=EF.fat/\EF.fat<(EF.fs.length:Int))<|ck ((0:Int)<=byt EF.fs EF.fat/\byt EF.fs EF.fat<256)<|(if ((lat ki (byt EF.fs EF.fat)).toNat:Int)=2 then some true else if ((lat ki (byt EF.fs EF.fat)).toNat:Int)=3 then some true else if ((lat ki (byt EF.fs EF.fat)).toNat:Int)=5 then some true else some (decide (((lat ki (byt EF.fs EF.fat)).toNat:Int)=6)) : Option Bool).bind λ t6=>if t6=true then some (true,EF)else ck ((0:Int)<=EF.fat/\EF.fat<=(EF.fs.length:Int)/\(EF.fs.length:Int)<=(EF.fs.length:Int))<|(l6 n (sub EF.fs EF.fat (EF.fs.length:Int))).bind λ r9=>some (!decide (r9=([]:Bk)),EF)
theorem ik (n:Nat)(EF:aa)(r:Bool×aa)(h0:fw n EF=some r):aU Tryz.prog 49 [.ptr 1000000 0] [(1000000,(aa.cs EF).map .p)] (λ x y=>x=.p (eB r.1)/\y=[(1000000,(aa.cs r.2).map .p)]):=by
 unfold fw at h0;refine bT good [] [1000000] Tryz.func49 Z Z Z Z Z λ w0 F=>mPo (λ v:Bool×aa=>.p (eB v.1)) (λ v=>[(1000000,(aa.cs v.2).map .p)]) ?_;refine nx 6 Z (cc' h0 λ I0 h0=>?_);refine cc' h0 λ Hm h0=>mD [(0,.ptr 1000000 0)] Z ⟨Z,trivial⟩ Z (dR 4 Z ?_);refine dq (.p (eS EF.fs)) [6] Z (λ _ e _ q=>ab Z (br Z Z Z Z Z (e _ _ Z) Z (aa.g_s _) q)) Z (dR 3 Z ?_);refine dq (.p (eI EF.fat)) [10] Z (λ _ e _ q=>ab Z (br Z Z Z Z Z (e _ _ Z) Z (aa.g_at _) q)) Z (dq (.p (eK .u8 (byt EF.fs EF.fat))) [7,11] Z (λ _ e _ q=>ab Z (gA Z Z Z Z Z (e _ _ Z) (e _ _ Z) I0 q)) Z ?_);refine dR 2 Z (dq (.ptr 1000000 (2+(byt EF.fs EF.fat).toNat*1)) [12,14] Z (λ _ e _ q=>ab Z (gr Z Z Z Z Z Z (e _ _ Z) (e _ _ Z) Hm q)) Z ?_);refine dq (.p (eK .u8 ((lat ki (byt EF.fs EF.fat)).toNat:Int))) [15] Z (λ _ e _ q=>ab Z (br Z Z Z Z Z (e _ _ Z) Z (aa.g_class _ Hm) q)) Z (dE Z ?_);refine nx 3 Z (bd h0 λ LZ h1 h0=>?_);refine kN LZ (λ JH=>⟨[(0,.ptr 1000000 0),(17,.p (eB JH))],[(1000000,(aa.cs EF).map .p)]⟩) ?_ ?_
 ·refine nx 1 Z (fB [17] h0 Z (λ c7 h0=>?_) λ c7 h0=>?_)
  ·exact nx 6 Z (mQo (oi h0) (ay _) Z Z Z (aA Z (aD _) Z) (sr) ⟨⟨_,Z,aM _⟩,trivial⟩)
  refine nx 3 Z (cc' h0 λ JQ h0=>?_);refine bd h0 λ r9 GW h0=>mD [(0,.ptr 1000000 0)] Z ⟨Z,trivial⟩ Z (dR 3 Z ?_);refine dq (.p (eS EF.fs)) [24] Z (λ _ e _ q=>ab Z (br Z Z Z Z Z (e _ _ Z) Z (aa.g_s _) q)) Z (dR 3 Z ?_);refine dq (.p (eI EF.fat)) [28] Z (λ _ e _ q=>ab Z (br Z Z Z Z Z (e _ _ Z) Z (aa.g_at _) q)) Z (dq (.p (eS (sub EF.fs EF.fat (EF.fs.length:Int)))) [25,29] Z (λ _ e _ q=>ab Z (dZ (a:=EF.fs) (l:=EF.fat) (h:=(EF.fs.length:Int)) Z Z Z Z Z (e _ _ Z) (gR (e _ _ Z)) Z JQ q)) Z ?_);refine dq (.p (eS r9)) [30] Z (λ _ e _ q=>ab Z (bc (oM _ (sub EF.fs EF.fat (EF.fs.length:Int)) _ GW) Z Z Z (az (e _ _ Z) aV) ⟨sr,trivial⟩ Tryz.call83 Z q)) Z (dq (.p (eB (!decide (r9=([]:Bk))))) [31] Z (λ _ e _ q=>ab Z (jv Z Z Z (e _ _ Z) Z Z q)) Z ?_);refine dR 1 Z (dE Z ?_);exact nx 2 Z (mQo (oi h0) (ay _) Z Z Z (aA Z (aD _) Z) (sr) ⟨⟨_,Z,aM _⟩,trivial⟩)
 refine nx 5 Z (fD [17,18] h1 Z (λ c3 h1=>?_) λ c3 h1=>?_)
 ·exact nx 2 Z (eX _ (oi h1).symm (gE Z Z))
 refine nx 6 Z (fD [17,19] h1 Z (λ c4 h1=>?_) λ c4 h1=>?_)
 ·exact nx 2 Z (eX _ (oi h1).symm (gE Z Z))
 refine nx 6 Z (fD [17,20] h1 Z (λ c5 h1=>?_) λ c5 h1=>?_)
 ·exact nx 2 Z (eX _ (oi h1).symm (gE Z Z))
 exact nx 5 Z (eX _ (oi h1).symm (gE Z Z))
def fv (H1:Int)(b_2:Int):Nat->aa->Option aa|0,_=>none|m+1,x14=>((cQ x14).bind λ EV=>if EV.1=true then ck ((0:Int)<=EV.2.fat/\EV.2.fat<(EV.2.fs.length:Int))<|ck ((0:Int)<=byt EV.2.fs EV.2.fat/\byt EV.2.fs EV.2.fat<256)<|if ((lat ki (byt EV.2.fs EV.2.fat)).toNat:Int)=H1 then some (true,EV.2)else ck ((0:Int)<=EV.2.fat/\EV.2.fat<(EV.2.fs.length:Int))<|ck ((0:Int)<=byt EV.2.fs EV.2.fat/\byt EV.2.fs EV.2.fat<256)<|some (decide (((lat ki (byt EV.2.fs EV.2.fat)).toNat:Int)=b_2),EV.2)else some (false,EV.2) : Option (Bool×aa)).bind λ Hk=>if Hk.1=true then ck (inR (Hk.2.fat+1))<|fv H1 b_2 m (aa.mk Hk.2.fs (Hk.2.fat+1) Hk.2.Eu Hk.2.AT)else some Hk.2
def iU (n:Nat)(EF:aa)(H1:Int)(b_2:Int):Option (Bk×aa) :=(fv H1 b_2 n EF).bind λ x28=>ck ((0:Int)<=EF.fat/\EF.fat<=x28.fat/\x28.fat<=(x28.fs.length:Int))<|some (sub x28.fs EF.fat x28.fat,x28)
theorem lK (n:Nat)(EF:aa)(H1:Int)(b_2:Int)(r:Bk×aa)(h0:iU n EF H1 b_2=some r):aU Tryz.prog 84 [.ptr 1000000 0,.p (eK .u8 H1),.p (eK .u8 b_2)] [(1000000,(aa.cs EF).map .p)] (λ x y=>x=.p (eS r.1)/\y=[(1000000,(aa.cs r.2).map .p)]):=by
 unfold iU at h0;refine bT good [] [1000000] Tryz.func84 Z Z Z Z Z λ w0 F=>mPo (λ v:Bk×aa=>.p (eS v.1)) (λ v=>[(1000000,(aa.cs v.2).map .p)]) ?_;refine nx 9 Z (mO Z (br Z Z Z Z Z Z Z (aa.g_at _) ?_));refine nx 4 Z (bd h0 λ Iu h1 h0=>?_);refine kE 0 Iu (λ JF=>⟨[(0,.ptr 1000000 0),(7,.p (eI EF.fat))],[(1000000,(aa.cs JF).map .p)]⟩) ?_ ?_
 ·refine nx 2 Z (cc' h0 λ KC h0=>?_);refine mD [(0,.ptr 1000000 0),(7,.p (eI EF.fat))] Z ⟨Z,Z,trivial⟩ Z (dR 3 Z ?_);refine dq (.p (eS Iu.fs)) [59] Z (λ _ e _ q=>ab Z (br Z Z Z Z Z (e _ _ Z) Z (aa.g_s _) q)) Z (dR 4 Z ?_);refine dq (.p (eI Iu.fat)) [64] Z (λ _ e _ q=>ab Z (br Z Z Z Z Z (e _ _ Z) Z (aa.g_at _) q)) Z (dq (.p (eS (sub Iu.fs EF.fat Iu.fat))) [60,61,65] Z (λ _ e _ q=>ab Z (dZ (a:=Iu.fs) (l:=EF.fat) (h:=Iu.fat) Z Z Z Z Z (e _ _ Z) (gR (e _ _ Z)) (lr (e _ _ Z)) KC q)) Z ?_);refine dR 1 Z (dE Z ?_);exact nx 2 Z (mQo (oi h0) (ay _) Z Z Z (aA Z (aD _) Z) (sr) ⟨⟨_,Z,aM _⟩,trivial⟩)
 refine lG (λ (q34:aa)=>⟨[(0,.ptr 1000000 0),(1,.p (eK .u8 H1)),(2,.p (eK .u8 b_2)),(7,.p (eI EF.fat))],[(1000000,(aa.cs q34).map .p)]⟩) (λ m (q34:aa)=>fv H1 b_2 m q34) Y EF h1 (gE rfl rfl) ?_;rintro m x14 h1;replace h1:fv H1 b_2 (m+1) x14=some Iu:=h1;rw [fv] at h1;refine nx 2 rfl (bd h1 λ H' h2 h1=>?_);refine kN H' (λ H2=>⟨[(0,.ptr 1000000 0),(1,.p (eK .u8 H1)),(2,.p (eK .u8 b_2)),(7,.p (eI EF.fat)),(49,.p (eB H2.1))],[(1000000,(aa.cs H2.2).map .p)]⟩) ?_ ?_
 ·refine nx 1 Z (fB [49] h1 Z (λ HO h1=>?_) λ HO h1=>?_)
  ·refine nx 7 Z (mO Z (br Z Z Z Z Z Z Z (aa.g_at _) ?_));refine oA h1 Z Z λ FV h1=>nx 2 Z (mO Z (fg Z Z Z Z Z Z Z Z (aa.b_at _) (aa.u_at _) ?_));exact nx 1 Z (eX (aa.mk H'.2.fs (H'.2.fat+1) H'.2.Eu H'.2.AT) h1 (gE Z Z))
  exact nx 2 Z (eXi _ (oi h1).symm (gE Z Z))
 refine bd h2 λ EV Jr h2=>fB (p:=EV.1) [] h2 Z (λ Fc h2=>?_) λ Fc h2=>?_
 ·refine cc' h2 λ Hg h2=>cc' h2 λ FD h2=>fD (p:=((lat ki (byt EV.2.fs EV.2.fat)).toNat:Int)=H1) [] h2 Z (λ c20 h2=>?_) λ c20 h2=>?_
  ·refine mG (gE (t:=⟨[(0,.ptr 1000000 0),(1,.p (eK .u8 H1)),(2,.p (eK .u8 b_2)),(7,.p (eI EF.fat))],[(1000000,(aa.cs x14).map .p)]⟩) Z Z) (mSq ⟨1,[1],(by2 (.some (du [] 108000 108000)) .none),(λ _=>[(0,.ptr 1000000 0),(1,.p (eK .u8 H1)),(2,.p (eK .u8 b_2)),(7,.p (eI EF.fat))]),(by2 [(1000000,(aa.cs x14).map .p)] [(1000000,(aa.cs EV.2).map .p)])⟩ Z ?_);refine dPc (.ptr 1000000 0) Z (dh (λ _=>.p (eB EV.1)) [(12,_)] Z ⟨.inr ⟨0,_,Z,Z,Z⟩,trivial⟩ Z Z Y (lt1 (λ h=>absurd h (by decide))) (λ sl Ey K hK=>ab Z (aQ [1000000] [] 108000 108000 (cj x14 _ Jr) Z Z Z (az (Ey _ _ Z) aV) Z ⟨sr,trivial⟩ Z (aA Z (aD _) Z) ⟨⟨_,Z,aM _⟩,trivial⟩ Z Z Z Z Z Z Z Z Tryz.call48 Z (aA Z (aD _) Z) hK)) ?_);refine dPc (.p (eB EV.1)) Z (dPy (λ _=>.ptr 1000000 0) (Fc) Z ?_);refine dPy (λ _=>.ptr 1000000 0) (Fc) Z (dPy (λ _=>.ptr 1000000 0) (Fc) Z ?_);refine dPy (λ _=>.ptr 1000000 0) (Fc) Z (dPy (λ _=>.p (eS EV.2.fs)) (Fc) Z ?_);refine dPy (λ _=>.ptr 1000000 0) (Fc) Z (dPy (λ _=>.ptr 1000000 0) (Fc) Z ?_);refine dPy (λ _=>.ptr 1000000 1) (Fc) Z (dPy (λ _=>.p (eI EV.2.fat)) (Fc) Z ?_);refine ap (λ _=>.p (eK .u8 (byt EV.2.fs EV.2.fat))) Z Z Z (cF Z Y) (lt1 Z) (af [(14,_),(19,_),(23,_)] ⟨.inr ⟨2,_,Z,Z,Z⟩,.inr ⟨7,_,Z,Z,Z⟩,.inr ⟨11,_,Z,Z,Z⟩,trivial⟩ (λ sl Ey K hK=>bh (gA Z Z Z Z Z (Ey _ _ Z) (Ey _ _ Z) Hg hK) Z Z (Ey _ _ Z) (Fc)) (ai Z ao)) (dPy (λ _=>.ptr 1000000 0) (Fc) Z ?_);refine dPy (λ _=>.ptr 1000000 2) (Fc) Z (ap (λ _=>.ptr 1000000 (2+(byt EV.2.fs EV.2.fat).toNat*1)) Z Z Z (cF Z Y) (lt1 Z) (af [(14,_),(24,_),(26,_)] ⟨.inr ⟨2,_,Z,Z,Z⟩,.inr ⟨12,_,Z,Z,Z⟩,.inr ⟨14,_,Z,Z,Z⟩,trivial⟩ (λ sl Ey K hK=>bh (gr Z Z Z Z Z Z (Ey _ _ Z) (Ey _ _ Z) FD hK) Z Z (Ey _ _ Z) (Fc)) (ai Z ao)) ?_);refine ap (λ _=>.p (eK .u8 ((lat ki (byt EV.2.fs EV.2.fat)).toNat:Int))) Z Z Z (cF Z Y) (lt1 Z) (af [(14,_),(27,_)] ⟨.inr ⟨2,_,Z,Z,Z⟩,.inr ⟨15,_,Z,Z,Z⟩,trivial⟩ (λ sl Ey K hK=>bh (br Z Z Z Z Z (Ey _ _ Z) Z (aa.g_class _ FD) hK) Z Z (Ey _ _ Z) (Fc)) (ai Z ao)) (dPy (λ _=>.p (eK .u8 H1)) (Fc) Z ?_);refine dPy (λ _=>.p (eB (decide (((lat ki (byt EV.2.fs EV.2.fat)).toNat:Int)=H1)))) (Fc) Z (dPy (λ _=>.p (eB (decide (((lat ki (byt EV.2.fs EV.2.fat)).toNat:Int)=H1)))) (Fc) Z ?_);refine dPn (dt c20) Z (dPn (dt c20) Z ?_);refine dPn (dt c20) Z (dPn (dt c20) Z ?_);refine dPn (dt c20) Z (dPn (dt c20) Z ?_);refine dPn (dt c20) Z (dPn (dt c20) Z ?_);refine dPn (dt c20) Z (dPn (dt c20) Z ?_);refine dPn (dt c20) Z (dPn (dt c20) Z ?_);refine dPn (dt c20) Z (dPn (dt c20) Z ?_);refine dPn (dt c20) Z (dPn (dt c20) Z ?_);refine ap (λ _=>.p (eB true)) Z Z Z (cF Z Y) (lt1 Z) (af [(14,_),(31,_),(47,_)] ⟨.inr ⟨2,_,Z,Z,Z⟩,.inr ⟨19,_,Z,Z,Z⟩,.inr ⟨35,_,Z,Z,Z⟩,trivial⟩ (λ sl Ey K hK=>bh (lW Z Z Z (Ey _ _ Z) (dt c20) Z hK) Z Z (Ey _ _ Z) (Fc)) (ai Z ao)) (ap (λ _=>.p (eB true)) Z Z Z (cF Z Y) (lt1 Z) (af [(14,_),(48,_)] ⟨.inr ⟨2,_,Z,Z,Z⟩,.inr ⟨36,_,Z,Z,Z⟩,trivial⟩ (λ sl Ey K hK=>ab Z (lW Z Z Z (Ey _ _ Z) (Fc) (Ey _ _ Z) hK)) (ai Z ao)) ?_);refine cC (nx 1 Z ?_);exact eX _ (oi h2).symm (gE Z Z)
  refine cc' h2 λ HB h2=>cc' h2 λ Fl h2=>mG (gE (t:=⟨[(0,.ptr 1000000 0),(1,.p (eK .u8 H1)),(2,.p (eK .u8 b_2)),(7,.p (eI EF.fat))],[(1000000,(aa.cs x14).map .p)]⟩) Z Z) (mSq ⟨1,[1],(by2 (.some (du [] 109000 109000)) .none),(λ _=>[(0,.ptr 1000000 0),(1,.p (eK .u8 H1)),(2,.p (eK .u8 b_2)),(7,.p (eI EF.fat))]),(by2 [(1000000,(aa.cs x14).map .p)] [(1000000,(aa.cs EV.2).map .p)])⟩ Z ?_);refine dPc (.ptr 1000000 0) Z (dh (λ _=>.p (eB EV.1)) [(12,_)] Z ⟨.inr ⟨0,_,Z,Z,Z⟩,trivial⟩ Z Z Y (lt1 (λ h=>absurd h (by decide))) (λ sl Ey K hK=>ab Z (aQ [1000000] [] 109000 109000 (cj x14 _ Jr) Z Z Z (az (Ey _ _ Z) aV) Z ⟨sr,trivial⟩ Z (aA Z (aD _) Z) ⟨⟨_,Z,aM _⟩,trivial⟩ Z Z Z Z Z Z Z Z Tryz.call48 Z (aA Z (aD _) Z) hK)) ?_);refine dPc (.p (eB EV.1)) Z (dPy (λ _=>.ptr 1000000 0) (Fc) Z ?_);refine dPy (λ _=>.ptr 1000000 0) (Fc) Z (dPy (λ _=>.ptr 1000000 0) (Fc) Z ?_);refine dPy (λ _=>.ptr 1000000 0) (Fc) Z (dPy (λ _=>.p (eS EV.2.fs)) (Fc) Z ?_);refine dPy (λ _=>.ptr 1000000 0) (Fc) Z (dPy (λ _=>.ptr 1000000 0) (Fc) Z ?_);refine dPy (λ _=>.ptr 1000000 1) (Fc) Z (dPy (λ _=>.p (eI EV.2.fat)) (Fc) Z ?_);refine ap (λ _=>.p (eK .u8 (byt EV.2.fs EV.2.fat))) Z Z Z (cF Z Y) (lt1 Z) (af [(14,_),(19,_),(23,_)] ⟨.inr ⟨2,_,Z,Z,Z⟩,.inr ⟨7,_,Z,Z,Z⟩,.inr ⟨11,_,Z,Z,Z⟩,trivial⟩ (λ sl Ey K hK=>bh (gA Z Z Z Z Z (Ey _ _ Z) (Ey _ _ Z) Hg hK) Z Z (Ey _ _ Z) (Fc)) (ai Z ao)) (dPy (λ _=>.ptr 1000000 0) (Fc) Z ?_);refine dPy (λ _=>.ptr 1000000 2) (Fc) Z (ap (λ _=>.ptr 1000000 (2+(byt EV.2.fs EV.2.fat).toNat*1)) Z Z Z (cF Z Y) (lt1 Z) (af [(14,_),(24,_),(26,_)] ⟨.inr ⟨2,_,Z,Z,Z⟩,.inr ⟨12,_,Z,Z,Z⟩,.inr ⟨14,_,Z,Z,Z⟩,trivial⟩ (λ sl Ey K hK=>bh (gr Z Z Z Z Z Z (Ey _ _ Z) (Ey _ _ Z) FD hK) Z Z (Ey _ _ Z) (Fc)) (ai Z ao)) ?_);refine ap (λ _=>.p (eK .u8 ((lat ki (byt EV.2.fs EV.2.fat)).toNat:Int))) Z Z Z (cF Z Y) (lt1 Z) (af [(14,_),(27,_)] ⟨.inr ⟨2,_,Z,Z,Z⟩,.inr ⟨15,_,Z,Z,Z⟩,trivial⟩ (λ sl Ey K hK=>bh (br Z Z Z Z Z (Ey _ _ Z) Z (aa.g_class _ FD) hK) Z Z (Ey _ _ Z) (Fc)) (ai Z ao)) (dPy (λ _=>.p (eK .u8 H1)) (Fc) Z ?_);refine dPy (λ _=>.p (eB (decide (((lat ki (byt EV.2.fs EV.2.fat)).toNat:Int)=H1)))) (Fc) Z (dPy (λ _=>.p (eB (decide (((lat ki (byt EV.2.fs EV.2.fat)).toNat:Int)=H1)))) (Fc) Z ?_);refine dPy (λ _=>.ptr 1000000 0) (df c20) Z (dPy (λ _=>.ptr 1000000 0) (df c20) Z ?_);refine dPy (λ _=>.ptr 1000000 0) (df c20) Z (dPy (λ _=>.ptr 1000000 0) (df c20) Z ?_);refine dPy (λ _=>.p (eS EV.2.fs)) (df c20) Z (dPy (λ _=>.ptr 1000000 0) (df c20) Z ?_);refine dPy (λ _=>.ptr 1000000 0) (df c20) Z (dPy (λ _=>.ptr 1000000 1) (df c20) Z ?_);refine dPy (λ _=>.p (eI EV.2.fat)) (df c20) Z (ap (λ _=>.p (eK .u8 (byt EV.2.fs EV.2.fat))) Z Z Z (cF Z Y) (lt1 Z) (af [(31,_),(36,_),(40,_)] ⟨.inr ⟨19,_,Z,Z,Z⟩,.inr ⟨24,_,Z,Z,Z⟩,.inr ⟨28,_,Z,Z,Z⟩,trivial⟩ (λ sl Ey K hK=>bh (gA Z Z Z Z Z (Ey _ _ Z) (Ey _ _ Z) HB hK) Z Z (Ey _ _ Z) (df c20)) (ai Z ao)) ?_);refine dPy (λ _=>.ptr 1000000 0) (df c20) Z (dPy (λ _=>.ptr 1000000 2) (df c20) Z ?_);refine ap (λ _=>.ptr 1000000 (2+(byt EV.2.fs EV.2.fat).toNat*1)) Z Z Z (cF Z Y) (lt1 Z) (af [(31,_),(41,_),(43,_)] ⟨.inr ⟨19,_,Z,Z,Z⟩,.inr ⟨29,_,Z,Z,Z⟩,.inr ⟨31,_,Z,Z,Z⟩,trivial⟩ (λ sl Ey K hK=>bh (gr Z Z Z Z Z Z (Ey _ _ Z) (Ey _ _ Z) Fl hK) Z Z (Ey _ _ Z) (df c20)) (ai Z ao)) (ap (λ _=>.p (eK .u8 ((lat ki (byt EV.2.fs EV.2.fat)).toNat:Int))) Z Z Z (cF Z Y) (lt1 Z) (af [(31,_),(44,_)] ⟨.inr ⟨19,_,Z,Z,Z⟩,.inr ⟨32,_,Z,Z,Z⟩,trivial⟩ (λ sl Ey K hK=>bh (br Z Z Z Z Z (Ey _ _ Z) Z (aa.g_class _ Fl) hK) Z Z (Ey _ _ Z) (df c20)) (ai Z ao)) ?_);refine dPy (λ _=>.p (eK .u8 b_2)) (df c20) Z (dPy (λ _=>.p (eB (decide (((lat ki (byt EV.2.fs EV.2.fat)).toNat:Int)=b_2)))) (df c20) Z ?_);refine ap (λ _=>.p (eB (decide (((lat ki (byt EV.2.fs EV.2.fat)).toNat:Int)=b_2)))) Z Z Z (cF Z Y) (lt1 Z) (af [(14,_),(31,_),(47,_)] ⟨.inr ⟨2,_,Z,Z,Z⟩,.inr ⟨19,_,Z,Z,Z⟩,.inr ⟨35,_,Z,Z,Z⟩,trivial⟩ (λ sl Ey K hK=>bh (nE Z Z Z (Ey _ _ Z) (df c20) (Ey _ _ Z) hK) Z Z (Ey _ _ Z) (Fc)) (ai Z ao)) (ap (λ _=>.p (eB (decide (((lat ki (byt EV.2.fs EV.2.fat)).toNat:Int)=b_2)))) Z Z Z (cF Z Y) (lt1 Z) (af [(14,_),(48,_)] ⟨.inr ⟨2,_,Z,Z,Z⟩,.inr ⟨36,_,Z,Z,Z⟩,trivial⟩ (λ sl Ey K hK=>ab Z (lW Z Z Z (Ey _ _ Z) (Fc) (Ey _ _ Z) hK)) (ai Z ao)) ?_);refine cC (nx 1 Z ?_);exact eX _ (oi h2).symm (gE Z Z)
 refine mG (gE (t:=⟨[(0,.ptr 1000000 0),(1,.p (eK .u8 H1)),(2,.p (eK .u8 b_2)),(7,.p (eI EF.fat))],[(1000000,(aa.cs x14).map .p)]⟩) Z Z) (mSq ⟨1,[1],(by2 (.some (du [] 110000 110000)) .none),(λ _=>[(0,.ptr 1000000 0),(1,.p (eK .u8 H1)),(2,.p (eK .u8 b_2)),(7,.p (eI EF.fat))]),(by2 [(1000000,(aa.cs x14).map .p)] [(1000000,(aa.cs EV.2).map .p)])⟩ Z ?_);refine dPc (.ptr 1000000 0) Z (dh (λ _=>.p (eB EV.1)) [(12,_)] Z ⟨.inr ⟨0,_,Z,Z,Z⟩,trivial⟩ Z Z Y (lt1 (λ h=>absurd h (by decide))) (λ sl Ey K hK=>ab Z (aQ [1000000] [] 110000 110000 (cj x14 _ Jr) Z Z Z (az (Ey _ _ Z) aV) Z ⟨sr,trivial⟩ Z (aA Z (aD _) Z) ⟨⟨_,Z,aM _⟩,trivial⟩ Z Z Z Z Z Z Z Z Tryz.call48 Z (aA Z (aD _) Z) hK)) ?_);refine dPc (.p (eB EV.1)) Z (dPn (Fc) Z ?_);refine dPn (Fc) Z (dPn (Fc) Z ?_);refine dPn (Fc) Z (dPn (Fc) Z ?_);refine dPn (Fc) Z (dPn (Fc) Z ?_);refine dPn (Fc) Z (dPn (Fc) Z ?_);refine dPn (Fc) Z (dPn (Fc) Z ?_);refine dPn (Fc) Z (dPn (Fc) Z ?_);refine dPn (Fc) Z (dPn (Fc) Z ?_);refine dPn (Fc) Z (dPn (Fc) Z ?_);refine dPx Z (dPx Z ?_);refine dPx Z (dPx Z ?_);refine dPx Z (dPx Z ?_);refine dPx Z (dPx Z ?_);refine dPx Z (dPx Z ?_);refine dPx Z (dPx Z ?_);refine dPx Z (dPx Z ?_);refine dPx Z (dPx Z ?_);refine dPn (Fc) Z (ap (λ _=>.p (eB false)) Z Z Z (cF Z Y) (lt1 Z) (af [(14,_),(48,_)] ⟨.inr ⟨2,_,Z,Z,Z⟩,.inr ⟨36,_,Z,Z,Z⟩,trivial⟩ (λ sl Ey K hK=>ab Z (nE Z Z Z (Ey _ _ Z) (Fc) Z hK)) (ai Z ao)) ?_);refine cC (nx 1 Z ?_);exact eX _ (oi h2).symm (gE Z Z)
def dK (EF:aa)(k_1:Int)(at_2:Int):Option (Bool×aa) :=some (false,(aa.mk EF.fs EF.fat EF.Eu (aE.mk k_1 at_2 ([]:Bk))))
theorem d4 (EF:aa)(k_1:Int)(at_2:Int)(r:Bool×aa)(h0:dK EF k_1 at_2=some r):aU Tryz.prog 85 [.ptr 1000000 0,.p (eI k_1),.p (eI at_2)] [(1000000,(aa.cs EF).map .p)] (λ x y=>x=.p (eB r.1)/\y=[(1000000,(aa.cs r.2).map .p)]):=by
 unfold dK at h0;refine bT good [] [1000000] Tryz.func85 Z Z Z Z Z λ w0 F=>mPo (λ v:Bool×aa=>.p (eB v.1)) (λ v=>[(1000000,(aa.cs v.2).map .p)]) ?_;refine nx 12 Z (mO Z (fg Z Z Z Z Z Z Z Z (aa.b_bad _) (aa.u_bad _) ?_));exact nx 6 Z (mQo (oi h0) (ay _) Z Z Z (aA Z (aD _) Z) (sr) ⟨⟨_,Z,aM _⟩,trivial⟩)
def ig (EF:aa):Option (Bool×aa) :=ck ((0:Int)<=EF.fat/\EF.fat<=(EF.fs.length:Int)/\(EF.fs.length:Int)<=(EF.fs.length:Int))<|(dG (sub EF.fs EF.fat (EF.fs.length:Int))).bind λ r2=>(if r2.1=65533 then if r2.2=1 then some true else if r2.1<32 then some true else some (decide (r2.1=127))else if r2.1<32 then some true else some (decide (r2.1=127)) : Option Bool).bind λ t8=>if t8=true then some (false,EF)else ck (inR (EF.fat+r2.2))<|some (true,(aa.mk EF.fs (EF.fat+r2.2) EF.Eu EF.AT))
theorem mJ (EF:aa)(r:Bool×aa)(h0:ig EF=some r):aU Tryz.prog 113 [.ptr 1000000 0] [(1000000,(aa.cs EF).map .p)] (λ x y=>x=.p (eB r.1)/\y=[(1000000,(aa.cs r.2).map .p)]):=by
 unfold ig at h0;refine bT good [] [1000000] Tryz.func113 Z Z Z Z Z λ w0 F=>mPo (λ v:Bool×aa=>.p (eB v.1)) (λ v=>[(1000000,(aa.cs v.2).map .p)]) ?_;refine nx 5 Z (cc' h0 λ I0 h0=>?_);refine bd h0 λ r2 e3 h0=>mD [(0,.ptr 1000000 0)] Z ⟨Z,trivial⟩ Z (dR 3 Z ?_);refine dq (.p (eS EF.fs)) [8] Z (λ _ e _ q=>ab Z (br Z Z Z Z Z (e _ _ Z) Z (aa.g_s _) q)) Z (dR 3 Z ?_);refine dq (.p (eI EF.fat)) [12] Z (λ _ e _ q=>ab Z (br Z Z Z Z Z (e _ _ Z) Z (aa.g_at _) q)) Z (dq (.p (eS (sub EF.fs EF.fat (EF.fs.length:Int)))) [9,13] Z (λ _ e _ q=>ab Z (dZ (a:=EF.fs) (l:=EF.fat) (h:=(EF.fs.length:Int)) Z Z Z Z Z (e _ _ Z) (gR (e _ _ Z)) Z I0 q)) Z ?_);refine dq (.tuple [.p (eK .i32 r2.1),.p (eI r2.2)]) [14] Z (λ _ e _ q=>ab Z (bc (eh (sub EF.fs EF.fat (EF.fs.length:Int)) _ e3) Z Z Z (az (e _ _ Z) aV) ⟨sr,trivial⟩ Tryz.call135 Z q)) Z (dR 5 Z ?_);refine dE Z (nx 3 Z ?_);refine bd h0 λ LZ h1 h0=>kN LZ (λ JH=>⟨[(0,.ptr 1000000 0),(4,.p (eI r2.2)),(31,.p (eB JH))],[(1000000,(aa.cs EF).map .p)]⟩) ?_ ?_
 ·refine nx 1 Z (fB [31] h0 Z (λ c9 h0=>?_) λ c9 h0=>?_)
  ·exact nx 6 Z (mQo (oi h0) (ay _) Z Z Z (aA Z (aD _) Z) (sr) ⟨⟨_,Z,aM _⟩,trivial⟩)
  refine nx 7 Z (mO Z (br Z Z Z Z Z Z Z (aa.g_at _) ?_));refine nx 1 Z (oA h0 Z Z λ Gn h0=>?_);refine nx 2 Z (mO Z (fg Z Z Z Z Z Z Z Z (aa.b_at _) (aa.u_at _) ?_));exact nx 6 Z (mQo (oi h0) (ay _) Z Z Z (aA Z (aD _) Z) (sr) ⟨⟨_,Z,aM _⟩,trivial⟩)
 refine nx 4 Z (fD [19,20] h1 Z (λ c4 h1=>?_) λ c4 h1=>?_)
 ·refine nx 4 Z (fD [22,23,24] h1 Z (λ c5 h1=>?_) λ c5 h1=>?_)
  ·exact nx 8 Z (eX _ (oi h1).symm (gE Z Z))
  refine nx 4 Z (fD [26,27,28] h1 Z (λ c6 h1=>?_) λ c6 h1=>?_)
  ·exact nx 4 Z (eX _ (oi h1).symm (gE Z Z))
  exact nx 4 Z (eX _ (oi h1).symm (gE Z Z))
 refine nx 8 Z (fD [26,27,28] h1 Z (λ c7 h1=>?_) λ c7 h1=>?_)
 ·exact nx 4 Z (eX _ (oi h1).symm (gE Z Z))
 exact nx 4 Z (eX _ (oi h1).symm (gE Z Z))
def dV (Ff:aa->Int->Option (Bool×aa))(EA:Int):Nat->aa->Option (aa⊕(Bool×aa))|0,_=>none|m+1,x33=>(cQ x33).bind λ E'=>if E'.1=true then ck ((0:Int)<=E'.2.fat/\E'.2.fat<=(E'.2.fs.length:Int)/\(E'.2.fs.length:Int)<=(E'.2.fs.length:Int))<|jn (ck ((0:Int)<=0/\0<((sub E'.2.fs E'.2.fat (E'.2.fs.length:Int)).length:Int))<|if byt (sub E'.2.fs E'.2.fat (E'.2.fs.length:Int)) 0=34 then ck (inR (E'.2.fat+1))<|some (.inr (.inr (true,(aa.mk E'.2.fs (E'.2.fat+1) E'.2.Eu E'.2.AT))))else(strings_HasPrefix (sub E'.2.fs E'.2.fat (E'.2.fs.length:Int)) ([36,36,123]:Bk)).bind λ Lp=>if Lp=true then ck (inR (E'.2.fat+3))<|some (.inl (aa.mk E'.2.fs (E'.2.fat+3) E'.2.Eu E'.2.AT))else(strings_HasPrefix (sub E'.2.fs E'.2.fat (E'.2.fs.length:Int)) ([36,123]:Bk)).bind λ HH=>if HH=true then(Ff E'.2 EA).bind λ I6=>if (!I6.1)=true then some (.inr (.inr (false,I6.2)))else some (.inl I6.2)else(ck ((0:Int)<=0/\0<((sub E'.2.fs E'.2.fat (E'.2.fs.length:Int)).length:Int))<|if byt (sub E'.2.fs E'.2.fat (E'.2.fs.length:Int)) 0=92 then ck (inR (E'.2.fat+1))<|some (aa.mk E'.2.fs (E'.2.fat+1) E'.2.Eu E'.2.AT)else some E'.2 : Option aa).bind λ x54=>(cQ x54).bind λ H4=>if (!H4.1)=true then some (.inl H4.2)else(ig H4.2).bind λ GE=>if (!GE.1)=true then(dK GE.2 2 GE.2.fat).bind λ GD=>some (.inr (.inr (GD.1,GD.2)))else some (.inl GE.2) : Option (aa⊕(aa⊕(Bool×aa)))) λ x63=>dV Ff EA m x63 else some (.inl E'.2)
def cV (n:Nat)(FI:aa->Int->Option (au×Bool×aa))(EA:Int):Nat->Int->aa->Option (aa⊕(Bool×aa))|0,_,_=>none|m+1,open35,x36=>if 0<open35 then jn ((ix n x36).bind λ HS=>(cQ HS).bind λ Gi=>if (!Gi.1)=true then(dK Gi.2 40 Gi.2.Eu).bind λ Kk=>some (.inr (.inr (Kk.1,Kk.2)))else(fw n Gi.2).bind λ HH=>if (!HH.1)=true then(dK HH.2 2 HH.2.fat).bind λ I6=>some (.inr (.inr (I6.1,I6.2)))else ck (inR (EA+1))<|(FI HH.2 (EA+1)).bind λ F1=>if (!F1.2.1)=true then some (.inr (.inr (false,F1.2.2)))else((if F1.1.AI=4 then some (decide (F1.1.Eh=([123]:Bk)))else some false : Option Bool).bind λ t55=>if t55=true then ck (inR (open35+1))<|some (open35+1)else some open35 : Option Int).bind λ open58=>(if F1.1.AI=4 then some (decide (F1.1.Eh=([125]:Bk)))else some false : Option Bool).bind λ t60=>if t60=true then ck (inR (open58-1))<|some (.inl (open58-1,F1.2.2))else some (.inl (open58,F1.2.2)) : Option ((Int×aa)⊕(aa⊕(Bool×aa)))) λ LL=>cV n FI EA m LL.1 LL.2 else some (.inl x36)
mutual
def dw:Nat->aa->Int->Option (au×Bool×aa)|0,_,_=>none|n+1,EF,EA=>ck ((0:Int)<=EF.fat/\EF.fat<(EF.fs.length:Int))<|ck ((0:Int)<=byt EF.fs EF.fat/\byt EF.fs EF.fat<256)<|jn (if ((lat ki (byt EF.fs EF.fat)).toNat:Int)=2 then(iU n EF 2 3).bind λ r4=>if 64<(r4.1.length:Int) then(dK r4.2 7 EF.fat).bind λ r7=>some (.inr ((au.mk 1 r4.1 EF.fat),r7.1,r7.2))else some (.inl (1,r4.1,r4.2))else if ((lat ki (byt EF.fs EF.fat)).toNat:Int)=3 then(iU n EF 3 3).bind λ Fb=>some (.inl (2,Fb.1,Fb.2))else if ((lat ki (byt EF.fs EF.fat)).toNat:Int)=6 then ck (inR (EF.fat+1))<|some (.inl (5,([10]:Bk),(aa.mk EF.fs (EF.fat+1) EF.Eu EF.AT)))else if ((lat ki (byt EF.fs EF.fat)).toNat:Int)=5 then((jk n) EF EA).bind λ EV=>if (!EV.1)=true then some (.inr ((au.mk 3 ([]:Bk) EF.fat),false,EV.2))else ck (inR (EF.fat+1))<|ck (inR (EV.2.fat-1))<|ck ((0:Int)<=EF.fat+1/\EF.fat+1<=EV.2.fat-1/\EV.2.fat-1<=(EV.2.fs.length:Int))<|some (.inl (3,sub EV.2.fs (EF.fat+1) (EV.2.fat-1),EV.2))else ck ((0:Int)<=EF.fat/\EF.fat<=(EF.fs.length:Int)/\(EF.fs.length:Int)<=(EF.fs.length:Int))<|(l6 n (sub EF.fs EF.fat (EF.fs.length:Int))).bind λ Hr=>ck (inR (EF.fat+(Hr.length:Int)))<|some (.inl (4,Hr,(aa.mk EF.fs (EF.fat+(Hr.length:Int)) EF.Eu EF.AT))) : Option ((Int×Bk×aa)⊕(au×Bool×aa))) λ JK=>some ((au.mk JK.1 JK.2.1 EF.fat),true,JK.2.2)
def fY:Nat->aa->Int->Option (Bool×aa)|0,_,_=>none|n+1,EF,EA=>ck (inR (EF.fat+1))<|jn (dV (dB n) EA n (aa.mk EF.fs (EF.fat+1) EF.Eu EF.AT)) λ x65=>(dK x65 40 x65.Eu).bind λ Ik=>some (Ik.1,Ik.2)
def jk:Nat->aa->Int->Option (Bool×aa)|0,_,_=>none|n+1,EF,EA=>if EF.Eu<0 then((fY n) (aa.mk EF.fs EF.fat EF.fat EF.AT) EA).bind λ r1=>some (r1.1,aa.mk r1.2.fs r1.2.fat (-1) r1.2.AT)else (fY n) EF EA
def dB:Nat->aa->Int->Option (Bool×aa)|0,_,_=>none|n+1,EF,EA=>if 32<=EA then(dK EF 4 EF.fat).bind λ r2=>some (r2.1,r2.2)else ck (inR (EF.fat+2))<|jn (cV n (dw n) EA n 1 (aa.mk EF.fs (EF.fat+2) EF.Eu EF.AT)) λ x67=>some (true,x67)
end
theorem oa (n:Nat):(∀ (EF:aa) (EA:Int) (r:au×Bool×aa),dw n EF EA=some r->aU Tryz.prog 50 [.ptr 1000000 0,.p (eI EA)] [(1000000,(aa.cs EF).map .p)] (λ x y=>x=.tuple [.p (.agg (au.cs r.1)),.p (eB r.2.1)]/\y=[(1000000,(aa.cs r.2.2).map .p)]))/\(∀ (EF:aa) (EA:Int) (r:Bool×aa),fY n EF EA=some r->AE Tryz.prog Tryz.f86 (Ea Tryz.f86.body) [(1,.p (eI EA)),(2,.ptr 1000001 0)] [(1000000,(aa.cs EF).map .p),(1000001,[.ptr 1000000 0])] (λ x y=>x.sub (.p (eB r.1))/\leO y [(1000000,(aa.cs r.2).map .p),(1000001,[.ptr 1000000 0])]))/\(∀ (EF:aa) (EA:Int) (r:Bool×aa),jk n EF EA=some r->aU Tryz.prog 86 [.ptr 1000000 0,.p (eI EA)] [(1000000,(aa.cs EF).map .p)] (λ x y=>x=.p (eB r.1)/\y=[(1000000,(aa.cs r.2).map .p)]))/\(∀ (EF:aa) (EA:Int) (r:Bool×aa),dB n EF EA=some r->aU Tryz.prog 112 [.ptr 1000000 0,.p (eI EA)] [(1000000,(aa.cs EF).map .p)] (λ x y=>x=.p (eB r.1)/\y=[(1000000,(aa.cs r.2).map .p)])):=by
 induction n with
 | zero=>exact ⟨(by intro EF EA r h0; cases h0),(by intro EF EA r h0; cases h0),(by intro EF EA r h0; cases h0),(by intro EF EA r h0; cases h0)⟩
 | succ n ih=>
 obtain ⟨F8,Fi,F2,FB⟩:=ih;refine ⟨?_,?_,?_,?_⟩
 ·skip
  intro EF EA r h0;rw [dw] at h0;refine bT good [] [1000000] Tryz.func50 Z Z Z Z Z λ w0 F=>mPo (λ v:au×Bool×aa=>.tuple [.p (.agg (au.cs v.1)),.p (eB v.2.1)]) (λ v=>[(1000000,(aa.cs v.2.2).map .p)]) ?_;refine nx 2 rfl (mO rfl (fW Z Z Z Z Z ?_));refine mG (mb (show ly _ _=_ from (by repeat (first|exact ko _|apply jq rfl|apply dW rfl (mC _ _)|apply dW Z Z)))) (nx 7 rfl ?_);refine mO rfl (br Z Z Z Z Z Z Z (aa.g_at _) ?_);refine nx 1 rfl (mO rfl (fW Z Z Z Z Z ?_));refine mG (mb (show ly _ _=_ from (by repeat (first|exact ko _|apply jq rfl|apply dW rfl (mC _ _)|apply dW Z Z)))) (nx 4 rfl ?_);refine cc' h0 λ I0 h0=>cc' h0 λ Hm h0=>mD [(0,.ptr 1000000 0),(1,.p (eI EA)),(4,.ptr 4 0),(6,.ptr 6 0)] rfl ⟨rfl,rfl,rfl,rfl,trivial⟩ rfl (dR 4 rfl ?_);refine dq (.p (eS EF.fs)) [15] rfl (λ _ e _ q=>ab rfl (br Z Z Z Z Z (e _ _ rfl) rfl (aa.g_s _) q)) rfl (dR 3 rfl ?_);refine dq (.p (eI EF.fat)) [19] rfl (λ _ e _ q=>ab rfl (br Z Z Z Z Z (e _ _ rfl) rfl (aa.g_at _) q)) rfl (dq (.p (eK .u8 (byt EF.fs EF.fat))) [16,20] rfl (λ _ e _ q=>ab rfl (gA Z Z Z Z Z (e _ _ rfl) (e _ _ rfl) I0 q)) rfl ?_);refine dR 2 rfl (dq (.ptr 1000000 (2+(byt EF.fs EF.fat).toNat*1)) [21,23] rfl (λ _ e _ q=>ab rfl (gr Z Z Z Z Z Z (e _ _ rfl) (e _ _ rfl) Hm q)) rfl ?_);refine dq (.p (eK .u8 ((lat ki (byt EF.fs EF.fat)).toNat:Int))) [24] rfl (λ _ e _ q=>ab rfl (br Z Z Z Z Z (e _ _ rfl) rfl (aa.g_class _ Hm) q)) rfl (dE rfl ?_);refine nx 1 rfl ?_;obtain ⟨Ht,h1,E3,hR0⟩:=bR h0;refine kX (λ Gx:Int×Bk×aa=>Ht=.inl Gx) (λ Gx=>⟨[(4,.ptr 4 0),(6,.ptr 6 0)],[(4,j6),(6,[.p (eI Gx.1),.p (eS Gx.2.1),.p (eI EF.fat)]),(1000000,(aa.cs Gx.2.2).map .p)]⟩) (λ Gx hv=>?_) ?_
  ·have h0:=E3 _ hv;exact nx 8 Z (mQo (oi h0) (ay _) Z Z Z (aA Z (aD _) Z) (aG ⟨sr,sr,trivial⟩) ⟨⟨_,Z,aM _⟩,trivial⟩)
  refine nx 6 Z (fD [48,49] h1 Z (λ c3 h1=>?_) λ c3 h1=>?_)
  ·refine nx 4 Z (bd h1 λ r4 e5 h1=>?_);refine mO Z (aQ [1000000] [] 101000 101000 (lK _ EF 2 3 _ e5) Z Z Z Z Z ⟨sr,sr,sr,trivial⟩ Z (aA Z (aD _) Z) ⟨⟨_,Z,aM _⟩,trivial⟩ Z Z Z Z Z Z Z Z Tryz.call84 Z (aA Z (aD _) Z) ?_);refine nx 9 Z (oLs Z ?_);refine nx 2 Z (fD [57] h1 Z (λ c6 h1=>?_) λ c6 h1=>?_)
   ·refine nx 2 Z (bd h1 λ r7 e8 h1=>?_);refine mG (gE (t:=⟨[(0,.ptr 1000000 0),(4,.ptr 4 0),(6,.ptr 6 0)],[(4,j6),(6,[.p (eI 1),.p (eS r4.1),.p (eI EF.fat)]),(1000000,(aa.cs r4.2).map .p)]⟩) Z Z) (mSq ⟨2,[4,5],(by3 (.some (du [] 102000 102000)) .none .none),(λ _=>[(0,.ptr 1000000 0),(4,.ptr 4 0),(6,.ptr 6 0)]),(by3 ([(4,j6),(6,[.p (eI 1),.p (eS r4.1),.p (eI EF.fat)]),(1000000,(aa.cs r4.2).map .p)]) ([(1000000,(aa.cs r7.2).map .p),(4,j6),(6,[.p (eI 1),.p (eS r4.1),.p (eI EF.fat)])]) ([(4,[.p (eI 1),.p (eS r4.1),.p (eI EF.fat)]),(1000000,(aa.cs r7.2).map .p),(4,j6),(6,[.p (eI 1),.p (eS r4.1),.p (eI EF.fat)])]))⟩ Z ?_);refine dPc (.p (.agg [eI 1,eS r4.1,eI EF.fat])) Z (dPc (.ptr 1000000 0) Z ?_);refine dPc (.ptr 6 2) Z (dPc (.p (eI EF.fat)) Z ?_);refine dh (λ _=>.p (eB r7.1)) [(59,_),(61,_)] Z ⟨.inr ⟨1,_,Z,Z,Z⟩,.inr ⟨3,_,Z,Z,Z⟩,trivial⟩ Z Z (cF Z Y) (lt2 (λ h=>absurd h (by decide)) Y) (λ sl Ey K hK=>ab Z (aQ [1000000] [] 102000 102000 (d4 r4.2 7 EF.fat _ e8) Z Z Z (az (Ey _ _ Z) (az Z (az (Ey _ _ Z) aV))) Z ⟨sr,sr,sr,trivial⟩ Z (aA Z (aD _) Z) ⟨⟨_,Z,aM _⟩,trivial⟩ Z Z Z Z Z Z Z Z Tryz.call85 Z (aA Z (aD _) Z) hK)) (dS Z ?_);refine dPc (.p (eB r7.1)) Z (cC ?_);exact nx 2 Z (mQo (hR0 _ (oi h1).symm) (ay _) Z Z Z (aA Z (aD _) Z) (aG ⟨sr,sr,trivial⟩) ⟨⟨_,Z,aM _⟩,trivial⟩)
   exact nx 2 Z (eX _ (oi h1).symm (gE Z Z))
  refine nx 6 Z (fD [63,64] h1 Z (λ c9 h1=>?_) λ c9 h1=>?_)
  ·refine nx 3 Z (bd h1 λ Fb G6 h1=>?_);refine mO Z (aQ [1000000] [] 103000 103000 (lK _ EF 3 3 _ G6) Z Z Z Z Z ⟨sr,sr,sr,trivial⟩ Z (aA Z (aD _) Z) ⟨⟨_,Z,aM _⟩,trivial⟩ Z Z Z Z Z Z Z Z Tryz.call84 Z (aA Z (aD _) Z) ?_);exact nx 5 Z (eX _ (oi h1).symm (gE Z Z))
  refine nx 6 Z (fD [69,70] h1 Z (λ HG h1=>?_) λ HG h1=>?_)
  ·refine nx 12 Z (mO Z (br Z Z Z Z Z Z Z (aa.g_at _) ?_));refine oA h1 Z Z λ HV h1=>nx 2 Z (mO Z (fg Z Z Z Z Z Z Z Z (aa.b_at _) (aa.u_at _) ?_));exact nx 1 Z (eX _ (oi h1).symm (gE Z Z))
  refine nx 6 Z (fD [80,81] h1 Z (λ HF h1=>?_) λ HF h1=>?_)
  ·refine nx 11 Z (bd h1 λ EV Jr h1=>?_);refine mO Z (aQ [1000000] [] 104000 104000 (F2 EF EA _ Jr) Z Z Z Z Z ⟨sr,sr,trivial⟩ Z (aA Z (aD _) Z) ⟨⟨_,Z,aM _⟩,trivial⟩ Z Z Z Z Z Z Z Z Tryz.call86 Z (aA Z (aD _) Z) ?_);refine nx 2 Z (mG (gE (t:=⟨[(0,.ptr 1000000 0),(4,.ptr 4 0),(6,.ptr 6 0),(86,.p (eB (!EV.1)))],[(4,j6),(6,[.p (eI 3),.p (eS ([]:Bk)),.p (eI EF.fat)]),(1000000,(aa.cs EV.2).map .p)]⟩) Z Z) ?_);refine fB [86] h1 Z (λ Fc h1=>?_) λ Fc h1=>?_
   ·exact nx 8 Z (mQo (hR0 _ (oi h1).symm) (ay _) Z Z Z (aA Z (aD _) Z) (aG ⟨sr,sr,trivial⟩) ⟨⟨_,Z,aM _⟩,trivial⟩)
   refine nx 2 Z (cc' h1 λ Hg h1=>?_);refine cc' h1 λ FD h1=>cc' h1 λ Fv h1=>mG (gE (t:=⟨[(0,.ptr 1000000 0),(4,.ptr 4 0),(6,.ptr 6 0)],[(4,j6),(6,[.p (eI 3),.p (eS ([]:Bk)),.p (eI EF.fat)]),(1000000,(aa.cs EV.2).map .p)]⟩) Z Z) (mSq ⟨1,[14],(λ _=>.none),(λ _=>[(0,.ptr 1000000 0),(4,.ptr 4 0),(6,.ptr 6 0)]),(ob2 ([(4,j6),(6,[.p (eI 3),.p (eS ([]:Bk)),.p (eI EF.fat)]),(1000000,(aa.cs EV.2).map .p)]) (6,[.p (eI 3),.p (eS (sub EV.2.fs (EF.fat+1) (EV.2.fat-1))),.p (eI EF.fat)]))⟩ Z ?_);refine dPc (.ptr 1000000 0) Z (dPc (.ptr 1000000 0) Z ?_);refine dPc (.ptr 1000000 0) Z (dPc (.p (eS EV.2.fs)) Z ?_);refine dPc (.ptr 6 2) Z (dPc (.p (eI EF.fat)) Z ?_);refine ap (λ _=>.p (eI (EF.fat+1))) Z Z Z (cF Z Y) (lt1 Z) (ai Z (af [(93,_)] ⟨.inr ⟨5,_,Z,Z,Z⟩,trivial⟩ (λ sl Ey K hK=>ab Z (ec Z Z Z (Ey _ _ Z) Z Z Hg hK)) ao)) (dPc (.ptr 1000000 0) Z ?_);refine dPc (.ptr 1000000 0) Z (dPc (.ptr 1000000 1) Z ?_);refine dPc (.p (eI EV.2.fat)) Z (ap (λ _=>.p (eI (EV.2.fat-1))) Z Z Z (cF Z Y) (lt1 Z) (ai Z (af [(98,_)] ⟨.inr ⟨10,_,Z,Z,Z⟩,trivial⟩ (λ sl Ey K hK=>ab Z (ec Z Z Z (Ey _ _ Z) Z Z FD hK)) ao)) ?_);refine ap (λ _=>.p (eS (sub EV.2.fs (EF.fat+1) (EV.2.fat-1)))) Z Z Z (cF Z Y) (lt1 Z) (ai Z (af [(91,_),(94,_),(99,_)] ⟨.inr ⟨3,_,Z,Z,Z⟩,.inr ⟨6,_,Z,Z,Z⟩,.inr ⟨11,_,Z,Z,Z⟩,trivial⟩ (λ sl Ey K hK=>ab Z (dZ (a:=EV.2.fs) (l:=EF.fat+1) (h:=EV.2.fat-1) Z Z Z Z Z (Ey _ _ Z) (gR (Ey _ _ Z)) (lr (Ey _ _ Z)) Fv hK)) ao)) (dPc (.ptr 6 1) Z ?_);refine dS Z (cC ?_);exact nx 1 Z (eX _ (oi h1).symm (gE Z Z))
  refine nx 2 Z (cc' h1 λ HB h1=>?_);refine bd h1 λ Hr Lb h1=>mG (gE (t:=⟨[(0,.ptr 1000000 0),(4,.ptr 4 0),(6,.ptr 6 0)],[(4,j6),(6,[.p (eI 0),.p (eS ([]:Bk)),.p (eI EF.fat)]),(1000000,(aa.cs EF).map .p)]⟩) Z Z) (mSq ⟨2,[11,13],(λ _=>.none),(λ _=>[(0,.ptr 1000000 0),(4,.ptr 4 0),(6,.ptr 6 0)]),(ob3 ([(4,j6),(6,[.p (eI 0),.p (eS ([]:Bk)),.p (eI EF.fat)]),(1000000,(aa.cs EF).map .p)]) (6,[.p (eI 4),.p (eS ([]:Bk)),.p (eI EF.fat)]) (6,[.p (eI 4),.p (eS Hr),.p (eI EF.fat)]))⟩ Z ?_);refine dPc (.ptr 1000000 0) Z (dPc (.ptr 1000000 0) Z ?_);refine dPc (.ptr 1000000 0) Z (dPc (.p (eS EF.fs)) Z ?_);refine dPc (.ptr 1000000 0) Z (dPc (.ptr 1000000 0) Z ?_);refine dPc (.ptr 1000000 1) Z (dPc (.p (eI EF.fat)) Z ?_);refine ap (λ _=>.p (eS (sub EF.fs EF.fat (EF.fs.length:Int)))) Z Z Z (b9 Z Z Y) (lt2 Z Z) (ai Z (af [(29,_),(33,_)] ⟨.inr ⟨3,_,Z,Z,Z⟩,.inr ⟨7,_,Z,Z,Z⟩,trivial⟩ (λ sl Ey K hK=>ab Z (dZ (a:=EF.fs) (l:=EF.fat) (h:=(EF.fs.length:Int)) Z Z Z Z Z (Ey _ _ Z) (gR (Ey _ _ Z)) Z HB hK)) (af [(29,_),(33,_)] ⟨.inr ⟨3,_,Z,Z,Z⟩,.inr ⟨7,_,Z,Z,Z⟩,trivial⟩ (λ sl Ey K hK=>ab Z (dZ (a:=EF.fs) (l:=EF.fat) (h:=(EF.fs.length:Int)) Z Z Z Z Z (Ey _ _ Z) (gR (Ey _ _ Z)) Z HB hK)) ao))) (ap (λ _=>.p (eS Hr)) Z Z Z (b9 Z Z Y) (lt2 Z Z) (ai Z (ai Z (af [(34,_)] ⟨.inr ⟨8,_,Z,Z,Z⟩,trivial⟩ (λ sl Ey K hK=>ab Z (bc (oM _ (sub EF.fs EF.fat (EF.fs.length:Int)) _ Lb) Z Z Z (az (Ey _ _ Z) aV) ⟨sr,trivial⟩ Tryz.call83 Z hK)) ao))) ?_);refine dPc (.ptr 6 0) Z (dj [(36,_)] Z ⟨.inr ⟨10,_,Z,Z,Z⟩,trivial⟩ Z (λ sl Ey K hK=>ab Z (em Z Z Z (Ey _ _ Z) Z Z Z Z (n6 Z) hK)) ?_);refine dPc (.ptr 6 1) Z (dS Z ?_);refine cC (nx 1 Z ?_);refine cc' h1 λ G3 h1=>mG (gE (t:=⟨[(0,.ptr 1000000 0),(4,.ptr 4 0),(6,.ptr 6 0)],[(4,j6),(6,[.p (eI 4),.p (eS Hr),.p (eI EF.fat)]),(1000000,(aa.cs EF).map .p)]⟩) Z Z) (mSq ⟨1,[10],(λ _=>.none),(λ _=>[(0,.ptr 1000000 0),(4,.ptr 4 0),(6,.ptr 6 0)]),(ob2 ([(4,j6),(6,[.p (eI 4),.p (eS Hr),.p (eI EF.fat)]),(1000000,(aa.cs EF).map .p)]) (1000000,(aa.cs (aa.mk EF.fs (EF.fat+(Hr.length:Int)) EF.Eu EF.AT)).map .p))⟩ Z ?_);refine dPc (.ptr 1000000 0) Z (dPc (.ptr 1000000 0) Z ?_);refine dPc (.ptr 1000000 1) Z (dPc (.p (eI EF.fat)) Z ?_);refine dPc (.ptr 6 1) Z (dPc (.p (eS Hr)) Z ?_);refine ap (λ _=>.p (eI (Hr.length:Int))) Z Z Z (cF Z Y) (lt1 Z) (ai Z (af [(43,_)] ⟨.inr ⟨5,_,Z,Z,Z⟩,trivial⟩ (λ sl Ey K hK=>ab Z (re Z Z Z Z Z (Ey _ _ Z) hK)) ao)) (ap (λ _=>.p (eI (EF.fat+(Hr.length:Int)))) Z Z Z (cF Z Y) (lt1 Z) (ai Z (af [(41,_),(44,_)] ⟨.inr ⟨3,_,Z,Z,Z⟩,.inr ⟨6,_,Z,Z,Z⟩,trivial⟩ (λ sl Ey K hK=>ab Z (ec Z Z Z (Ey _ _ Z) (Ey _ _ Z) Z G3 hK)) ao)) ?_);refine dPc (.ptr 1000000 0) Z (dPc (.ptr 1000000 1) Z ?_);refine dj [(45,_),(47,_)] Z ⟨.inr ⟨7,_,Z,Z,Z⟩,.inr ⟨9,_,Z,Z,Z⟩,trivial⟩ Z (λ sl Ey K hK=>ab Z (fg Z Z Z (Ey _ _ Z) (Ey _ _ Z) Z Z Z (aa.b_at _) (aa.u_at _) hK)) (cC ?_);exact nx 1 Z (eX _ (oi h1).symm (gE Z Z))
 ·skip
  intro EF EA r h0;rw [fY] at h0;refine Ah good (t:=4) [1000000,1000001] Z Z λ w0 F=>mPo (λ v:Bool×aa=>.p (eB v.1)) (λ v=>[(1000000,(aa.cs v.2).map .p),(1000001,[.ptr 1000000 0])]) ?_;refine nx 5 rfl (mO rfl (br Z Z Z Z Z Z Z (aa.g_at _) ?_));refine oA h0 Z Z λ I0 h0=>nx 2 rfl (mO rfl (fg Z Z Z Z Z Z Z Z (aa.b_at _) (aa.u_at _) ?_));refine nx 3 rfl ?_;obtain ⟨Ku,h1,E3,hR0⟩:=bR h0;refine kEx 0 (λ ID:aa=>Ku=.inl ID) (λ ID=>⟨[(2,.ptr 1000001 0)],[(1000000,(aa.cs ID).map .p),(1000001,[.ptr 1000000 0])]⟩) (λ ID hv=>?_) ?_
  ·have h0:=E3 _ hv;refine nx 2 Z (bd h0 λ Ik Nx h0=>?_);refine mG (gE (t:=⟨[(2,.ptr 1000001 0)],[(1000000,(aa.cs ID).map .p),(1000001,[.ptr 1000000 0])]⟩) Z Z) (mSq ⟨1,[5],(by2 (.some (du [] 111000 111000)) .none),(λ _=>[(2,.ptr 1000001 0)]),(by2 ([(1000000,(aa.cs ID).map .p),(1000001,[.ptr 1000000 0])]) ([(1000000,(aa.cs Ik.2).map .p),(1000001,[.ptr 1000000 0])]))⟩ Z ?_);refine dPc (.ptr 1000000 0) Z (dPc (.ptr 1000000 0) Z ?_);refine dPc (.ptr 1000000 0) Z (dPc (.ptr 1000000 258) Z ?_);refine dPc (.p (eI ID.Eu)) Z (dh (λ _=>.p (eB Ik.1)) [(87,_),(91,_)] Z ⟨.inr ⟨0,_,Z,Z,Z⟩,.inr ⟨4,_,Z,Z,Z⟩,trivial⟩ Z Z Y (lt1 (λ h=>absurd h (by decide))) (λ sl Ey K hK=>ab Z (aQ [1000000] [] 111000 111000 (d4 ID 40 ID.Eu _ Nx) Z Z Z (az (Ey _ _ Z) (az Z (az (Ey _ _ Z) aV))) Z ⟨sr,sr,sr,trivial⟩ Z (aA Z (aD _) Z) ⟨⟨_,Z,aM _⟩,trivial⟩ Z Z Z Z Z Z Z Z Tryz.call85 Z (aA Z (aD _) Z) hK)) ?_);refine dPc (.p (eB Ik.1)) Z (cC ?_);exact nx 2 Z (mQo (oi h0) (ay _) Z Z Z (aA Z (aD _) (aA Z Z Z)) (sr) ⟨⟨_,Z,aM _⟩,⟨_,Z,⟨sr,trivial⟩⟩,trivial⟩)
  refine lG (λ (I7:aa)=>⟨[(1,.p (eI EA)),(2,.ptr 1000001 0)],[(1000000,(aa.cs I7).map .p),(1000001,[.ptr 1000000 0])]⟩) (λ m (I7:aa)=>dV (dB n) EA m I7) Y (aa.mk EF.fs (EF.fat+1) EF.Eu EF.AT) h1 (gE rfl rfl) ?_;rintro m x33 h1;replace h1:dV (dB n) EA (m+1) x33=some Ku:=h1;rw [dV] at h1;refine nx 4 rfl (bd h1 λ E' Ml h1=>?_);refine mO rfl (aQ [1000000] [] 106000 106000 (cj x33 _ Ml) rfl rfl rfl rfl rfl ⟨sr,trivial⟩ rfl (aA rfl (aD _) rfl) ⟨⟨_,rfl,aM _⟩,trivial⟩ rfl rfl rfl rfl rfl rfl rfl rfl Tryz.call48 rfl (aA rfl (aD _) rfl) ?_);refine nx 1 rfl (fB [27] h1 rfl (λ J3 h1=>?_) λ J3 h1=>?_)
  ·refine nx 4 rfl (cc' h1 λ Jo h1=>?_);refine mD [(1,.p (eI EA)),(2,.ptr 1000001 0)] rfl ⟨rfl,rfl,trivial⟩ rfl (dR 3 rfl ?_);refine dq (.p (eS E'.2.fs)) [30] rfl (λ _ e _ q=>ab rfl (br Z Z Z Z Z (e _ _ rfl) rfl (aa.g_s _) q)) rfl (dR 3 rfl ?_);refine dq (.p (eI E'.2.fat)) [34] rfl (λ _ e _ q=>ab rfl (br Z Z Z Z Z (e _ _ rfl) rfl (aa.g_at _) q)) rfl (dq (.p (eS (sub E'.2.fs E'.2.fat (E'.2.fs.length:Int)))) [31,35] rfl (λ _ e _ q=>ab rfl (dZ (a:=E'.2.fs) (l:=E'.2.fat) (h:=(E'.2.fs.length:Int)) Z Z Z Z Z (e _ _ rfl) (gR (e _ _ rfl)) rfl Jo q)) rfl ?_);refine dR 1 rfl (dE rfl ?_);refine nx 1 rfl ?_;obtain ⟨o74,h2,hL1,hR1⟩:=bR h1;refine kX (λ v75:aa=>o74=.inl v75) (λ v75=>⟨[(1,.p (eI EA)),(2,.ptr 1000001 0)],[(1000000,(aa.cs v75).map .p),(1000001,[.ptr 1000000 0])]⟩) (λ v75 hv=>?_) ?_
   ·have h1:=hL1 _ hv;exact nx 1 Z (eX v75 h1 (gE Z Z))
   refine nx 4 Z (oI h2 Z λ L6 h2=>?_);refine nx 3 Z (fD [59,62] h2 Z (λ J2 h2=>?_) λ J2 h2=>?_)
   ·refine nx 6 Z (mO Z (br Z Z Z Z Z Z Z (aa.g_at _) ?_));refine oA h2 Z Z λ JW h2=>nx 2 Z (mO Z (fg Z Z Z Z Z Z Z Z (aa.b_at _) (aa.u_at _) ?_));exact nx 6 Z (mQo (hR0 _ (hR1 _ (oi h2).symm).symm) (ay _) Z Z Z (aA Z (aD _) (aA Z Z Z)) (sr) ⟨⟨_,Z,aM _⟩,⟨_,Z,⟨sr,trivial⟩⟩,trivial⟩)
   refine nx 4 Z (bd h2 λ Lp NG h2=>?_);refine oK (ct (sub E'.2.fs E'.2.fat (E'.2.fs.length:Int)) ([36,36,123]:Bk) _ NG) Z ⟨sr,sr,trivial⟩ Tryz.call110 Z (nx 2 Z ?_);refine fB [70,72] h2 Z (λ HN h2=>?_) λ HN h2=>?_
   ·refine nx 5 Z (mO Z (br Z Z Z Z Z Z Z (aa.g_at _) ?_));refine oA h2 Z Z λ Gl h2=>nx 2 Z (mO Z (fg Z Z Z Z Z Z Z Z (aa.b_at _) (aa.u_at _) ?_));exact nx 1 Z (eX _ (oi h2).symm (gE Z Z))
   refine nx 4 Z (bd h2 λ HH K8 h2=>?_);refine oK (ct (sub E'.2.fs E'.2.fat (E'.2.fs.length:Int)) ([36,123]:Bk) _ K8) Z ⟨sr,sr,trivial⟩ Tryz.call110 Z (nx 2 Z ?_);refine fB [80,82] h2 Z (λ Lf h2=>?_) λ Lf h2=>?_
   ·refine nx 5 Z (bd h2 λ I6 NF h2=>?_);refine mO Z (aQ [1000000] [] 107000 107000 (FB E'.2 EA _ NF) Z Z Z Z Z ⟨sr,sr,trivial⟩ Z (aA Z (aD _) Z) ⟨⟨_,Z,aM _⟩,trivial⟩ Z Z Z Z Z Z Z Z Tryz.call112 Z (aA Z (aD _) Z) ?_);refine nx 2 Z (fB [86] h2 Z (λ Ld h2=>?_) λ Ld h2=>?_)
    ·refine nx 5 Z (mG (gE (t:=⟨[(4,.p (eB false))],[(1000000,(aa.cs I6.2).map .p),(1000001,[.ptr 1000000 0])]⟩) Z Z) ?_);exact nx 1 Z (mQo (hR0 _ (hR1 _ (oi h2).symm).symm) (ay _) Z Z Z (aA Z (aD _) (aA Z Z Z)) (sr) ⟨⟨_,Z,aM _⟩,⟨_,Z,⟨sr,trivial⟩⟩,trivial⟩)
    exact nx 2 Z (eX _ (oi h2).symm (gE Z Z))
   refine nx 2 Z (bd h2 λ Lw h3 h2=>?_);refine kN Lw (λ JC=>⟨[(1,.p (eI EA)),(2,.ptr 1000001 0)],[(1000000,(aa.cs JC).map .p),(1000001,[.ptr 1000000 0])]⟩) ?_ ?_
   ·refine nx 5 Z (bd h2 λ H4 Mi h2=>?_);refine mO Z (aQ [1000000] [] 108000 108000 (cj Lw _ Mi) Z Z Z Z Z ⟨sr,trivial⟩ Z (aA Z (aD _) Z) ⟨⟨_,Z,aM _⟩,trivial⟩ Z Z Z Z Z Z Z Z Tryz.call48 Z (aA Z (aD _) Z) ?_);refine nx 2 Z (fB [49] h2 Z (λ Lc h2=>?_) λ Lc h2=>?_)
    ·exact nx 2 Z (eX _ (oi h2).symm (gE Z Z))
    refine nx 5 Z (bd h2 λ GE K7 h2=>?_);refine mO Z (aQ [1000000] [] 109000 109000 (mJ H4.2 _ K7) Z Z Z Z Z ⟨sr,trivial⟩ Z (aA Z (aD _) Z) ⟨⟨_,Z,aM _⟩,trivial⟩ Z Z Z Z Z Z Z Z Tryz.call113 Z (aA Z (aD _) Z) ?_);refine nx 2 Z (fB [52] h2 Z (λ c60 h2=>?_) λ c60 h2=>?_)
    ·refine nx 2 Z (bd h2 λ GD Nz h2=>?_);refine mG (gE (t:=⟨[(2,.ptr 1000001 0)],[(1000000,(aa.cs GE.2).map .p),(1000001,[.ptr 1000000 0])]⟩) Z Z) (mSq ⟨1,[5],(by2 (.some (du [] 110000 110000)) .none),(λ _=>[(2,.ptr 1000001 0)]),(by2 ([(1000000,(aa.cs GE.2).map .p),(1000001,[.ptr 1000000 0])]) ([(1000000,(aa.cs GD.2).map .p),(1000001,[.ptr 1000000 0])]))⟩ Z ?_);refine dPc (.ptr 1000000 0) Z (dPc (.ptr 1000000 0) Z ?_);refine dPc (.ptr 1000000 0) Z (dPc (.ptr 1000000 1) Z ?_);refine dPc (.p (eI GE.2.fat)) Z (dh (λ _=>.p (eB GD.1)) [(53,_),(57,_)] Z ⟨.inr ⟨0,_,Z,Z,Z⟩,.inr ⟨4,_,Z,Z,Z⟩,trivial⟩ Z Z Y (lt1 (λ h=>absurd h (by decide))) (λ sl Ey K hK=>ab Z (aQ [1000000] [] 110000 110000 (d4 GE.2 2 GE.2.fat _ Nz) Z Z Z (az (Ey _ _ Z) (az Z (az (Ey _ _ Z) aV))) Z ⟨sr,sr,sr,trivial⟩ Z (aA Z (aD _) Z) ⟨⟨_,Z,aM _⟩,trivial⟩ Z Z Z Z Z Z Z Z Tryz.call85 Z (aA Z (aD _) Z) hK)) ?_);refine dPc (.p (eB GD.1)) Z (cC ?_);exact nx 2 Z (mQo (hR0 _ (hR1 _ (oi h2).symm).symm) (ay _) Z Z Z (aA Z (aD _) (aA Z Z Z)) (sr) ⟨⟨_,Z,aM _⟩,⟨_,Z,⟨sr,trivial⟩⟩,trivial⟩)
    exact nx 2 Z (eX _ (oi h2).symm (gE Z Z))
   refine nx 3 Z (oI h3 Z λ IX h3=>?_);refine nx 2 Z (fD [39] h3 Z (λ KF h3=>?_) λ KF h3=>?_)
   ·refine nx 5 Z (mO Z (br Z Z Z Z Z Z Z (aa.g_at _) ?_));refine oA h3 Z Z λ IW h3=>nx 2 Z (mO Z (fg Z Z Z Z Z Z Z Z (aa.b_at _) (aa.u_at _) ?_));exact nx 1 Z (eX _ (oi h3).symm (gE Z Z))
   exact nx 2 Z (eX _ (oi h3).symm (gE Z Z))
  exact nx 2 Z (eXi _ (oi h1).symm (gE Z Z))
 ·skip
  intro EF EA r h0;rw [jk] at h0;refine CQ good (k:=111) (j:=2) (q:=18) (b:=decide (EF.Eu<0)) (s0:=⟨[(1,.p (eI EA)),(2,.ptr 2 0)],[(2,[.ptr 1000000 0]),(1000000,(aa.cs EF).map .p)]⟩) (s1:=⟨[(1,.p (eI EA)),(2,.ptr 2 0),(10,.p (eB (decide (EF.Eu<0))))],[(2,[.ptr 1000000 0]),(1000000,(aa.cs EF).map .p)]⟩) (s2:=⟨[(1,.p (eI EA)),(2,.ptr 2 0)],[(2,[.ptr 1000000 0]),(1000000,(aa.cs (aa.mk EF.fs EF.fat EF.fat EF.AT)).map .p)]⟩) [1000000] Tryz.func86 Z Z Z (λ w0 F=>mR ?_) (λ w0 F=>mR ?_) rfl (λ hb=>?_) (λ hb=>?_);refine nx 1 rfl (mO rfl (yA Z Z Z Z Z ?_));refine mG (mb (show ly _ _=_ from (by repeat (first|exact ko _|apply jq rfl|apply dW rfl (mC _ _)|apply dW Z Z)))) (nx 3 rfl ?_);exact mE (gE Z Z);refine nx 4 rfl (mO rfl (br Z Z Z Z Z Z Z (aa.g_outer _) ?_));exact nx 3 rfl (mE (gE Z Z));rw [if_neg (of_decide_eq_false hb)] at h0;refine ⟨⟨[(1,.p (eI EA)),(2,.ptr 2 0),(10,.p (eB (decide (EF.Eu<0))))],[(1000000,(aa.cs r.2).map .p),(2,[.ptr 1000000 0])]⟩,_,_,rfl,(aA rfl (aD _) rfl),⟨⟨_,rfl,aM _⟩,trivial⟩,λ w0 F g a a2 w hs ht=>?_⟩;exact A1 (C:=⟨Tryz.prog,tt,good,_,rfl,w0,F⟩) (sl:=[(1,.p (eI EA)),(2,.ptr 2 0),(10,.p (eB (decide (EF.Eu<0))))]) (ob:=[(2,[.ptr 1000000 0]),(1000000,(aa.cs EF).map .p)]) [1000000,2] [] 100000 100000 [1,2] rfl (Fi EF EA _ h0) Z Z Z (aA rfl (aD _) rfl) ⟨⟨_,rfl,aM _⟩,⟨_,rfl,⟨sr,trivial⟩⟩,trivial⟩ Z Z Z Z Z Z Z Z Z (aA rfl (aD _) rfl) hs ht;rw [if_pos (of_decide_eq_true hb)] at h0;refine bd h0 λ r1 e1 h0=>?_
  cases h0
  refine ⟨λ w0 F=>mR ?_,⟨Z,Z,Z,Z,Z,Z,Z,Z⟩,Tryz.call111,⟨[(18,.func (.func 111) [.ptr 2 0]),(1,.p (eI EA)),(2,.ptr 2 0)],[(1000000,(aa.cs r1.2).map .p),(2,[.ptr 1000000 0])]⟩,⟨[(18,.func (.func 111) [.ptr 2 0]),(1,.p (eI EA)),(2,.ptr 2 0)],[(2,[.ptr 1000000 0]),(1000000,(aa.cs (aa.mk r1.2.fs r1.2.fat (-1) r1.2.AT)).map .p)]⟩,_,_,.ptr 2 0,Z,Z,(aA Z (aD _) Z),⟨⟨_,Z,aM _⟩,trivial⟩,λ w0 F g a a2 w hs ht=>?_,λ w0 F g a w u hs=>?_⟩
  ·refine mG (gE (t:=⟨[(1,.p (eI EA)),(2,.ptr 2 0)],[(2,[.ptr 1000000 0]),(1000000,(aa.cs EF).map .p)]⟩) Z Z) (mSq ⟨1,[7],(λ _=>.none),(λ _=>[(1,.p (eI EA)),(2,.ptr 2 0)]),(ob2 ([(2,[.ptr 1000000 0]),(1000000,(aa.cs EF).map .p)]) (1000000,(aa.cs (aa.mk EF.fs EF.fat EF.fat EF.AT)).map .p))⟩ Z ?_);refine dPc (.ptr 1000000 0) Z (dPc (.ptr 1000000 0) Z ?_);refine dPc (.ptr 1000000 0) Z (dPc (.ptr 1000000 1) Z ?_);refine dPc (.p (eI EF.fat)) Z (dPc (.ptr 1000000 0) Z ?_);refine dPc (.ptr 1000000 258) Z (dj [(15,_),(17,_)] Z ⟨.inr ⟨4,_,Z,Z,Z⟩,.inr ⟨6,_,Z,Z,Z⟩,trivial⟩ Z (λ sl Ey K hK=>ab Z (fg Z Z Z (Ey _ _ Z) (Ey _ _ Z) Z Z Z (aa.b_outer _) (aa.u_outer _) hK)) ?_);refine cC (nx 2 Z ?_);exact mE (gE Z Z)
  ·exact A1 (C:=⟨Tryz.prog,tt,good,_,Z,w0,F⟩) (sl:=[(18,.func (.func 111) [.ptr 2 0]),(1,.p (eI EA)),(2,.ptr 2 0)]) (ob:=[(2,[.ptr 1000000 0]),(1000000,(aa.cs (aa.mk EF.fs EF.fat EF.fat EF.AT)).map .p)]) [1000000,2] [] 100000 100000 [1,2] Z (Fi (aa.mk EF.fs EF.fat EF.fat EF.AT) EA _ e1) Z Z Z (aA Z (aD _) Z) ⟨⟨_,Z,aM _⟩,⟨_,Z,⟨sr,trivial⟩⟩,trivial⟩ Z Z Z Z Z Z Z Z Z (aA Z (aD _) Z) hs ht
  exact DJ (C:=⟨Tryz.prog,tt,good,_,Z,w0,F⟩) (sl:=[(18,.func (.func 111) [.ptr 2 0]),(1,.p (eI EA)),(2,.ptr 2 0)]) (ob:=[(1000000,(aa.cs r1.2).map .p),(2,[.ptr 1000000 0])]) [2,1000000] [] 100000 100000 2 (mZ r1.2) Z Z Z (aA Z Z (aA Z (aD _) Z)) ⟨⟨_,Z,⟨sr,trivial⟩⟩,⟨_,Z,aM _⟩,trivial⟩ Z Z Z Z Z Z Z Z Z (aA Z Z (aA Z (aD _) Z)) hs
 ·skip
  intro EF EA r h0;rw [dB] at h0;refine bT good [] [1000000] Tryz.func112 Z Z Z Z Z λ w0 F=>mPo (λ v:Bool×aa=>.p (eB v.1)) (λ v=>[(1000000,(aa.cs v.2).map .p)]) ?_;refine nx 10 rfl (fD [9] h0 rfl (λ c1 h0=>?_) λ c1 h0=>?_)
  ·refine nx 7 Z (mO Z (br Z Z Z Z Z Z Z (aa.g_at _) ?_));refine bd h0 λ r2 e3 h0=>mO Z (aQ [1000000] [] 101000 101000 (d4 EF 4 EF.fat _ e3) Z Z Z Z Z ⟨sr,sr,sr,trivial⟩ Z (aA Z (aD _) Z) ⟨⟨_,Z,aM _⟩,trivial⟩ Z Z Z Z Z Z Z Z Tryz.call85 Z (aA Z (aD _) Z) ?_);exact nx 3 Z (mQo (oi h0) (ay _) Z Z Z (aA Z (aD _) Z) (sr) ⟨⟨_,Z,aM _⟩,trivial⟩)
  refine nx 7 rfl (mO rfl (br Z Z Z Z Z Z Z (aa.g_at _) ?_));refine oA h0 Z Z λ IY h0=>nx 2 rfl (mO rfl (fg Z Z Z Z Z Z Z Z (aa.b_at _) (aa.u_at _) ?_));refine nx 7 rfl ?_;obtain ⟨LV,h1,E3,hR0⟩:=bR h0;refine kEx 0 (λ JD:aa=>LV=.inl JD) (λ JD=>⟨[],[(1000000,(aa.cs JD).map .p)]⟩) (λ JD hv=>?_) ?_
  ·have h0:=E3 _ hv;exact nx 6 Z (mQo (oi h0) (ay _) Z Z Z (aA Z (aD _) Z) (sr) ⟨⟨_,Z,aM _⟩,trivial⟩)
  refine lG (λ (IG:Int×aa)=>⟨[(0,.ptr 1000000 0),(1,.p (eI EA)),(5,.p (eI IG.1))],[(1000000,(aa.cs IG.2).map .p)]⟩) (λ m (IG:Int×aa)=>cV n (dw n) EA m IG.1 IG.2) Y (1,(aa.mk EF.fs (EF.fat+2) EF.Eu EF.AT)) h1 (gE rfl rfl) ?_;rintro m ⟨open35,x36⟩ h1;replace h1:cV n (dw n) EA (m+1) open35 x36=some LV:=h1;rw [cV] at h1;refine nx 6 rfl (fD [24] h1 rfl (λ c37 h1=>?_) λ c37 h1=>?_)
  ·refine nx 2 rfl ?_;obtain ⟨Lw,h2,hL1,hR1⟩:=bR h1;refine kX (λ JC:Int×aa=>Lw=.inl JC) (λ JC=>⟨[(0,.ptr 1000000 0),(1,.p (eI EA)),(5,.p (eI JC.1))],[(1000000,(aa.cs JC.2).map .p)]⟩) (λ JC hv=>?_) ?_
   ·have h1:=hL1 _ hv;exact nx 1 Z (eX (JC.1,JC.2) h1 (gE Z Z))
   refine nx 4 Z (bd h2 λ HS NI h2=>?_);refine mO Z (aQ [1000000] [] 108000 108000 (kW _ x36 _ NI) Z Z Z Z Z ⟨sr,trivial⟩ Z (aA Z (aD _) Z) ⟨⟨_,Z,aM _⟩,trivial⟩ Z Z Z Z Z Z Z Z Tryz.call47 Z (aA Z (aD _) Z) ?_);refine nx 5 Z (bd h2 λ Gi NH h2=>?_);refine mO Z (aQ [1000000] [] 109000 109000 (cj HS _ NH) Z Z Z Z Z ⟨sr,trivial⟩ Z (aA Z (aD _) Z) ⟨⟨_,Z,aM _⟩,trivial⟩ Z Z Z Z Z Z Z Z Tryz.call48 Z (aA Z (aD _) Z) ?_);refine nx 2 Z (fB [29] h2 Z (λ NS h2=>?_) λ NS h2=>?_)
   ·refine nx 7 Z (mO Z (br Z Z Z Z Z Z Z (aa.g_outer _) ?_));refine bd h2 λ Kk e44 h2=>mO Z (aQ [1000000] [] 110000 110000 (d4 Gi.2 40 Gi.2.Eu _ e44) Z Z Z Z Z ⟨sr,sr,sr,trivial⟩ Z (aA Z (aD _) Z) ⟨⟨_,Z,aM _⟩,trivial⟩ Z Z Z Z Z Z Z Z Tryz.call85 Z (aA Z (aD _) Z) ?_);exact nx 3 Z (mQo (hR0 _ (hR1 _ (oi h2).symm).symm) (ay _) Z Z Z (aA Z (aD _) Z) (sr) ⟨⟨_,Z,aM _⟩,trivial⟩)
   refine nx 6 Z (bd h2 λ HH K8 h2=>?_);refine mO Z (aQ [1000000] [] 111000 111000 (ik _ Gi.2 _ K8) Z Z Z Z Z ⟨sr,trivial⟩ Z (aA Z (aD _) Z) ⟨⟨_,Z,aM _⟩,trivial⟩ Z Z Z Z Z Z Z Z Tryz.call49 Z (aA Z (aD _) Z) ?_);refine nx 2 Z (fB [38] h2 Z (λ Lf h2=>?_) λ Lf h2=>?_)
   ·refine nx 7 Z (mO Z (br Z Z Z Z Z Z Z (aa.g_at _) ?_));refine bd h2 λ I6 NF h2=>mO Z (aQ [1000000] [] 112000 112000 (d4 HH.2 2 HH.2.fat _ NF) Z Z Z Z Z ⟨sr,sr,sr,trivial⟩ Z (aA Z (aD _) Z) ⟨⟨_,Z,aM _⟩,trivial⟩ Z Z Z Z Z Z Z Z Tryz.call85 Z (aA Z (aD _) Z) ?_);exact nx 3 Z (mQo (hR0 _ (hR1 _ (oi h2).symm).symm) (ay _) Z Z Z (aA Z (aD _) Z) (sr) ⟨⟨_,Z,aM _⟩,trivial⟩)
   refine nx 6 Z (oA h2 Z Z λ Iz h2=>?_);refine bd h2 λ F1 Mk h2=>mO Z (aQ [1000000] [] 113000 113000 (F8 HH.2 (EA+1) _ Mk) Z Z Z Z Z ⟨sr,sr,trivial⟩ Z (aA Z (aD _) Z) ⟨⟨_,Z,aM _⟩,trivial⟩ Z Z Z Z Z Z Z Z Tryz.call50 Z (aA Z (aD _) Z) ?_);refine nx 3 Z (mO Z (fW Z Z Z Z Z ?_));refine mG (mb (show ly _ _=_ from (by repeat (first|exact ko _|apply jq Z|apply dW Z (mC _ _)|apply dW Z Z)))) (nx 9 Z ?_);refine fB [53] h2 Z (λ c53 h2=>?_) λ c53 h2=>?_
   ·exact nx 6 Z (mQo (hR0 _ (hR1 _ (oi h2).symm).symm) (ay _) Z Z Z (aA Z (aD _) Z) (sr) ⟨⟨_,Z,aM _⟩,trivial⟩)
   refine nx 3 Z (bd h2 λ LU h3 h2=>?_);refine kN LU (λ JB=>⟨[(0,.ptr 1000000 0),(1,.p (eI EA)),(5,.p (eI JB)),(6,.ptr 6 0)],[(6,(au.cs F1.1).map .p),(1000000,(aa.cs F1.2.2).map .p)]⟩) ?_ ?_
   ·refine nx 2 Z (bd h2 λ Jy h3 h2=>?_);refine kN Jy (λ II=>⟨[(0,.ptr 1000000 0),(1,.p (eI EA)),(5,.p (eI LU)),(71,.p (eB II))],[(1000000,(aa.cs F1.2.2).map .p)]⟩) ?_ ?_
    ·refine nx 1 Z (fB [71] h2 Z (λ NN h2=>?_) λ NN h2=>?_)
     ·refine nx 3 Z (oA h2 Z Z λ Np h2=>?_);exact nx 2 Z (eX _ (oi h2).symm (gE Z Z))
     exact nx 2 Z (eX _ (oi h2).symm (gE Z Z))
    refine nx 5 Z (fD [66,67] h3 Z (λ c59 h3=>?_) λ c59 h3=>?_)
    ·refine nx 2 Z (oS Z Z ?_);exact nx 2 Z (eX _ (oi h3).symm (gE Z Z))
    exact nx 5 Z (eX _ (oi h3).symm (gE Z Z))
   refine nx 1 Z (bd h3 λ JL h4 h3=>?_);refine kN JL (λ Jv=>⟨[(0,.ptr 1000000 0),(1,.p (eI EA)),(5,.p (eI open35)),(6,.ptr 6 0),(61,.p (eB Jv))],[(6,(au.cs F1.1).map .p),(1000000,(aa.cs F1.2.2).map .p)]⟩) ?_ ?_
   ·refine nx 1 Z (fB [61] h3 Z (λ NO h3=>?_) λ NO h3=>?_)
    ·refine nx 3 Z (oA h3 Z Z λ JS h3=>?_);exact nx 2 Z (eX _ (oi h3).symm (gE Z Z))
    exact nx 2 Z (eX _ (oi h3).symm (gE Z Z))
   refine nx 5 Z (fD [56,57] h4 Z (λ c54 h4=>?_) λ c54 h4=>?_)
   ·refine nx 2 Z (oS Z Z ?_);exact nx 2 Z (eX _ (oi h4).symm (gE Z Z))
   exact nx 5 Z (eX _ (oi h4).symm (gE Z Z))
  exact nx 2 Z (eXi _ (oi h1).symm (gE Z Z))
theorem kL (n:Nat):∀ (EF:aa) (EA:Int) (r:au×Bool×aa),dw n EF EA=some r->aU Tryz.prog 50 [.ptr 1000000 0,.p (eI EA)] [(1000000,(aa.cs EF).map .p)] (λ x y=>x=.tuple [.p (.agg (au.cs r.1)),.p (eB r.2.1)]/\y=[(1000000,(aa.cs r.2.2).map .p)]):=(oa n).1
def jV (n:Nat):Nat->(List au)->aa->Option (Unit⊕((List au)×aE))|0,_,_=>none|m+1,GQ,x26=>(ix n x26).bind λ Hq=>((cQ Hq).bind λ IN=>if IN.1=true then(fw n IN.2).bind λ Hd=>some (!Hd.1,Hd.2)else some (false,IN.2) : Option (Bool×aa)).bind λ q49=>if q49.1=true then some (.inr ([],(aE.mk 2 q49.2.fat ([]:Bk))))else if (GQ.length:Int)=16384 then some (.inr ([],(aE.mk 14 q49.2.fat ([]:Bk))))else(cQ q49.2).bind λ HS=>if (!HS.1)=true then ck ((GQ.length+([(au.mk 6 ([]:Bk) HS.2.fat)]).length)*32<=140737488355328)<|some (.inr (GQ++([(au.mk 6 ([]:Bk) HS.2.fat)]),(aE.mk 0 0 ([]:Bk))))else(dw n HS.2 0).bind λ Gq=>if (!Gq.2.1)=true then some (.inr ([],Gq.2.2.AT))else ck ((GQ.length+[Gq.1].length)*32<=140737488355328)<|jV n m (GQ++[Gq.1]) Gq.2.2
def oz (n:Nat)(Ez:Bk):Option ((List au)×aE) :=if 65536<(Ez.length:Int) then some ([],(aE.mk 3 0 ([]:Bk)))else(jA Ez).bind λ r2=>jn (jV n n [] r2) λ _q48=>none
theorem qh (n:Nat)(Ez:Bk)(r:(List au)×aE)(h0:oz n Ez=some r):aF Tryz.prog 26 [eS Ez] (·=.tuple [.p (eL ax r.1),.p (.agg (aE.cs r.2))]):=by
 unfold oz at h0;refine aZ good Tryz.func26 Z Z Z λ w0=>mP (λ v:(List au)×aE=>.tuple [.p (eL ax v.1),.p (.agg (aE.cs v.2))]) ?_;refine nx 9 Z (oLs Z ?_);refine nx 2 Z (fD [10] h0 Z (λ c1 h0=>?_) λ c1 h0=>?_)
 ·exact nx 8 Z (mQ (oi h0) Z (aG ⟨ei _,sr,trivial⟩))
 refine nx 5 rfl (bd h0 λ r2 e3 h0=>?_);refine mO rfl (aQ [] [] 101000 101001 (lS Ez _ e3) Z Z Z Z Z ⟨sr,trivial⟩ Z Z trivial Z Z Z Z Z Z Z Z Tryz.call46 rfl (aA rfl (aD _) rfl) ?_);refine nx 7 rfl ?_;obtain ⟨o50,h1,E3,hR0⟩:=bR h0;refine kEx 0 (λ v51:Unit=>o50=.inl v51) (λ v51=>⟨[],[]⟩) (λ v51 hv=>?_) ?_
 ·have h0:=E3 _ hv;refine nx 1 Z ?_
  cases h0
 refine lG (λ (M9:(List au)×aa)=>⟨[(3,.ptr 3 0),(4,.ptr 101000 0),(5,.vec 62 3 0 (M9.1.map ax))],[(3,nr),(101000,(aa.cs M9.2).map .p)]⟩) (λ m (M9:(List au)×aa)=>jV n m M9.1 M9.2) Y ([],r2) h1 (cb (gU ⟨er rfl,er rfl,⟨_,rfl,AV.sub_nilvec _ _ _⟩,trivial⟩ ⟨⟨_,rfl,⟨sr,sr,sr,trivial⟩⟩,⟨_,rfl,aM _⟩,trivial⟩)) ?_;rintro m ⟨GQ,x26⟩ h1;replace h1:jV n (m+1) GQ x26=some o50:=h1;rw [jV] at h1;refine nx 4 rfl (bd h1 λ Hq Jp h1=>?_);refine mO rfl (aQ [101000] [] 107000 107000 (kW _ x26 _ Jp) rfl rfl rfl rfl rfl ⟨sr,trivial⟩ rfl (aA rfl (aD _) rfl) ⟨⟨_,rfl,aM _⟩,trivial⟩ rfl rfl rfl rfl rfl rfl rfl rfl Tryz.call47 rfl (aA rfl (aD _) rfl) ?_);refine nx 3 rfl (bd h1 λ IS h2 h1=>?_);refine kN IS (λ Ll=>⟨[(3,.ptr 3 0),(4,.ptr 101000 0),(5,.vec 62 3 0 (GQ.map ax)),(22,.p (eB Ll.1))],[(3,nr),(101000,(aa.cs Ll.2).map .p)]⟩) ?_ ?_
 ·refine nx 1 Z (fB [22] h1 Z (λ J3 h1=>?_) λ J3 h1=>?_)
  ·refine nx 2 Z (mG (gE (t:=⟨[(3,.ptr 3 0),(4,.ptr 101000 0)],[(3,nr),(101000,(aa.cs IS.2).map .p)]⟩) Z Z) ?_);refine mSq ⟨1,[6],(λ _=>.none),(λ _=>[(3,.ptr 3 0),(4,.ptr 101000 0)]),(ob2 ([(3,nr),(101000,(aa.cs IS.2).map .p)]) (3,[.p (eI 2),.p (eI IS.2.fat),.p (eS ([]:Bk))]))⟩ Z (dPc (.ptr 101000 0) Z ?_);refine dPc (.ptr 101000 0) Z (dPc (.ptr 101000 1) Z ?_);refine dPc (.p (eI IS.2.fat)) Z (dPc (.p (.agg [eI 2,eI IS.2.fat,eS ([]:Bk)])) Z ?_);refine dPc (.p (.val (.slice none 0 0))) Z (dS Z ?_);refine cC (nx 2 Z ?_);exact mQ (hR0 _ (oi h1).symm) Z (aG ⟨ei _,sr,trivial⟩)
  refine nx 6 Z (oLl (f:=ax) Z Z ?_);refine nx 2 Z (fD [30] h1 Z (λ c37 h1=>?_) λ c37 h1=>?_)
  ·refine nx 2 Z (mG (gE (t:=⟨[(3,.ptr 3 0),(4,.ptr 101000 0)],[(3,nr),(101000,(aa.cs IS.2).map .p)]⟩) Z Z) ?_);refine mSq ⟨1,[6],(λ _=>.none),(λ _=>[(3,.ptr 3 0),(4,.ptr 101000 0)]),(ob2 ([(3,nr),(101000,(aa.cs IS.2).map .p)]) (3,[.p (eI 14),.p (eI IS.2.fat),.p (eS ([]:Bk))]))⟩ Z (dPc (.ptr 101000 0) Z ?_);refine dPc (.ptr 101000 0) Z (dPc (.ptr 101000 1) Z ?_);refine dPc (.p (eI IS.2.fat)) Z (dPc (.p (.agg [eI 14,eI IS.2.fat,eS ([]:Bk)])) Z ?_);refine dPc (.p (.val (.slice none 0 0))) Z (dS Z ?_);refine cC (nx 2 Z ?_);exact mQ (hR0 _ (oi h1).symm) Z (aG ⟨ei _,sr,trivial⟩)
  refine nx 6 Z (bd h1 λ HS NI h1=>?_);refine mO Z (aQ [101000] [] 110000 110000 (cj IS.2 _ NI) Z Z Z Z Z ⟨sr,trivial⟩ Z (aA Z (aD _) Z) ⟨⟨_,Z,aM _⟩,trivial⟩ Z Z Z Z Z Z Z Z Tryz.call48 Z (aA Z (aD _) Z) ?_);refine nx 2 Z (fB [38] h1 Z (λ Js h1=>?_) λ Js h1=>?_)
  ·refine nx 7 Z (mO Z (br Z Z Z Z Z Z Z (aa.g_at _) ?_));refine nx 1 Z (mO Z (bg ax [(au.mk 6 ([]:Bk) HS.2.fat)] Z Z Z Z Z Z Z Z Z Z Z Z Z (by first|rfl|(simp only [aq,bx,au.Ef]; done)|(simp only [aq,bx,au.Ef]; rfl)) ?_));refine cc' h1 λ FO h1=>mO Z (eu ax GQ ([(au.mk 6 ([]:Bk) HS.2.fat)]) Z Z Z Z Z Z Z Z Z Z Z Z Z (λ x=>congrArg List.length (au.BY x)) Z Z Z Z FO ?_);refine mG (xi (show ly _ _=_ from (by repeat (first|exact ko _|apply jq Z|apply dW Z (mC _ _)|apply dW Z Z)))) (nx 5 Z ?_);exact mQ (hR0 _ (oi h1).symm) Z (aG ⟨AV.sub_vec _ _ _ _,sr,trivial⟩)
  refine nx 5 Z (bd h1 λ Gq K9 h1=>?_);refine mO Z (aQ [101000] [] 111000 111000 (kL _ HS.2 0 _ K9) Z Z Z Z Z ⟨sr,sr,trivial⟩ Z (aA Z (aD _) Z) ⟨⟨_,Z,aM _⟩,trivial⟩ Z Z Z Z Z Z Z Z Tryz.call50 Z (aA Z (aD _) Z) ?_);refine nx 3 Z (mO Z (fW Z Z Z Z Z ?_));refine mG (mb (show ly _ _=_ from (by repeat (first|exact ko _|apply jq Z|apply dW Z (mC _ _)|apply dW Z Z)))) (nx 9 Z ?_);refine fB [54] h1 Z (λ Lg h1=>?_) λ Lg h1=>?_
  ·refine nx 2 Z (mG (gE (t:=⟨[(3,.ptr 3 0),(4,.ptr 101000 0)],[(3,nr),(101000,(aa.cs Gq.2.2).map .p)]⟩) Z Z) ?_);refine mSq ⟨1,[5],(λ _=>.none),(λ _=>[(3,.ptr 3 0),(4,.ptr 101000 0)]),(ob2 ([(3,nr),(101000,(aa.cs Gq.2.2).map .p)]) (3,((aE.cs Gq.2.2.AT).map .p)))⟩ Z (dPc (.ptr 101000 0) Z ?_);refine dPc (.ptr 101000 0) Z (dPc (.ptr 101000 259) Z ?_);refine ap (λ _=>.p (.agg (aE.cs Gq.2.2.AT))) Z Z Z (cF Z Y) (lt1 Z) (ai Z (af [(57,_)] ⟨.inr ⟨2,_,Z,Z,Z⟩,trivial⟩ (λ sl Ey K hK=>ab Z (zz Z Z Z Z Z (Ey _ _ Z) Z (aa.l_bad _) (aa.g_bad _) hK)) ao)) (dPc (.p (.val (.slice none 0 0))) Z ?_);refine dS Z (cC ?_);exact nx 2 Z (mQ (hR0 _ (oi h1).symm) Z (aG ⟨ei _,sr,trivial⟩))
  refine nx 5 Z (mO Z (bg ax [Gq.1] Z Z Z Z Z Z Z Z Z Z Z Z Z (by first|rfl|(simp only [aq,bx,au.Ef]; done)|(simp only [aq,bx,au.Ef]; rfl)) ?_));refine cc' h1 λ GR h1=>mO Z (eu ax GQ [Gq.1] Z Z Z Z Z Z Z Z Z Z Z Z Z (λ x=>congrArg List.length (au.BY x)) Z Z Z Z GR ?_);refine mG (xi (show ly _ _=_ from (by repeat (first|exact ko _|apply jq Z|apply dW Z (mC _ _)|apply dW Z Z)))) (nx 2 Z ?_);exact eX (GQ++[Gq.1],Gq.2.2) h1 (gE Z Z)
 refine nx 2 Z (bd h2 λ IN Mn h2=>?_);refine mO Z (aQ [101000] [] 108000 108000 (cj Hq _ Mn) Z Z Z Z Z ⟨sr,trivial⟩ Z (aA Z (aD _) Z) ⟨⟨_,Z,aM _⟩,trivial⟩ Z Z Z Z Z Z Z Z Tryz.call48 Z (aA Z (aD _) Z) ?_);refine nx 1 Z (fB [17,18] h2 Z (λ J4 h2=>?_) λ J4 h2=>?_)
 ·refine nx 1 Z (bd h2 λ Hd KD h2=>?_);refine mO Z (aQ [101000] [] 109000 109000 (ik _ IN.2 _ KD) Z Z Z Z Z ⟨sr,trivial⟩ Z (aA Z (aD _) Z) ⟨⟨_,Z,aM _⟩,trivial⟩ Z Z Z Z Z Z Z Z Tryz.call49 Z (aA Z (aD _) Z) ?_);exact nx 3 Z (eX _ (oi h2).symm (gE Z Z))
 exact nx 5 Z (eX _ (oi h2).symm (gE Z Z))
def pE (a_0:au)(EB:au):Option Bool :=if a_0.AI=1 then(if EB.AI=1 then some true else some (decide (EB.AI=2)) : Option Bool).bind λ t3=>some t3 else if a_0.AI=2 then some (decide (EB.AI=2))else(if a_0.AI=4 then some (!decide (EB.AI=4))else some true : Option Bool).bind λ t6=>if t6=true then some false else(strings_HasPrefix EB.Eh ([61]:Bk)).bind λ r8=>if r8=true then(if (a_0.Eh.length:Int)=1 then(strings_Contains ([61,33,60,62]:Bk) a_0.Eh).bind λ FH=>some FH else some false : Option Bool).bind λ HR=>some HR else(if a_0.Eh=([61]:Bk) then(strings_HasPrefix EB.Eh ([62]:Bk)).bind λ Fs=>some Fs else some false : Option Bool).bind λ FT=>some FT
theorem tA (a_0:au)(EB:au)(r:Bool)(h0:pE a_0 EB=some r):aF Tryz.prog 183 [.agg (au.cs a_0),.agg (au.cs EB)] (·=.p (eB r)):=by
 unfold pE at h0;refine aZ good Tryz.func183 Z Z Z λ w0=>mP (λ v:Bool=>.p (eB v)) ?_;refine nx 15 Z (fD [5,8] h0 Z (λ c1 h0=>?_) λ c1 h0=>?_)
 ·refine nx 2 Z (bd h0 λ Fy h1 h0=>?_);refine kN Fy (λ F4=>⟨[(4,.p (eB F4))],[]⟩) ?_ ?_
  ·exact nx 2 Z (mQ (oi h0) Z (sr))
  refine nx 5 Z (fD [11,12] h1 Z (λ c2 h1=>?_) λ c2 h1=>?_)
  ·exact nx 6 Z (eX _ (oi h1).symm (gE Z Z))
  exact nx 6 Z (eX _ (oi h1).symm (gE Z Z))
 refine nx 8 Z (fD [17,20] h0 Z (λ c4 h0=>?_) λ c4 h0=>?_)
 ·exact nx 9 Z (mQ (oi h0) Z (sr))
 refine nx 2 Z (bd h0 λ Ip h1 h0=>?_);refine kN Ip (λ Ig=>⟨[(2,.ptr 2 0),(3,.ptr 3 0),(24,.p (eB Ig))],[(2,(au.cs a_0).map .p),(3,(au.cs EB).map .p)]⟩) ?_ ?_
 ·refine nx 1 Z (fB [24] h0 Z (λ c7 h0=>?_) λ c7 h0=>?_)
  ·exact nx 6 Z (mQ (oi h0) Z (sr))
  refine nx 5 Z (bd h0 λ r8 e9 h0=>?_);refine oK (ct EB.Eh ([61]:Bk) _ e9) Z ⟨sr,sr,trivial⟩ Tryz.call110 Z (nx 2 Z ?_);refine fB [33,36] h0 Z (λ FP h0=>?_) λ FP h0=>?_
  ·refine nx 2 Z (bd h0 λ FR h1 h0=>?_);refine kN FR (λ HZ=>⟨[(4,.p (eB HZ))],[]⟩) ?_ ?_
   ·exact nx 2 Z (mQ (oi h0) Z (sr))
   refine nx 3 Z (oLs Z ?_);refine nx 2 Z (fD [40,41] h1 Z (λ GK h1=>?_) λ GK h1=>?_)
   ·refine nx 2 Z (bd h1 λ FH I9 h1=>?_);refine oK (gW ([61,33,60,62]:Bk) a_0.Eh _ I9) Z ⟨sr,sr,trivial⟩ Tryz.call70 Z (nx 3 Z ?_);exact eX _ (oi h1).symm (gE Z Z)
   exact nx 6 Z (eX _ (oi h1).symm (gE Z Z))
  refine nx 3 Z (bd h0 λ Ht h1 h0=>?_);refine kN Ht (λ Gx=>⟨[(4,.p (eB Gx))],[]⟩) ?_ ?_
  ·exact nx 2 Z (mQ (oi h0) Z (sr))
  refine nx 3 Z (oS Z Z ?_);refine nx 1 Z (fD [48,49] h1 Z (λ Gw h1=>?_) λ Gw h1=>?_)
  ·refine nx 2 Z (bd h1 λ Fs GV h1=>?_);refine oK (ct EB.Eh ([62]:Bk) _ GV) Z ⟨sr,sr,trivial⟩ Tryz.call110 Z (nx 3 Z ?_);exact eX _ (oi h1).symm (gE Z Z)
  exact nx 6 Z (eX _ (oi h1).symm (gE Z Z))
 refine nx 5 Z (fN [27,28] h1 Z (λ c5 h1=>?_) λ c5 h1=>?_)
 ·exact nx 6 Z (eX _ (oi h1).symm (gE Z Z))
 exact nx 6 Z (eX _ (oi h1).symm (gE Z Z))
def pw (n:Nat)(ED:au):Option Bool :=(if ED.AI=3 then ck (([34]:Bk).length+ED.Eh.length<=9223372036854775807)<|ck ((([34]:Bk)++ED.Eh).length+([34]:Bk).length<=9223372036854775807)<|some ((([34]:Bk)++ED.Eh)++([34]:Bk))else some ED.Eh : Option Bk).bind λ s4=>(if s4=([]:Bk) then some true else if ED.AI<1 then some true else some (decide (5<ED.AI)) : Option Bool).bind λ t7=>if t7=true then some false else(jA s4).bind λ r9=>(fw n r9).bind λ Fq=>if (!Fq.1)=true then some false else(dw n Fq.2 0).bind λ E6=>(if E6.2.1=true then(cQ E6.2.2).bind λ Fj=>if (!Fj.1)=true then some (decide (E6.1.AI=ED.AI))else some false else some false : Option Bool).bind λ t20=>some t20
theorem t1 (n:Nat)(ED:au)(r:Bool)(h0:pw n ED=some r):aF Tryz.prog 159 [.agg (au.cs ED)] (·=.p (eB r)):=by
 unfold pw at h0;refine aZ good Tryz.func159 Z Z Z λ w0=>mP (λ v:Bool=>.p (eB v)) ?_;refine nx 12 Z (bd h0 λ Jl h1 h0=>?_);refine kN Jl (λ Kh=>⟨[(1,.ptr 1 0),(3,.p (eS Kh))],[(1,(au.cs ED).map .p)]⟩) ?_ ?_
 ·refine nx 3 Z (bd h0 λ MD h1 h0=>?_);refine kN MD (λ MS=>⟨[(1,.ptr 1 0),(3,.p (eS Jl)),(26,.p (eB MS))],[(1,(au.cs ED).map .p)]⟩) ?_ ?_
  ·refine nx 1 Z (fB [26] h0 Z (λ c8 h0=>?_) λ c8 h0=>?_)
   ·exact nx 6 Z (mQ (oi h0) Z (sr))
   refine nx 5 Z (bd h0 λ r9 GW h0=>?_);refine mO Z (aQ [] [] 101000 101001 (lS Jl _ GW) Z Z Z Z Z ⟨sr,trivial⟩ Z Z trivial Z Z Z Z Z Z Z Z Tryz.call46 Z (aA Z (aD _) Z) ?_);refine nx 6 Z (bd h0 λ Fq Gg h0=>?_);refine mO Z (aQ [101000] [] 102000 102000 (ik _ r9 _ Gg) Z Z Z Z Z ⟨sr,trivial⟩ Z (aA Z (aD _) Z) ⟨⟨_,Z,aM _⟩,trivial⟩ Z Z Z Z Z Z Z Z Tryz.call49 Z (aA Z (aD _) Z) ?_);refine nx 2 Z (fB [31] h0 Z (λ FS h0=>?_) λ FS h0=>?_)
   ·exact nx 6 Z (mQ (oi h0) Z (sr))
   refine nx 5 Z (bd h0 λ E6 H0 h0=>?_);refine mO Z (aQ [101000] [] 103000 103000 (kL _ Fq.2 0 _ H0) Z Z Z Z Z ⟨sr,sr,trivial⟩ Z (aA Z (aD _) Z) ⟨⟨_,Z,aM _⟩,trivial⟩ Z Z Z Z Z Z Z Z Tryz.call50 Z (aA Z (aD _) Z) ?_);refine nx 3 Z (mO Z (fW Z Z Z Z Z ?_));refine mG (mb (show ly _ _=_ from (by repeat (first|exact ko _|apply jq Z|apply dW Z (mC _ _)|apply dW Z Z)))) (nx 4 Z ?_);refine bd h0 λ KV h1 h0=>kN KV (λ KP=>⟨[(2,.p (eB KP))],[]⟩) ?_ ?_
   ·exact nx 2 Z (mQ (oi h0) Z (sr))
   refine nx 3 Z (fB [6,36,37,38] h1 Z (λ Ju h1=>?_) λ Ju h1=>?_)
   ·refine nx 1 Z (bd h1 λ Fj JZ h1=>?_);refine mO Z (aQ [101000] [] 104000 104000 (cj E6.2.2 _ JZ) Z Z Z Z Z ⟨sr,trivial⟩ Z (aA Z (aD _) Z) ⟨⟨_,Z,aM _⟩,trivial⟩ Z Z Z Z Z Z Z Z Tryz.call48 Z (aA Z (aD _) Z) ?_);refine nx 3 Z (fB [41,42,43] h1 Z (λ HE h1=>?_) λ HE h1=>?_)
    ·exact nx 8 Z (eX _ (oi h1).symm (gE Z Z))
    exact nx 8 Z (eX _ (oi h1).symm (gE Z Z))
   exact nx 13 Z (eX _ (oi h1).symm (gE Z Z))
  refine nx 2 Z (oS Z Z ?_);refine nx 1 Z (fD [16,17] h1 Z (λ c5 h1=>?_) λ c5 h1=>?_)
  ·exact nx 10 Z (eX _ (oi h1).symm (gE Z Z))
  refine nx 5 Z (fD [20,21,22] h1 Z (λ c6 h1=>?_) λ c6 h1=>?_)
  ·exact nx 5 Z (eX _ (oi h1).symm (gE Z Z))
  exact nx 5 Z (eX _ (oi h1).symm (gE Z Z))
 refine nx 6 Z (fD [11] h1 Z (λ c1 h1=>?_) λ c1 h1=>?_)
 ·refine nx 3 Z (oC h1 Z λ Hm h1=>?_);exact oC h1 Z λ IZ h1=>nx 2 Z (eX _ (oi h1).symm (gE Z Z))
 exact nx 2 Z (eX _ (oi h1).symm (gE Z Z))
def iO (l_0:List au):Nat->Int->Int->Option Int|0,_,_=>none|m+1,n19,t20=>if t20<(l_0.length:Int) then(ck ((0:Int)<=t20/\t20<(l_0.length:Int))<|ck (inR (n19+(((lat l_0 t20).Eh).length:Int)))<|(if (lat l_0 t20).AI=3 then ck (inR ((n19+(((lat l_0 t20).Eh).length:Int))+2))<|some ((n19+(((lat l_0 t20).Eh).length:Int))+2)else some (n19+(((lat l_0 t20).Eh).length:Int)) : Option Int).bind λ n26=>(if 0<t20 then ck (inR (t20-1))<|ck ((0:Int)<=t20-1/\t20-1<(l_0.length:Int))<|(pE (lat l_0 (t20-1)) (lat l_0 t20)).bind λ IM=>some IM else some false : Option Bool).bind λ MX=>if MX=true then ck (inR (n26+1))<|some (n26+1)else some n26 : Option Int).bind λ n35=>ck (inR (t20+1))<|iO l_0 m n35 (t20+1)else some n19
def oH (n:Nat)(l_0:List au):Option Int :=(iO l_0 n 0 0).bind λ n39=>some n39
theorem sN (n:Nat)(l_0:List au)(r:Int)(h0:oH n l_0=some r):aF Tryz.prog 160 [eL ax l_0] (·=.p (eI r)):=by
 unfold oH at h0;refine aZ good Tryz.func160 Z Z Z λ w0=>mP (λ v:Int=>.p (eI v)) ?_;refine nx 12 Z (oLl (f:=ax) Z Z ?_);refine nx 3 Z (bd h0 λ LY h1 h0=>?_);refine kE 0 LY (λ LF=>⟨[(3,.p (eI LF))],[]⟩) ?_ ?_
 ·exact nx 7 Z (mQ (oi h0) Z (sr))
 refine lG (λ (Ie:Int×Int)=>⟨[(0,.p (eL ax l_0)),(3,.p (eI Ie.1)),(6,.p (eL ax l_0)),(7,.p (eI (l_0.length:Int))),(8,.p (eI Ie.2))],[]⟩) (λ m (Ie:Int×Int)=>iO l_0 m Ie.1 Ie.2) Y (0,0) h1 (gE rfl rfl) ?_;rintro m ⟨n19,t20⟩ h1;replace h1:iO l_0 (m+1) n19 t20=some LY:=h1;rw [iO] at h1;refine nx 5 rfl (fD [9] h1 rfl (λ c21 h1=>?_) λ c21 h1=>?_)
 ·refine nx 3 Z (bd h1 λ MB h2 h1=>?_);refine kN MB (λ MO=>⟨[(0,.p (eL ax l_0)),(3,.p (eI MO)),(6,.p (eL ax l_0)),(7,.p (eI (l_0.length:Int))),(8,.p (eI t20))],[]⟩) ?_ ?_
  ·refine nx 2 Z (oA h1 Z Z λ HA h1=>?_);exact nx 2 Z (eX (MB,t20+1) h1 (gE Z Z))
  refine nx 4 Z (oE h2 au.BY Z Z Y λ Fl h2=>?_);refine nx 10 Z (oLs Z ?_);refine oA h2 Z Z λ FK h2=>nx 3 Z (bd h2 λ o49 h3 h2=>?_);refine kN o49 (λ v50=>⟨[(0,.p (eL ax l_0)),(3,.p (eI v50)),(4,.p (eI t20)),(5,.ptr 5 0),(6,.p (eL ax l_0)),(7,.p (eI (l_0.length:Int))),(8,.p (eI t20))],[(5,(au.cs (lat l_0 t20)).map .p)]⟩) ?_ ?_
  ·refine nx 2 Z (bd h2 λ o51 h3 h2=>?_);refine kN o51 (λ LE=>⟨[(0,.p (eL ax l_0)),(3,.p (eI o49)),(6,.p (eL ax l_0)),(7,.p (eI (l_0.length:Int))),(8,.p (eI t20)),(33,.p (eB LE))],[]⟩) ?_ ?_
   ·refine nx 1 Z (fB [33] h2 Z (λ Mt h2=>?_) λ Mt h2=>?_)
    ·refine nx 3 Z (oA h2 Z Z λ IB h2=>?_);exact nx 2 Z (eX _ (oi h2).symm (gE Z Z))
    exact nx 2 Z (eX _ (oi h2).symm (gE Z Z))
   refine fD (p:=0<t20) [] h3 Z (λ HW h3=>?_) λ HW h3=>?_
   ·refine cc' h3 λ JY h3=>cc' h3 λ KC h3=>bd h3 λ IM Mm h3=>mD [(0,.p (eL ax l_0)),(3,.p (eI o49)),(4,.p (eI t20)),(5,.ptr 5 0),(6,.p (eL ax l_0)),(7,.p (eI (l_0.length:Int))),(8,.p (eI t20))] Z ⟨Z,Z,Z,Z,Z,Z,Z,trivial⟩ Z (dR 1 Z ?_);refine dL (dt HW) Z (dR 3 Z ?_);refine dq (.p (eI (t20-1))) [25,27] Z (λ _ e _ q=>bh (ec Z Z Z (e _ _ Z) Z Z JY q) Z Z (e _ _ Z) (rfl)) Z (dq (.rptr (au.cs (lat l_0 (t20-1)))) [25,26,28] Z (λ _ e _ q=>bh (cT (f:=ax) (l:=l_0) au.cs Z Z Z Z Z Z (e _ _ Z) Z (e _ _ Z) KC au.BY Y q) Z Z (e _ _ Z) (rfl)) Z ?_);refine dR 2 Z (dq (.p (eB IM)) [25,30,31] Z (λ _ e _ q=>bh (bc (tA (lat l_0 (t20-1)) (lat l_0 t20) _ Mm) Z Z Z (az (e _ _ Z) (az (e _ _ Z) aV)) ⟨sr,sr,trivial⟩ Tryz.call183 Z q) Z Z (e _ _ Z) (rfl)) Z ?_);refine dR 1 Z (dE Z ?_);exact nx 1 Z (eX _ (oi h3).symm (gE Z Z))
   refine mD [(0,.p (eL ax l_0)),(3,.p (eI o49)),(4,.p (eI t20)),(5,.ptr 5 0),(6,.p (eL ax l_0)),(7,.p (eI (l_0.length:Int))),(8,.p (eI t20))] Z ⟨Z,Z,Z,Z,Z,Z,Z,trivial⟩ Z (dR 1 Z ?_);refine dL (df HW) Z (dR 9 Z ?_);refine dE Z (nx 1 Z ?_);exact eX _ (oi h3).symm (gE Z Z)
  refine nx 6 Z (fD [20] h3 Z (λ HD h3=>?_) λ HD h3=>?_)
  ·refine nx 3 Z (oA h3 Z Z λ Gu h3=>?_);exact nx 2 Z (eX _ (oi h3).symm (gE Z Z))
  exact nx 2 Z (eX _ (oi h3).symm (gE Z Z))
 exact nx 2 Z (eXi _ (oi h1).symm (gE Z Z))
def jr (n:Nat)(l_0:List au):Nat->Int->Option (Unit⊕Int)|0,_=>none|m+1,FT=>if FT<((sub l_0 0 ((l_0.length:Int)-1)).length:Int) then ck ((0:Int)<=FT/\FT<((sub l_0 0 ((l_0.length:Int)-1)).length:Int))<|if 65536<(((lat (sub l_0 0 ((l_0.length:Int)-1)) FT).Eh).length:Int) then some (.inr 3)else(pw n (lat (sub l_0 0 ((l_0.length:Int)-1)) FT)).bind λ Hr=>if (!Hr)=true then some (.inr 1)else ck (inR (FT+1))<|jr n l_0 m (FT+1)else some (.inl ())
def pg (n:Nat)(l_0:List au):Option Int :=if 16384<(l_0.length:Int) then some 14 else if (l_0.length:Int)=0 then some 1 else ck (inR ((l_0.length:Int)-1))<|(ck ((0:Int)<=(l_0.length:Int)-1/\(l_0.length:Int)-1<(l_0.length:Int))<|if (lat l_0 ((l_0.length:Int)-1)).AI=6 then ck ((0:Int)<=(l_0.length:Int)-1/\(l_0.length:Int)-1<(l_0.length:Int))<|some (!decide ((lat l_0 ((l_0.length:Int)-1)).Eh=([]:Bk)))else some true : Option Bool).bind λ t7=>if t7=true then some 1 else ck ((0:Int)<=0/\0<=(l_0.length:Int)-1/\(l_0.length:Int)-1<=(l_0.length:Int))<|jn (jr n l_0 n 0) λ _Hk=>(oH n l_0).bind λ Hq=>if 65536<Hq then some 3 else some 0
theorem tY (n:Nat)(l_0:List au)(r:Int)(h0:pg n l_0=some r):aF Tryz.prog 136 [eL ax l_0] (·=.p (eI r)):=by
 unfold pg at h0;refine aZ good Tryz.func136 Z Z Z λ w0=>mP (λ v:Int=>.p (eI v)) ?_;refine nx 8 Z (oLl (f:=ax) Z Z ?_);refine nx 2 Z (fD [8] h0 Z (λ c1 h0=>?_) λ c1 h0=>?_)
 ·exact nx 6 Z (mQ (oi h0) Z (sr))
 refine nx 6 Z (oLl (f:=ax) Z Z ?_);refine nx 2 Z (fD [11] h0 Z (λ c2 h0=>?_) λ c2 h0=>?_)
 ·exact nx 6 Z (mQ (oi h0) Z (sr))
 refine nx 5 Z (oLl (f:=ax) Z Z ?_);refine oA h0 Z Z λ IZ h0=>nx 4 Z (bd h0 λ Iu h1 h0=>?_);refine kN Iu (λ JF=>⟨[(0,.p (eL ax l_0)),(3,.p (eI ((l_0.length:Int)-1))),(28,.p (eB JF))],[]⟩) ?_ ?_
 ·refine nx 1 Z (fB [28] h0 Z (λ c8 h0=>?_) λ c8 h0=>?_)
  ·exact nx 6 Z (mQ (oi h0) Z (sr))
  refine nx 7 rfl (cc' h0 λ Iv h0=>?_);refine mO rfl (nW (f:=ax) (l:=l_0) Z Z Z Z Z Z Z Z Z Z Iv (λ x=>congrArg List.length (au.BY x)) ?_);refine oLl (f:=ax) Z Z (nx 3 rfl ?_);obtain ⟨Jk,h1,E3,hR0⟩:=bR h0;refine kEx 0 (λ HY:Unit=>Jk=.inl HY) (λ HY=>⟨[(0,.p (eL ax l_0))],[]⟩) (λ HY hv=>?_) ?_
  ·have h0:=E3 _ hv;refine nx 5 Z (bd h0 λ Hq Jp h0=>?_);refine oK (sN _ l_0 _ Jp) Z ⟨sr,trivial⟩ Tryz.call160 Z (nx 2 Z ?_);refine fD [47] h0 Z (λ Jt h0=>?_) λ Jt h0=>?_
   ·exact nx 6 Z (mQ (oi h0) Z (sr))
   exact nx 7 Z (mQ (oi h0) Z (sr))
  refine lG (λ (KJ:Int)=>⟨[(0,.p (eL ax l_0)),(31,.p (eL ax (sub l_0 0 ((l_0.length:Int)-1)))),(32,.p (eI ((sub l_0 0 ((l_0.length:Int)-1)).length:Int))),(33,.p (eI KJ))],[]⟩) (λ m (KJ:Int)=>jr n l_0 m KJ) Y 0 h1 (gE rfl rfl) ?_;rintro m FT h1;replace h1:jr n l_0 (m+1) FT=some Jk:=h1;rw [jr] at h1;refine nx 5 rfl (fD [34] h1 rfl (λ HE h1=>?_) λ HE h1=>?_)
  ·refine nx 6 Z (oE h1 au.BY Z Z Y λ Fv h1=>?_);refine nx 9 Z (oLs Z ?_);refine nx 2 Z (fD [40] h1 Z (λ c21 h1=>?_) λ c21 h1=>?_)
   ·exact nx 6 Z (mQ (hR0 _ (oi h1).symm) Z (sr))
   refine nx 5 Z (bd h1 λ Hr Lb h1=>?_);refine oK (t1 _ (lat (sub l_0 0 ((l_0.length:Int)-1)) FT) _ Lb) Z ⟨sr,trivial⟩ Tryz.call159 Z (nx 2 Z ?_);refine fB [43] h1 Z (λ HD h1=>?_) λ HD h1=>?_
   ·exact nx 6 Z (mQ (hR0 _ (oi h1).symm) Z (sr))
   refine nx 3 Z (oA h1 Z Z λ Gu h1=>?_);exact nx 2 Z (eX (FT+1) h1 (gE Z Z))
  exact nx 2 Z (eXi _ (oi h1).symm (gE Z Z))
 refine nx 3 Z (oE h1 au.BY Z Z Y λ IY h1=>?_);refine nx 4 Z (fN [20,21] h1 Z (λ c5 h1=>?_) λ c5 h1=>?_)
 ·refine nx 2 Z (oE h1 au.BY Z Z Y λ MH h1=>?_);refine nx 2 Z (oS Z Z ?_);exact nx 2 Z (eX _ (oi h1).symm (gE Z Z))
 exact nx 8 Z (eX _ (oi h1).symm (gE Z Z))
def kV (EJ:ar):Option Bool :=(if EJ.AI<0 then some true else some (decide (6<EJ.AI)) : Option Bool).bind λ t2=>if t2=true then some false else jn (if EJ.AI=1 then(if EJ.Em=0 then some false else some (!decide (EJ.Em=1)) : Option Bool).bind λ t6=>if t6=true then some (.inr false)else some (.inl ())else if EJ.AI=2 then some (.inl ())else if EJ.Em=0 then some (.inl ())else some (.inr false) : Option (Unit⊕Bool)) λ _q20=>(if EJ.AI=3 then if EJ.AI=4 then some false else if EJ.AI=5 then some false else some (decide (0<(EJ.Ei.length:Int)))else if EJ.Ep=([]:Bk) then if EJ.AI=4 then some false else if EJ.AI=5 then some false else some (decide (0<(EJ.Ei.length:Int)))else some true : Option Bool).bind λ F5=>if F5=true then some false else if EJ.AI=5 then some (decide ((EJ.El.length:Int)=(EJ.Ei.length:Int)))else some (decide ((EJ.El.length:Int)=0))
theorem sR (EJ:ar)(r:Bool)(h0:kV EJ=some r):aF Tryz.prog 212 [.agg (ar.cs EJ)] (·=.p (eB r)):=by
 unfold kV at h0;refine aZ good Tryz.func212 Z Z Z λ w0=>mP (λ v:Bool=>.p (eB v)) ?_;refine nx 7 Z (bd h0 λ Fy h1 h0=>?_);refine kN Fy (λ F4=>⟨[(1,.ptr 1 0),(10,.p (eB F4))],[(1,(ar.cs EJ).map .p)]⟩) ?_ ?_
 ·refine nx 1 Z (fB [10] h0 Z (λ c3 h0=>?_) λ c3 h0=>?_)
  ·exact nx 6 Z (mQ (oi h0) Z (sr))
  refine nx 8 rfl ?_;obtain ⟨Ip,h1,E3,hR0⟩:=bR h0;refine kX (λ Ig:Unit=>Ip=.inl Ig) (λ Ig=>⟨[(1,.ptr 1 0)],[(1,(ar.cs EJ).map .p)]⟩) (λ Ig hv=>?_) ?_
  ·have h0:=E3 _ hv;refine nx 3 Z (bd h0 λ FR h1 h0=>?_);refine kN FR (λ HZ=>⟨[(1,.ptr 1 0),(51,.p (eB HZ))],[(1,(ar.cs EJ).map .p)]⟩) ?_ ?_
   ·refine nx 1 Z (fB [51] h0 Z (λ Fc h0=>?_) λ Fc h0=>?_)
    ·exact nx 6 Z (mQ (oi h0) Z (sr))
    refine nx 9 Z (fD [54] h0 Z (λ G7 h0=>?_) λ G7 h0=>?_)
    ·refine nx 5 Z (oLl (f:=eS) Z Z ?_);refine nx 2 Z (oLl (f:=bw) Z Z ?_);exact nx 4 Z (mQ (oi h0) Z (sr))
    refine nx 6 Z (oLl (f:=eS) Z Z ?_);exact nx 4 Z (mQ (oi h0) Z (sr))
   refine nx 5 Z (fN [30,31] h1 Z (λ FP h1=>?_) λ FP h1=>?_)
   ·refine nx 9 Z (fN [39,40] h1 Z (λ GK h1=>?_) λ GK h1=>?_)
    ·exact nx 12 Z (eX _ (oi h1).symm (gE Z Z))
    refine nx 5 Z (fN [43,44,45] h1 Z (λ HG h1=>?_) λ HG h1=>?_)
    ·exact nx 7 Z (eX _ (oi h1).symm (gE Z Z))
    refine nx 2 Z (oLl (f:=bw) Z Z ?_);exact nx 4 Z (eX _ (oi h1).symm (gE Z Z))
   refine nx 2 Z (oS Z Z ?_);refine nx 2 Z (fN [34,35,36] h1 Z (λ FS h1=>?_) λ FS h1=>?_)
   ·refine nx 4 Z (fN [39,40] h1 Z (λ HF h1=>?_) λ HF h1=>?_)
    ·exact nx 12 Z (eX _ (oi h1).symm (gE Z Z))
    refine nx 5 Z (fN [43,44,45] h1 Z (λ Gw h1=>?_) λ Gw h1=>?_)
    ·exact nx 7 Z (eX _ (oi h1).symm (gE Z Z))
    refine nx 2 Z (oLl (f:=bw) Z Z ?_);exact nx 4 Z (eX _ (oi h1).symm (gE Z Z))
   exact nx 16 Z (eX _ (oi h1).symm (gE Z Z))
  refine nx 6 Z (fD [16,17] h1 Z (λ c4 h1=>?_) λ c4 h1=>?_)
  ·refine nx 2 Z (bd h1 λ Ht h2 h1=>?_);refine kN Ht (λ Gx=>⟨[(1,.ptr 1 0),(25,.p (eB Gx))],[(1,(ar.cs EJ).map .p)]⟩) ?_ ?_
   ·refine nx 1 Z (fB [25] h1 Z (λ c7 h1=>?_) λ c7 h1=>?_)
    ·exact nx 6 Z (mQ (hR0 _ (oi h1).symm) Z (sr))
    exact nx 2 Z (eX _ (oi h1).symm (gE Z Z))
   refine nx 5 Z (fN [20,21] h2 Z (λ c5 h2=>?_) λ c5 h2=>?_)
   ·exact nx 5 Z (eX _ (oi h2).symm (gE Z Z))
   exact nx 5 Z (eX _ (oi h2).symm (gE Z Z))
  refine nx 6 Z (fD [26,27] h1 Z (λ c8 h1=>?_) λ c8 h1=>?_)
  ·exact nx 2 Z (eX _ (oi h1).symm (gE Z Z))
  refine nx 7 Z (fN [15] h1 Z (λ c9 h1=>?_) λ c9 h1=>?_)
  ·exact nx 2 Z (eX _ (oi h1).symm (gE Z Z))
  exact nx 6 Z (mQ (hR0 _ (oi h1).symm) Z (sr))
 refine nx 5 Z (fD [5,6] h1 Z (λ c1 h1=>?_) λ c1 h1=>?_)
 ·exact nx 5 Z (eX _ (oi h1).symm (gE Z Z))
 exact nx 5 Z (eX _ (oi h1).symm (gE Z Z))
def ll (Ez:Bk):Option Int :=if 4096<(Ez.length:Int) then some 3 else(jx Ez).bind λ r2=>if (!r2)=true then some 1 else some 0
theorem qi (Ez:Bk)(r:Int)(h0:ll Ez=some r):aF Tryz.prog 214 [eS Ez] (·=.p (eI r)):=by
 unfold ll at h0;refine aZ good Tryz.func214 Z Z Z λ w0=>mP (λ v:Int=>.p (eI v)) ?_;refine nx 8 Z (oLs Z ?_);refine nx 2 Z (fD [5] h0 Z (λ c1 h0=>?_) λ c1 h0=>?_)
 ·exact nx 6 Z (mQ (oi h0) Z (sr))
 refine nx 6 Z (bd h0 λ r2 e3 h0=>?_);refine oK (oJ Ez _ e3) Z ⟨sr,trivial⟩ Tryz.call69 Z (nx 2 Z ?_);refine fB [8] h0 Z (λ c4 h0=>?_) λ c4 h0=>?_
 ·exact nx 6 Z (mQ (oi h0) Z (sr))
 exact nx 7 Z (mQ (oi h0) Z (sr))
def jS (EJ:ar):Nat->Int->Option (Unit⊕(Unit⊕Int))|0,_=>none|m+1,Ij=>if Ij<(EJ.El.length:Int) then ck ((0:Int)<=Ij/\Ij<(EJ.El.length:Int))<|(ll (lat EJ.El Ij)).bind λ Hq=>if Hq=0 then(if 0<Ij then ck (inR (Ij-1))<|ck ((0:Int)<=Ij-1/\Ij-1<(EJ.El.length:Int))<|some (Op.bytesLess (lat EJ.El Ij) (lat EJ.El (Ij-1))||decide (lat EJ.El Ij=lat EJ.El (Ij-1)))else some false : Option Bool).bind λ t33=>if t33=true then some (.inr (.inr 1))else ck (inR (Ij+1))<|jS EJ m (Ij+1)else some (.inr (.inr Hq))else some (.inl ())
def me (n:Nat)(EJ:ar):Option Int :=(kV EJ).bind λ r1=>if (!r1)=true then some 1 else jn (if EJ.AI=2 then(jD EJ.Em).bind λ r5=>if (!r5)=true then some (.inr 5)else some (.inl ())else if EJ.AI=3 then(ll EJ.Ep).bind λ r9=>some (.inr r9)else if EJ.AI=5 then jn (jS EJ n 0) λ _If=>some (.inl ())else some (.inl ()) : Option (Unit⊕Int)) λ _GY=>some 0
theorem uy (n:Nat)(EJ:ar)(r:Int)(h0:me n EJ=some r):aF Tryz.prog 202 [.agg (ar.cs EJ)] (·=.p (eI r)):=by
 unfold me at h0;refine aZ good Tryz.func202 Z Z Z λ w0=>mP (λ v:Int=>.p (eI v)) ?_;refine nx 9 Z (bd h0 λ r1 e2 h0=>?_);refine oK (sR EJ _ e2) Z ⟨sr,trivial⟩ Tryz.call212 Z (nx 2 Z ?_);refine fB [8] h0 Z (λ c3 h0=>?_) λ c3 h0=>?_
 ·exact nx 6 Z (mQ (oi h0) Z (sr))
 refine nx 8 rfl ?_;obtain ⟨o40,h1,E3,hR0⟩:=bR h0;refine kX (λ MQ:Unit=>o40=.inl MQ) (λ MQ=>⟨[],[]⟩) (λ MQ hv=>?_) ?_
 ·have h0:=E3 _ hv;exact nx 6 Z (mQ (oi h0) Z (sr))
 refine nx 6 Z (fD [11,12] h1 Z (λ c4 h1=>?_) λ c4 h1=>?_)
 ·refine nx 5 Z (bd h1 λ r5 e6 h1=>?_);refine oK (oN EJ.Em _ e6) Z ⟨sr,trivial⟩ Tryz.call213 Z (nx 2 Z ?_);refine fB [16] h1 Z (λ c7 h1=>?_) λ c7 h1=>?_
  ·exact nx 6 Z (mQ (hR0 _ (oi h1).symm) Z (sr))
  exact nx 2 Z (eX _ (oi h1).symm (gE Z Z))
 refine nx 6 Z (fD [17,18] h1 Z (λ c8 h1=>?_) λ c8 h1=>?_)
 ·refine nx 5 Z (bd h1 λ r9 GW h1=>?_);refine oK (qi EJ.Ep _ GW) Z ⟨sr,trivial⟩ Tryz.call214 Z (nx 3 Z ?_);exact mQ (hR0 _ (oi h1).symm) Z (sr)
 refine nx 6 Z (fD [22,23] h1 Z (λ GK h1=>?_) λ GK h1=>?_)
 ·refine nx 5 rfl (oLl (f:=eS) Z Z ?_);refine nx 3 rfl ?_;obtain ⟨H9,h2,hL1,hR1⟩:=bR h1;refine kEx 1 (λ HX:Unit=>H9=.inl HX) (λ HX=>⟨[],[]⟩) (λ HX hv=>?_) ?_
  ·have h1:=hL1 _ hv;exact nx 1 Z (eX _ (oi h1).symm (gE Z Z))
  refine lG (λ (Kq:Int)=>⟨[(1,.ptr 1 0),(25,.p (eL eS EJ.El)),(26,.p (eI (EJ.El.length:Int))),(27,.p (eI Kq))],[(1,(ar.cs EJ).map .p)]⟩) (λ m (Kq:Int)=>jS EJ m Kq) Y 0 h2 (gE rfl rfl) ?_;rintro m Ij h2;replace h2:jS EJ (m+1) Ij=some H9:=h2;rw [jS] at h2;refine nx 5 rfl (fD [28] h2 rfl (λ HO h2=>?_) λ HO h2=>?_)
  ·refine nx 7 Z (oE h2 Y Z Z Y λ FV h2=>?_);refine nx 8 Z (bd h2 λ Hq Jp h2=>?_);refine oK (qi (lat EJ.El Ij) _ Jp) Z ⟨sr,trivial⟩ Tryz.call214 Z (nx 7 Z ?_);refine fN [35] h2 Z (λ Jt h2=>?_) λ Jt h2=>?_
   ·refine nx 3 Z (bd h2 λ Kv h3 h2=>?_);refine kN Kv (λ v46=>⟨[(1,.ptr 1 0),(25,.p (eL eS EJ.El)),(26,.p (eI (EJ.El.length:Int))),(27,.p (eI Ij)),(48,.p (eB v46))],[(1,(ar.cs EJ).map .p)]⟩) ?_ ?_
    ·refine nx 1 Z (fB [48] h2 Z (λ Ms h2=>?_) λ Ms h2=>?_)
     ·exact nx 6 Z (mQ (hR0 _ (hR1 _ (oi h2).symm).symm) Z (sr))
     refine nx 3 Z (oA h2 Z Z λ IA h2=>?_);exact nx 2 Z (eX (Ij+1) h2 (gE Z Z))
    refine nx 4 Z (fD [38,39] h3 Z (λ Ic h3=>?_) λ Ic h3=>?_)
    ·refine nx 4 Z (oA h3 Z Z λ Iq h3=>?_);refine oE h3 Y Z Z Y λ Nr h3=>nx 1 Z (oS Z Z ?_);exact nx 2 Z (eX _ (oi h3).symm (gE Z Z))
    exact nx 10 Z (eX _ (oi h3).symm (gE Z Z))
   exact nx 7 Z (mQ (hR0 _ (hR1 _ (oi h2).symm).symm) Z (sr))
  exact nx 2 Z (eXi _ (oi h2).symm (gE Z Z))
 exact nx 2 Z (eX _ (oi h1).symm (gE Z Z))
def fk (Gy:ar->Int->Int->Option (Int×Int))(EJ:ar)(EE:Int):Nat->Int->Int->Option (Int⊕(Int×Int))|0,_,_=>none|m+1,F5,I3=>if F5<(EJ.Ei.length:Int) then ck ((0:Int)<=F5/\F5<(EJ.Ei.length:Int))<|ck (inR (EE+1))<|(Gy (lat EJ.Ei F5) (EE+1) I3).bind λ EY=>if EY.1=0 then ck (inR (F5+1))<|fk Gy EJ EE m (F5+1) EY.2 else some (.inr (EY.1,EY.2))else some (.inl I3)
def gd:Nat->ar->Int->Int->Option (Int×Int)|0,_,_,_=>none|n+1,EJ,EE,cap_0=>if 32<EE then some (4,cap_0)else if 4096<=cap_0 then some (14,cap_0)else ck (inR (cap_0+1))<|(me n EJ).bind λ r4=>if r4=0 then jn (fk (gd n) EJ EE n 0 (cap_0+1)) λ f27=>some (0,f27)else some (r4,cap_0+1)
theorem rp (n:Nat):∀ (EJ:ar) (EE:Int) (cap_0:Int) (r:Int×Int),gd n EJ EE cap_0=some r->aU Tryz.prog 201 [.p (.agg (ar.cs EJ)),.p (eI EE),.ptr 1000000 0,.ptr 1000001 0] [(1000000,[.p (eI cap_0)]),(1000001,[.func (.func 201) [.ptr 1000000 0,.ptr 1000001 0]])] (λ x y=>x=.p (eI r.1)/\y=[(1000000,[.p (eI r.2)]),(1000001,[.func (.func 201) [.ptr 1000000 0,.ptr 1000001 0]])]):=by
 induction n with
 | zero=>intro EJ EE cap_0 r h0; cases h0
 | succ n ih=>
 have G0:=ih;intro EJ EE cap_0 r h0;rw [gd] at h0;refine bT good [] [1000000,1000001] Tryz.func201 Z Z Z Z Z λ w0 F=>mPo (λ v:Int×Int=>.p (eI v.1)) (λ v=>[(1000000,[.p (eI v.2)]),(1000001,[.func (.func 201) [.ptr 1000000 0,.ptr 1000001 0]])]) ?_;refine nx 11 Z (fD [12] h0 Z (λ c1 h0=>?_) λ c1 h0=>?_)
 ·exact nx 6 Z (mQo (oi h0) (ay _) Z Z Z Z (sr) ⟨⟨_,Z,⟨sr,trivial⟩⟩,⟨_,Z,⟨sr,trivial⟩⟩,trivial⟩)
 refine nx 8 Z (fD [14] h0 Z (λ c2 h0=>?_) λ c2 h0=>?_)
 ·exact nx 6 Z (mQo (oi h0) (ay _) Z Z Z Z (sr) ⟨⟨_,Z,⟨sr,trivial⟩⟩,⟨_,Z,⟨sr,trivial⟩⟩,trivial⟩)
 refine nx 5 Z (oA h0 Z Z λ IZ h0=>?_);refine nx 6 Z (bd h0 λ r4 e5 h0=>?_);refine oK (uy _ EJ _ e5) Z ⟨sr,trivial⟩ Tryz.call202 Z (nx 7 Z ?_);refine fN [20] h0 Z (λ c6 h0=>?_) λ c6 h0=>?_
 ·refine nx 7 rfl (oLl (f:=bw) Z Z ?_);refine nx 3 rfl ?_;obtain ⟨Ht,h1,E3,hR0⟩:=bR h0;refine kEx 0 (λ Gx:Int=>Ht=.inl Gx) (λ Gx=>⟨[],[(1000000,[.p (eI Gx)]),(1000001,[.func (.func 201) [.ptr 1000000 0,.ptr 1000001 0]])]⟩) (λ Gx hv=>?_) ?_
  ·have h0:=E3 _ hv;exact nx 6 Z (mQo (oi h0) (ay _) Z Z Z Z (sr) ⟨⟨_,Z,⟨sr,trivial⟩⟩,⟨_,Z,⟨sr,trivial⟩⟩,trivial⟩)
  refine lG (λ (Hk:Int×Int)=>⟨[(1,.p (eI EE)),(3,.ptr 1000001 0),(23,.p (eL bw EJ.Ei)),(24,.p (eI (EJ.Ei.length:Int))),(25,.p (eI Hk.1))],[(1000000,[.p (eI Hk.2)]),(1000001,[.func (.func 201) [.ptr 1000000 0,.ptr 1000001 0]])]⟩) (λ m (Hk:Int×Int)=>fk (gd n) EJ EE m Hk.1 Hk.2) Y (0,cap_0+1) h1 (gE rfl rfl) ?_;rintro m ⟨F5,I3⟩ h1;replace h1:fk (gd n) EJ EE (m+1) F5 I3=some Ht:=h1;rw [fk] at h1;refine nx 5 rfl (fD [26] h1 rfl (λ G7 h1=>?_) λ G7 h1=>?_)
  ·refine nx 6 Z (oE h1 ar.BY Z Z Y λ FD h1=>?_);refine nx 9 Z (oA h1 Z Z λ Fv h1=>?_);refine bd h1 λ EY Ir h1=>mO Z (u7 [1000000,1000001] [] 102000 102000 (G0 (lat EJ.Ei F5) (EE+1) I3 _ Ir) Z Z Z Z Z Z ⟨sr,sr,sr,sr,trivial⟩ Z Z ⟨⟨_,Z,⟨sr,trivial⟩⟩,⟨_,Z,⟨sr,trivial⟩⟩,trivial⟩ Z Z Z Z Z Z Z Z Tryz.call201 Z Z ?_);refine nx 7 Z (fN [35] h1 Z (λ GX h1=>?_) λ GX h1=>?_)
   ·refine nx 3 Z (oA h1 Z Z λ G3 h1=>?_);exact nx 2 Z (eX (F5+1,EY.2) h1 (gE Z Z))
   exact nx 7 Z (mQo (hR0 _ (oi h1).symm) (ay _) Z Z Z Z (sr) ⟨⟨_,Z,⟨sr,trivial⟩⟩,⟨_,Z,⟨sr,trivial⟩⟩,trivial⟩)
  exact nx 2 Z (eXi _ (oi h1).symm (gE Z Z))
 exact nx 7 Z (mQo (oi h0) (ay _) Z Z Z Z (sr) ⟨⟨_,Z,⟨sr,trivial⟩⟩,⟨_,Z,⟨sr,trivial⟩⟩,trivial⟩)
def lL (n:Nat)(EJ:ar):Option Int :=(gd n EJ 1 0).bind λ r1=>some r1.1
theorem tl (n:Nat)(EJ:ar)(r:Int)(h0:lL n EJ=some r):aF Tryz.prog 174 [.agg (ar.cs EJ)] (·=.p (eI r)):=by
 unfold lL at h0;refine aZ good Tryz.func174 Z Z Z λ w0=>mP (λ v:Int=>.p (eI v)) ?_;refine nx 16 Z (mO Z (nq Z Z Z Z ?_));refine nx 6 Z (bd h0 λ r1 e2 h0=>?_);refine mO Z (u7 [3,4] [] 101000 101000 (rp _ EJ 1 0 _ e2) Z Z Z Z Z Z ⟨sr,sr,sr,sr,trivial⟩ Z Z ⟨⟨_,Z,⟨sr,trivial⟩⟩,⟨_,Z,⟨sr,trivial⟩⟩,trivial⟩ Z Z Z Z Z Z Z Z Tryz.call201 Z Z ?_);exact nx 3 Z (mQ (oi h0) Z (sr))
end Go.Ab.R06
end
