/- Texts of the proof, one behind the other. No statement is proved here. -/
import Derived.Lib.IndexMore
import Derived.Test.YtaiecfcflcphmaaGreatDoorCards
import Derived.Test.YtaiecfcflcphmaaGreatDoorTie
import Derived.WalkKit
import Derived.SizedLaws
import Derived.ProofKit
import Derived.OpenShut
import Derived.ShutString
import Derived.LaidMore
import Derived.Stop.Joined
import Derived.Deep.DeepHandedRow
import Derived.Deep.DeepWitnessRowRef
import Derived.Test.YtaiecfcflcphmaaGreatDoorZ15Aa
import Derived.Test.YtaiecfcflcphmaaGreatDoorZ15Ab
import Derived.Test.YtaiecfcflcphmaaGreatDoorZ15Ac
import Derived.Test.YtaiecfcflcphmaaGreatDoorZ15Ad
import Derived.Test.YtaiecfcflcphmaaGreatDoorZ15Ae
import Derived.Test.YtaiecfcflcphmaaGreatDoorZ15Af
import Derived.Test.YtaiecfcflcphmaaGreatDoorZ15Ag
section
namespace Go.Ab.R06
open Go.Ab Go.Ab.RB Go.Lib
theorem zx (s:Bk)(hs:s.length<=1000000000000000):∀ (k i:Nat),i+k=s.length->Ev2 (λ _ m=>dO s m (i:Int)) (·=if oZ (rt s) i k then .inl () else .inr false):=by
 intro k
 induction k with
 | zero=>
  intro i hi;refine aJ ?_;simp only [dO];refine aR O (ak rfl)
 | succ k ih=>
  intro i hi;refine aJ ?_;simp only [dO];refine aS O (aI O ?_);have hb:byt s i=((s.getD i 0).toNat:Int):=nk s i;rw [hb];have hor:=AO (s.getD i 0);have hok:=lF s i;rw [py,tW] at hok;refine aN (!rt s i) ?_ ?_
  ·generalize s.getD i 0=b at hor hok ⊢;generalize rt s i=o at hok ⊢;generalize iOr .u8 ((b.toNat:Nat):Int) 32=v at hor ⊢;have hT:(qp b=true)->o=true:=λ h=>hok.2 (.inl ((py b).1 h));have mk:∀ x:Bool,(x=true↔¬ (((97<=b.toNat/\b.toNat<=122)\/(65<=b.toNat/\b.toNat<=90)\/b.toNat=95)\/(i≠0/\48<=b.toNat/\b.toNat<=57)))->x=!o:=λ x hx=>eqB (by rw [hx,<- hok]; simp);refine aI O (bv (λ h=>ak (mk _ ?_)) (λ h=>bv (λ h1=>?_) (λ h1=>bv (λ h2=>?_) (λ h2=>ak (mk _ ?_)))))
   ·simp; omega
   ·refine bv (λ h3=>ak (mk _ ?_)) (λ h3=>aI O (bv (λ h4=>ak (mk _ ?_)) (λ h4=>aI O (ak (mk _ ?_)))))
    ·simp; omega
    ·simp; omega
    ·rw [decide_eq_true_eq]; omega
   ·refine bv (λ h3=>ak (mk _ ?_)) (λ h3=>aI O (bv (λ h4=>ak (mk _ ?_)) (λ h4=>aI O (ak (mk _ ?_)))))
    ·simp; omega
    ·simp; omega
    ·rw [decide_eq_true_eq]; omega
   ·simp; omega
  ·cases hk:rt s i with
   | false=>exact aS G (ak (by simp [oZ,hk]))
   | true=>
    refine aR G (aI (bb O O) ?_);have:=ih (i+1) O;rw [Int.natCast_add,Int.natCast_one] at this;simpa [oZ,hk] using this
theorem zw (s:Bk)(hs:s.length<=1000000000000000):Ev2 (λ n _=>fO n s) (·=cM s):=by
 simp only [fO];have h:=zx s hs s.length 0 O;have hi:=ol s
 cases ha:oZ (rt s) 0 s.length with
 | false=>
  rw [ha] at h hi;refine jh false (bN h) (eqB ?_);rw [hi]; simp
 | true=>
  rw [ha] at h hi;refine ee () (bN h) ?_;refine d6 (·=cM s) (bv (λ h=>ak (eqB ?_)) (λ h=>ak (eqB ?_))) (λ t ht=>ak ht)
  ·rw [hi]; simp [h]
  ·rw [hi,decide_eq_true_eq]; simp [h]; omega
theorem pN (s:Bk)(hs:s.length<=cH):Ev2 (λ n _=>fO n s) (·=cM s):=zw s (by unfold cH at hs; omega)
theorem pO (s:Bk):Ev2 (λ n _=>dp n s) (·=cM s):=by
 by_cases hs:s.length<=1000000
 ·exact rj s O
 ·have hi:cM s=false:=by
   cases h:cM s with
   | false=>rfl
   | true=>have:=((ol s).1 h).2.1; omega
  have E2:s≠[]:=λ h=>by subst h; simp at hs
  simp only [dp,hi];exact aN true (aR E2 (aS O (ak rfl))) (aS rfl (ak rfl))
theorem Ca (s:Bk):Ev2 (λ n _=>im n s) (·=(decide (s.length<=4096)&&validD s)):=by
 by_cases hs:s.length<=1000000
 ·exact vE s O
 ·simp only [im];exact aS O (ak (by simp; omega))
def uu:Bk->Bool|a::b::r=>(a==36&&b==123)||uu (b::r)|_=>false
theorem qH:∀ s:Bk,Lib.contains s [36,123]=uu s
 | []=>rfl
 | [a]=>by
  unfold Lib.contains Lib.index;simp [List.isPrefixOf,Lib.index,uu]
 | a::b::r=>by
  have ih:=qH (b::r);have hge:=Lib.index_ge (b::r) [36,123];unfold Lib.contains at ih ⊢;rw [uu,<- ih,Lib.index];by_cases h:([36,123]:Bk).isPrefixOf (a::b::r)=true
  ·rw [if_pos h];simp [List.isPrefixOf] at h;simp [<- h.1,<- h.2]
  ·rw [if_neg h]
   have h2:(a==36&&b==123)=false:=by
    simp [List.isPrefixOf] at h;simp only [Bool.and_eq_false_imp,beq_iff_eq,beq_eq_false_iff_ne];exact λ e1 e2=>h e1.symm e2.symm
   rw [h2,Bool.false_or];by_cases h3:Lib.index (b::r) [36,123]=-1
   ·rw [if_pos (by simp [h3]),h3]
   ·rw [if_neg (by simpa using h3)];simp only [decide_eq_decide];omega
theorem vI (s:Bk)(hs:s.length<=1000000):∀ (k i:Nat),i+k=s.length->Ev2 (λ _ m=>da s m (i:Int)) (·=if uu (s.drop i)=true then .inr true else .inl ()):=by
 intro k
 induction k with
 | zero=>
  intro i hi;refine aJ ?_;simp only [da];refine aI (bb O O) (aR O (ak ?_));rw [rg O]; rfl
 | succ k ih=>
  intro i hi;refine aJ ?_;simp only [da];refine aI (bb O O) (bv (λ h=>?_) (λ h=>?_))
  ·have h1:i+1<s.length:=by omega
   have e1:s.drop i=s.getD i 0::s.getD (i+1) 0::s.drop (i+2):=by
    rw [List.drop_eq_getElem_cons O,List.drop_eq_getElem_cons h1];simp [List.getD_eq_getElem?_getD,List.getElem?_eq_getElem (show i<s.length by omega),List.getElem?_eq_getElem h1]
   have e2:s.drop (i+1)=s.getD (i+1) 0::s.drop (i+2):=by
    rw [List.drop_eq_getElem_cons h1];simp [List.getD_eq_getElem?_getD,List.getElem?_eq_getElem h1]
   have b1:byt s (i:Int)=((s.getD i 0).toNat:Int):=nk s i
   have b2:byt s ((i:Int)+1)=((s.getD (i+1) 0).toNat:Int):=by
    have:=nk s (i+1)
    rwa [Int.natCast_add,Int.natCast_one] at this
   refine aN (s.getD i 0==36&&s.getD (i+1) 0==123) ?_ ?_
   ·rw [b1,b2];generalize s.getD i 0=x;generalize s.getD (i+1) 0=y;refine aI O (bv (λ h2=>aI (bb O O) (aI O (ak ?_))) (λ h2=>ak ?_))
    ·have:x=36:=UInt8.toNat_inj.1 (by show x.toNat=36; omega);subst this;simp only [BEq.rfl,Bool.true_and];by_cases h3:y=123
     ·subst h3; rfl
     ·have:¬ ((y.toNat:Int)=123):=λ e=>h3 (UInt8.toNat_inj.1 (by show y.toNat=123; omega));simp [h3,this]
    ·have:x≠36:=λ e=>h2 (by subst e; rfl);simp [this]
   ·rw [e1,uu,<- e2]
    cases hc:(s.getD i 0==36&&s.getD (i+1) 0==123)
    ·refine aR G (aI (bb O O) ?_);simp only [Bool.false_or];exact bO (P:=λ j=>Ev2 (λ _ m=>da s m j) _) (ih (i+1) O)
    ·exact aS Z (ak G)
  ·refine ak ?_;have:(s.drop i).length<=1:=by rw [List.length_drop]; omega
   match hd:s.drop i,this with
   | [],_=>rfl
   | [a],_=>rfl
theorem vV (s:Bk)(hs:s.length<=1000000):Ev2 (λ n _=>ji n s) (·=uu s):=by
 simp only [ji];have h:=bN (f:=λ _ m=>da s m 0) (vI s hs s.length 0 O);rw [List.drop_zero] at h
 cases ht:uu s
 ·rw [ht] at h; exact ee () h (ak rfl)
 ·rw [ht] at h; exact jh true h rfl
def vQ (s:Bk):Bool:=!(decide (s.length<=4096)&&validD s)||uu s
theorem CK (l:List Bk)(b:av)(t:Int)(hl:(lat b.Ar t).Df=l)(hb:l.length<=1000000000000000):∀ (k j:Nat),j+k=l.length ->
  Ev2 (λ _ m=>eD b t m (j:Int)) (·=if (l.drop j).any vQ=true then .inr (.inr 1) else .inl ()):=by
 intro k
 induction k with
 | zero=>
  intro j hj;refine aJ ?_;simp only [eD,hl];refine aR O (ak ?_);rw [rg O]; rfl
 | succ k ih=>
  intro j hj;refine aJ ?_;simp only [eD,hl];refine aS O (aI O ?_);refine aN (vQ (lat l (j:Int))) ?_ ?_
  ·generalize lat l (j:Int)=s;rw [BA];refine aN _ (ak Z) ?_;unfold vQ
   cases hv:(decide (s.length<=4096)&&validD s)
   ·exact aS Z (ak Z)
   ·refine aR G ?_;simp only [strings_Contains,qH];have:s.length<=4096:=by simp at hv; exact hv.1
    exact aN (uu s) (aI O (ak Z)) (ak Z)
  ·rw [cX l O,List.any_cons]
   cases hq:vQ (lat l (j:Int))
   ·refine aR G (aI (bb O O) ?_);simp only [Bool.false_or];exact bO (P:=λ j=>Ev2 (λ _ m=>eD b t m j) _) (ih (j+1) O)
   ·exact aS Z (ak G)
theorem CY (l:List Bk)(b:av)(t:Int)(hl:(lat b.Ar t).Df=l)(hb:l.length<=1000000000000000):∀ (k j:Nat),j+k=l.length ->
  Ev2 (λ n m=>d7 n b t m (j:Int)) (·=if (l.drop j).any vQ=true then .inr (.inr 1) else .inl ()):=by
 intro k
 induction k with
 | zero=>
  intro j hj;refine aJ ?_;simp only [d7,hl];refine aR O (ak ?_);rw [rg O]; rfl
 | succ k ih=>
  intro j hj;refine aJ ?_;simp only [d7,hl];refine aS O ?_;refine aN (vQ (lat l (j:Int))) ?_ ?_
  ·refine aI O (aN _ (Ca _) ?_);generalize lat l (j:Int)=s;unfold vQ
   cases hv:(decide (s.length<=4096)&&validD s)
   ·exact aS Z (ak Z)
   ·have:s.length<=4096:=by simp at hv; exact hv.1
    exact aR G (aI O (aN (uu s) (vV s O) (ak Z)))
  ·rw [cX l O,List.any_cons]
   cases hq:vQ (lat l (j:Int))
   ·refine aR G (aI (bb O O) ?_);simp only [Bool.false_or];exact bO (P:=λ j=>Ev2 (λ n m=>d7 n b t m j) _) (ih (j+1) O)
   ·exact aS Z (ak G)
def o0:List ac->List Bk->Int|[],_=>0|a::r,ns=>if cM a.By=false then 7 else if a.By∈ns then 8 else if chk a.Ej=0 then o0 r (ns++[a.By]) else chk a.Ej
theorem rV {α:Type}:∀ (L:List (Bk×α)) (k:Bk) (v:α) (k':Bk),j2 (pA L k v) k'=if k=k' then some v else j2 L k'
 | [],k,v,k'=>by simp [pA,j2]
 | (j,u)::r,k,v,k'=>by
  simp only [pA];by_cases e:j=k
  ·subst e; rw [if_pos rfl]; simp only [j2];by_cases e2:j=k' <;> simp [e2]
  ·rw [if_neg e]; simp only [j2];rw [rV r k v k'];by_cases e2:j=k'
   ·subst e2; simp [show ¬ k=j from λ q=>e q.symm]
   ·simp [e2]
theorem yT {a:ac}{r:List ac}{ns:List Bk}(h:cM a.By=false):o0 (a::r) ns=7:=by rw [o0,if_pos h]
theorem wX {a:ac}{r:List ac}{ns:List Bk}(h:cM a.By=true)(h2:a.By∈ns):o0 (a::r) ns=8:=by rw [o0,if_neg (by rw [h]; decide),if_pos h2]
theorem wT {a:ac}{r:List ac}{ns:List Bk}(h:cM a.By=true)(h2:¬ a.By∈ns)(h3:¬ chk a.Ej=0):o0 (a::r) ns=chk a.Ej:=by rw [o0,if_neg (by rw [h]; decide),if_neg h2,if_neg h3]
theorem za {a:ac}{r:List ac}{ns:List Bk}(h:cM a.By=true)(h2:¬ a.By∈ns)(h3:chk a.Ej=0):o0 (a::r) ns=o0 r (ns++[a.By]):=by rw [o0,if_neg (by rw [h]; decide),if_neg h2,if_pos h3]
theorem Cp (l:List ac)(hb:∀ a∈l,Sz a.Ej)(hn:∀ a∈l,a.By.length<=cH)(hl:l.length<=1000000000000000):∀ (k i:Nat) (seen:List (Bk×Bool)),i+k=l.length->(∀ x,(j2 seen x).getD false=decide (x∈(l.take i).map ac.By)) ->
  Ev2 (λ n m=>cR n l m seen (i:Int)) (·=if o0 (l.drop i) ((l.take i).map ac.By)=0 then .inl () else .inr (o0 (l.drop i) ((l.take i).map ac.By))):=by
 intro k
 induction k with
 | zero=>
  intro i seen hi hs;refine aJ ?_;simp only [cR];refine aR O (ak ?_);rw [rg O]; rfl
 | succ k ih=>
  intro i seen hi hs;have hm:lat l (i:Int)∈l:=dX O
  have ht:(l.take (i+1)).map ac.By=(l.take i).map ac.By++[(lat l (i:Int)).By]:=by
   rw [lw l i O,List.take_succ_eq_append_getElem O,List.map_append]; rfl
  refine aJ ?_;simp only [cR];rw [cX l O];refine aS O (aI O (aN _ (pN _ (hn _ hm)) ?_))
  cases h1:cM (lat l (i:Int)).By
  ·rw [yT h1]; exact aS rfl (ak (by rw [if_neg (by decide)]))
  ·refine aR G ?_;rw [hs];by_cases h2:(lat l (i:Int)).By∈(l.take i).map ac.By
   ·refine aS (by simpa using h2) (ak ?_);rw [wX h1 h2,if_neg (by decide)]
   ·refine aR (by simpa using h2) (aN _ (CR (hb _ hm)) ?_);by_cases h3:chk (lat l (i:Int)).Ej=0
    ·refine aS h3 (aI (bb O O) ?_);rw [za h1 h2 h3,<- ht];refine bO (P:=λ j=>Ev2 (λ n m=>cR n l m _ j) _) (ih (i+1) _ O (λ x=>?_));rw [rV,ht];by_cases h4:(lat l (i:Int)).By=x
     ·simp [h4]
     ·have h5:¬ x=(lat l (i:Int)).By:=λ e=>h4 e.symm;rw [if_neg h4,hs];simp [h5]
    ·refine aR h3 (ak ?_);rw [wT h1 h2 h3,if_neg h3]
theorem CE (l:List ac)(hb:∀ a∈l,Sz a.Ej)(hn:∀ a∈l,a.By.length<=cH)(hl:l.length<=1000000000000000):Ev2 (λ n _=>iK n l) (·=o0 l []):=by
 simp only [iK];have h:=bN (f:=λ n m=>cR n l m ([]:List (Bk×Bool)) 0) (Cp l hb hn hl l.length 0 [] O (λ x=>by simp [j2]));simp only [List.drop_zero,List.take_zero,bx] at h;by_cases h0:o0 l []=0
 ·rw [if_pos h0] at h; exact ee () h (ak h0.symm)
 ·rw [if_neg h0] at h; exact jh _ h rfl
theorem CC (b:av)(i:Nat)(hi:i<b.A'.length)(hl:b.A'.length<=1000000000000000):∀ (k j:Nat),j+k=i ->
  Ev2 (λ _ m=>d8 b (i:Int) m (j:Int)) (·=if (lat b.A' (i:Int)).By∈((b.A'.take i).drop j).map ac.By then .inr (.inr 8) else .inl ()):=by
 intro k
 induction k with
 | zero=>
  intro j hj;refine aJ ?_;simp only [d8];refine aR O (ak ?_);rw [rg (by rw [sm]; omega)]; rfl
 | succ k ih=>
  intro j hj;refine aJ ?_;simp only [d8]
  have e1:(b.A'.take i).drop j=lat b.A' (j:Int)::(b.A'.take i).drop (j+1):=by
   rw [List.drop_eq_getElem_cons (by rw [sm]; omega),lw b.A' j O,List.getElem_take]
  rw [e1,aq];refine aS O (aI O (bv (λ h=>ak ?_) (λ h=>aI (bb O O) ?_)))
  ·rw [if_pos (by rw [h]; exact List.mem_cons_self ..)]
  ·have h2:∀ c:List Bk,((lat b.A' (i:Int)).By∈(lat b.A' (j:Int)).By::c)=((lat b.A' (i:Int)).By∈c):=λ c=>by
    rw [List.mem_cons];exact propext ⟨λ e=>e.resolve_left (λ e=>h e.symm),.inr⟩
   simp only [h2];exact bO (P:=λ j=>Ev2 (λ _ m=>d8 b (i:Int) m j) _) (ih (j+1) O)
theorem CB (b:av)(hb:∀ a∈b.A',Sz a.Ej)(hl:b.A'.length<=1000000000000000):∀ (k i:Nat),i+k=b.A'.length ->
  Ev2 (λ n m=>d9 n b m (i:Int)) (·=if o0 (b.A'.drop i) ((b.A'.take i).map ac.By)=0 then .inl () else .inr (o0 (b.A'.drop i) ((b.A'.take i).map ac.By))):=by
 intro k
 induction k with
 | zero=>
  intro i hi;refine aJ ?_;simp only [d9];refine aR O (ak ?_);rw [rg O]; rfl
 | succ k ih=>
  intro i hi;have hm:lat b.A' (i:Int)∈b.A':=dX O
  have ht:(b.A'.take (i+1)).map ac.By=(b.A'.take i).map ac.By++[(lat b.A' (i:Int)).By]:=by
   rw [lw b.A' i O,List.take_succ_eq_append_getElem O,List.map_append]; rfl
  refine aJ ?_;simp only [d9];rw [cX b.A' O];refine aS O (aI O (aN _ (pO _) ?_))
  cases h1:cM (lat b.A' (i:Int)).By
  ·rw [yT h1]; exact aS rfl (ak (by rw [if_neg (by decide)]))
  ·refine aR G ?_;have hq:=bN (f:=λ _ m=>d8 b (i:Int) m 0) (CC b i O hl i 0 O);rw [List.drop_zero] at hq;by_cases h2:(lat b.A' (i:Int)).By∈(b.A'.take i).map ac.By
   ·rw [if_pos h2] at hq;refine jh _ hq ?_;rw [wX h1 h2,if_neg (by decide)]
   ·rw [if_neg h2] at hq;refine ee _ hq (aN _ (CU (hb _ hm)) ?_);by_cases h3:chk (lat b.A' (i:Int)).Ej=0
    ·refine aS h3 (aI (bb O O) ?_);rw [za h1 h2 h3,<- ht];exact bO (P:=λ j=>Ev2 (λ n m=>d9 n b m j) _) (ih (i+1) O)
    ·refine aR h3 (ak ?_);rw [wT h1 h2 h3,if_neg h3]
theorem wG:∀ b,av.Bd b->∀ d:Nat,d<=32->∃ x:Int,Ev2 (λ n _=>fc n b (d:Int)) (·=x)/\Ev2 (λ n _=>ep n b (d:Int)) (·=x):=by
 refine av.Bd.ind (λ b hb ih=>?_);intro d hd;have la:=hb.bAttrs;have lb:=hb.bBlocks;unfold cH at la lb
 have blocks:∀ (k i:Nat),i+k=b.Ar.length->∃ x:Unit⊕Int,Ev2 (λ n m=>dc n (fc n) b (d:Int) m (i:Int)) (·=x)/\Ev2 (λ n m=>cJ n (ep n) b (d:Int) m (i:Int)) (·=x):=by
  intro k
  induction k with
  | zero=>
   intro i hi;refine ⟨.inl (),aJ ?_,aJ ?_⟩
   ·simp only [dc]; exact aR O (ak rfl)
   ·simp only [cJ]; exact aR O (ak rfl)
  | succ k ihk=>
   intro i hi;have hm:lat b.Ar (i:Int)∈b.Ar:=dX O;have hlb:=(hb.eBlocks _ hm).bLabels;unfold cH at hlb
   cases h1:cM (lat b.Ar (i:Int)).Eg
   ·refine ⟨.inr 7,aJ ?_,aJ ?_⟩
    ·simp only [dc];refine aS O (aI O (aN _ (pN _ (hb.eBlocks _ hm).bType) ?_));rw [h1]; exact aS rfl (ak rfl)
    ·simp only [cJ];refine aS O (aI O (aN _ (pO _) ?_));rw [h1]; exact aS rfl (ak rfl)
   ·have hp:=bN (f:=λ _ m=>eD b (i:Int) m 0) (CK _ b (i:Int) Z O (lat b.Ar (i:Int)).Df.length 0 O);have hr:=bN (f:=λ n m=>d7 n b (i:Int) m 0) (CY _ b (i:Int) Z O (lat b.Ar (i:Int)).Df.length 0 O);rw [List.drop_zero] at hp hr
    cases h2:(lat b.Ar (i:Int)).Df.any vQ
    ·rw [h2] at hp hr;by_cases h3:d=32
     ·refine ⟨.inr 4,aJ ?_,aJ ?_⟩
      ·simp only [dc];refine aS O (aI O (aN _ (pN _ (hb.eBlocks _ hm).bType) ?_));rw [h1]; exact aR G (ee () hp (aS O (ak rfl)))
      ·simp only [cJ];refine aS O (aI O (aN _ (pO _) ?_));rw [h1]; exact aR G (ee () hr (aS O (ak rfl)))
     ·obtain ⟨y,hy1,hy2⟩:=ih _ hm (d+1) O;rw [Int.natCast_add,Int.natCast_one] at hy1 hy2;by_cases h4:y=0
      ·subst h4;obtain ⟨x,Nm,Nl⟩:=ihk (i+1) O;rw [Int.natCast_add,Int.natCast_one] at Nm Nl;refine ⟨x,aJ ?_,aJ ?_⟩
       ·simp only [dc];refine aS O (aI O (aN _ (pN _ (hb.eBlocks _ hm).bType) ?_));rw [h1]; exact aR G (ee () hp (aR O (aI (bb O O) (aN _ hy1 (aS rfl (aI (bb O O) Nm))))))
       ·simp only [cJ];refine aS O (aI O (aN _ (pO _) ?_));rw [h1]; exact aR G (ee () hr (aR O (aI (bb O O) (aN _ hy2 (aS rfl (aI (bb O O) Nl))))))
      ·refine ⟨.inr y,aJ ?_,aJ ?_⟩
       ·simp only [dc];refine aS O (aI O (aN _ (pN _ (hb.eBlocks _ hm).bType) ?_));rw [h1]; exact aR G (ee () hp (aR O (aI (bb O O) (aN _ hy1 (aR h4 (ak rfl))))))
       ·simp only [cJ];refine aS O (aI O (aN _ (pO _) ?_));rw [h1]; exact aR G (ee () hr (aR O (aI (bb O O) (aN _ hy2 (aR h4 (ak rfl))))))
    ·rw [h2] at hp hr;refine ⟨.inr 1,aJ ?_,aJ ?_⟩
     ·simp only [dc];refine aS O (aI O (aN _ (pN _ (hb.eBlocks _ hm).bType) ?_));rw [h1]; exact aR G (jh _ hp rfl)
     ·simp only [cJ];refine aS O (aI O (aN _ (pO _) ?_));rw [h1]; exact aR G (jh _ hr rfl)
 have EH:∀ a∈b.A',Sz a.Ej:=λ a ha=>Ec (hb.eAttrs a ha).bExpr;have hap:=CE b.A' EH (λ a ha=>(hb.eAttrs a ha).bName) O;have har:=bN (f:=λ n m=>d9 n b m 0) (CB b EH O b.A'.length 0 O);simp only [List.drop_zero,List.take_zero,bx] at har;obtain ⟨x,Nm,Nl⟩:=blocks b.Ar.length 0 O;by_cases h0:o0 b.A' []=0
 ·rw [if_pos h0] at har
  cases x with
  | inl u=>
   refine ⟨0,fJ ?_,fJ ?_⟩
   ·simp only [fc];exact aN _ hap (aS h0 (ee u (bN (f:=λ n m=>dc n (fc n) b (d:Int) m 0) Nm) (ak rfl)))
   ·simp only [ep];exact ee () har (ee u (bN (f:=λ n m=>cJ n (ep n) b (d:Int) m 0) Nl) (ak rfl))
  | inr y=>
   refine ⟨y,fJ ?_,fJ ?_⟩
   ·simp only [fc];exact aN _ hap (aS h0 (jh y (bN (f:=λ n m=>dc n (fc n) b (d:Int) m 0) Nm) rfl))
   ·simp only [ep];exact ee () har (jh y (bN (f:=λ n m=>cJ n (ep n) b (d:Int) m 0) Nl) rfl)
 ·rw [if_neg h0] at har;refine ⟨o0 b.A' [],fJ ?_,fJ ?_⟩
  ·simp only [fc];exact aN _ hap (aR h0 (ak rfl))
  ·simp only [ep];exact jh _ har rfl
end Go.Ab.R06
end
