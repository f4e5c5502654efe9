/- Texts of the proof, one behind the other. No statement is proved here. -/
import Derived.WalkKit
import Derived.Test.YtapfhipodpbflaaGreatDoorCards
import Derived.Test.YtapfhipodpbflaaGreatDoorTie
import Derived.SizedLaws
import Derived.ProofKit
import Derived.OpenShut
import Derived.ShutString
import Derived.LaidMore
import Derived.Stop.Joined
import Derived.Deep.DeepHandedRow
import Derived.Deep.DeepWitnessRowRef
import Derived.Test.YtapfhipodpbflaaGreatDoorZ46Sa
import Derived.Test.YtapfhipodpbflaaGreatDoorZ46Sb
import Derived.Test.YtapfhipodpbflaaGreatDoorZ46Sc
import Derived.Test.YtapfhipodpbflaaGreatDoorZ46Sd
import Derived.Test.YtapfhipodpbflaaGreatDoorZ46Se
section
namespace Go.Ab.R06
open Go.Ab Go.Ab.RB Go.Lib
theorem dM {σ ρ:Type}(F:Nat->Nat->Int->σ->Option ρ)(len:Nat)(I:Nat->σ->Prop){P:ρ->Prop}
  (step:∀ (i:Nat) (s:σ),i<len->I i s->(∀ s',I (i+1) s'->Ev2 (λ n m=>F n m ((i:Int)+1) s') P)->Ev2 (λ n m=>F n (m+1) (i:Int) s) P)
  (fin:∀ s,I len s->Ev2 (λ n m=>F n (m+1) (len:Int) s) P):∀ (s:σ),I 0 s->Ev2 (λ n m=>F n m 0 s) P:=by
 have loop:∀ (k i:Nat) (s:σ),i+k=len->I i s->Ev2 (λ n m=>F n m (i:Int) s) P:=by
  intro k
  induction k with
  | zero=>
   intro i s hi h;obtain rfl:i=len:=by omega
   exact bQ (fin s h)
  | succ k ih=>
   intro i s hi h;exact bQ (step i s O h (λ s' h'=>se (P:=λ j=>Ev2 (λ n m=>F n m j s') P) (ih (i+1) s' O h')))
 exact λ s h=>loop len 0 s O h
theorem nM {ρ:Type}(F:Nat->Nat->Int->Option (Unit⊕ρ))(len:Nat)(I:Nat->Prop)(Q:ρ->Prop)
  (step:∀ (i:Nat),i<len->I i->∀ P:Unit⊕ρ->Prop,(∀ e,Q e->P (.inr e))->(I (i+1)->Ev2 (λ n m=>F n m ((i:Int)+1)) P)->Ev2 (λ n m=>F n (m+1) (i:Int)) P)
  (fin:Ev2 (λ n m=>F n (m+1) (len:Int)) (·=.inl ())) (h0:I 0):Ev2 (λ n m=>F n m 0) (λ r=>(r=.inl ()/\I len)\/∃ e,r=.inr e/\Q e):=by
 refine dM (λ n m i (_:Unit)=>F n m i) len (λ i _=>I i) (P:=λ r=>(r=.inl ()/\I len)\/∃ e,r=.inr e/\Q e) (λ i _ hi h k=>step i hi h _ (λ e he=>.inr ⟨e,rfl,he⟩) (λ h'=>k () h')) (λ _ h=>gM fin (λ r hr=>.inl ⟨hr,h⟩)) () h0
theorem nT {α β:Type}{P:α->Prop}{g:Nat->Nat->Option (Unit⊕α)}{k:Nat->Nat->Unit->Option α}{I:Prop}{Q:α->Prop}(h:Ev2 g (λ r=>(r=.inl ()/\I)\/∃ e,r=.inr e/\Q e))
  (h1:I->Ev2 (λ n m=>k n m ()) P) (h2:∀ e,Q e->P e) (_:β->β):Ev2 (λ n m=>jn (g n m) (k n m)) P :=
 ny (gM h (λ r hr=>by
  rcases hr with ⟨rfl,h⟩|⟨e,rfl,h⟩
  ·exact h1 h
  ·exact h2 e h))
theorem xI {v:ak}(hb:ak.Bd v):Ev2 (λ n _=>cG n v) (·=v):=by
 have hW:a6<=140737488355328:=by decide
 induction hb with
 | @mk v bKind h2 eElems h1 eNames ih=>
  refine fC ?_;simp only [cG];refine av O (ar (λ h=>?_) (λ h=>av O ?_))
  ·have he:v.AG=[]:=by simpa using h
   refine az () ?_ (ac (by cases v; simp only [ak.AG] at he; subst he; rfl));refine bM (f:=λ n m=>fk (cG n) m) (bQ ?_);simp only [fk];exact bb G (ac (by trivial))
  ·refine az v.AG (bM (f:=λ n m=>dm (cG n) v m 0 v.AG) ?_) (ac (by cases v; rfl));refine dM (λ n m i (l:List ak)=>dm (cG n) v m i l) v.AG.length (λ _ l=>l=v.AG) (λ i l hi hl k=>?_) (λ l hl=>?_) _ rfl
   ·subst hl;simp only [dm];refine bo O (av O (az _ (ih _ (Go.Ab.cC O)) (av O (av (aZ O O) ?_))));exact k _ (by rw [ez _ _ hi,Int.toNat_natCast]; exact pE _ _ hi)
   ·subst hl;simp only [dm];exact bb O (ac rfl)
def s6 (l:List ax):Prop:=l.length<=10/\∀ a∈l,a.AA.length<=100
theorem fI {α:Type} [Inhabited α] (l:List α){i:Nat}(h:i<l.length):l.take (i+1)=l.take i++[lat l (i:Int)]:=by
 rw [ez _ _ h,List.take_succ_eq_append_getElem h]
theorem rN {l:List ax}(hl:l.length<=64)(hb:∀ a∈l,ak.Bd a.AF):Ev2 (λ n _=>gk n l) (·=ak.mk 6 (l.map ax.AF) (l.map ax.AA)):=by
 simp only [gk];refine az (l.map ax.AF,l.map ax.AA) (bM (f:=λ n m=>cS n l m 0 [] []) ?_) (ac rfl);refine dM (λ n m i (s:List ak×List Bk)=>cS n l m i s.1 s.2) l.length (λ i s=>s=((l.take i).map ax.AF,(l.take i).map ax.AA)) (λ i s hi hs k=>?_) (λ s hs=>?_) ([],[]) rfl
 ·subst hs;simp only [cS];refine bo O (av O (av (by simp only [bx,sm,List.length_singleton]; omega) (az _ (xI (hb _ (Go.Ab.cC O))) (av (by simp only [bx,sm,List.length_singleton]; omega) (av (aZ O O) ?_)))));exact k (_,_) (by simp only [fI l hi,List.map_append,d4,py])
 ·subst hs;simp only [cS];exact bb O (ac (by simp only [List.take_length]))
mutual
def lf:ak->Nat|ak.mk _ l _=>1+gS l
def gS:List ak->Nat|[]=>0|x::r=>lf x+gS r
end
theorem ru (v:ak):lf v=1+gS v.AG:=by cases v; simp only [lf,ak.AG]
theorem pL:∀ {l:List ak} {x:ak},x∈l->lf x<=gS l
 | y::r,x,h=>by
  rcases ur.1 h with rfl|h
  ·simp only [gS]; omega
  ·have:=pL h; simp only [gS]; omega
theorem xh {v:ak}(hb:ak.Bd v):∀ (nodes levels:Int),0<=nodes->nodes<=1000000->-1000000<=levels->levels<=1000000 ->
  Ev2 (λ n _=>eR n v nodes levels) (λ r=>-1<=r/\r<=nodes/\(0<=r->r=nodes-(lf v:Int))):=by
 induction hb with
 | @mk x bKind bItems eItems bKeys eKeys ih=>
  intro nodes levels h1 h2 h3 h4;have hl:=bItems;unfold a6 at hl;refine fC ?_;simp only [eR];refine az (decide (nodes<1\/levels<1)) (ar (λ h=>ac (by simp [h])) (λ h=>ac (by simp [h]))) (ar (λ _=>ac ⟨by omega,by omega,by omega⟩) (λ h=>?_));have h:¬ (nodes<1\/levels<1):=λ q=>h (decide_eq_true q);refine av (aZ O O) ?_
  have loop:∀ (k i:Nat) (c:Int),i+k=x.AG.length->-1<=c->c<=1000000->Ev2 (λ n m=>dA (eR n) x levels m c (i:Int)) (λ s=>-1<=s/\s<=c/\(0<=s->s=c-(gS (x.AG.drop i):Int))):=by
   intro k
   induction k with
   | zero=>
    intro i c hi h6 h7;refine bQ ?_;simp only [dA];refine az false (bb O (ac rfl)) (bb G (ac ⟨h6,by omega,λ _=>?_⟩));rw [List.drop_eq_nil_of_le O]; simp [gS]
   | succ k ihk=>
    intro i c hi h6 h7;refine bQ ?_;simp only [dA];refine az (decide (0<=c)) (bo O (ac rfl)) (ar (λ h8=>?_) (λ h8=>ac ⟨h6,by omega,λ h=>absurd (by simpa using h) h8⟩));have h8:0<=c:=by simpa using h8
    refine av O (av (aZ O O) ?_);refine aM _ (ih _ (Go.Ab.cC O) c (levels-1) h8 h7 O O) (λ q hq=>?_);refine av (aZ O O) ?_;refine gM (se (P:=λ j=>Ev2 (λ n m=>dA (eR n) x levels m q j) _) (ihk (i+1) q O hq.1 O)) (λ s hs=>⟨hs.1,by omega,λ h=>?_⟩);rw [d8 _ O];have a1:=hs.2.2 h;have a2:=hq.2.2 O;simp only [gS];omega
  refine aM _ (bM (f:=λ n m=>dA (eR n) x levels m (nodes-1) 0) (loop x.AG.length 0 (nodes-1) O O O)) (λ s hs=>ac ⟨hs.1,by omega,λ h=>?_⟩);have:=hs.2.2 h;rw [ru];simp only [List.drop_zero] at this;omega
theorem wu {v:ak}(hb:ak.Bd v):lf v<=100000->Ev2 (λ n _=>eq n v) (λ r=>0<=r/\r<=(lf v:Int)*9000000000000):=by
 induction hb with
 | @mk x bKind bItems eItems bKeys eKeys ih=>
  intro hn;have hl:=bItems;have hk:=bKeys;unfold a6 at hl hk;rw [ru] at hn ⊢;refine fC ?_;simp only [eq]
  have loop:∀ (k i:Nat) (c:Int),i+k=x.AG.length->0<=c->c+(gS (x.AG.drop i):Int)*9000000000000<=((1+gS x.AG:Nat):Int)*9000000000000->Ev2 (λ n m=>di (eq n) x m c (i:Int)) (λ s=>0<=s/\s<=((1+gS x.AG:Nat):Int)*9000000000000):=by
   intro k
   induction k with
   | zero=>
    intro i c hi h6 h7;refine bQ ?_;simp only [di];exact bb O (ac ⟨h6,by omega⟩)
   | succ k ihk=>
    intro i c hi h6 h7;have hd:=d8 x.AG (i:=i) O;have hm:lat x.AG (i:Int)∈x.AG:=List.mem_of_mem_drop (hd ▸ List.mem_cons_self);have hle:=pL hm;rw [hd] at h7;simp only [gS] at h7;refine bQ ?_;simp only [di];refine bo O (av O (aM _ (ih _ hm O) (λ q hq=>?_)));refine av (aZ O O) (av (aZ O O) ?_);exact se (P:=λ j=>Ev2 (λ n m=>di (eq n) x m (c+q) j) _) (ihk (i+1) (c+q) O O O)
  refine aM _ (bM (f:=λ n m=>di (eq n) x m (x.AC.length:Int) 0) (loop x.AG.length 0 (x.AC.length:Int) O O  (by simp only [List.drop_zero]; omega))) (λ s hs=>ac hs)
theorem wI {v:ak}(hb:ak.Bd v)(nodes:Int)(h1:0<=nodes)(h2:nodes<=100000):Ev2 (λ n _=>jx n v nodes) (λ r=>r=true->(lf v:Int)<=nodes):=by
 simp only [jx];refine aM (λ r=>r=true->(lf v:Int)<=nodes) ?_ (λ r hr=>ac hr);refine aM _ (xh hb nodes 40 h1 O (by decide) (by decide)) (λ r hr=>ar (λ h=>?_) (λ h=>ac (λ q=>by cases q)));have:=hr.2.2 h;exact aM _ (wu hb O) (λ q hq=>av (aZ O O) (ac (λ _=>by omega)))
theorem pt (l:List Bk)(x:Bk)(hl:l.length<=1000000000000000):Ev2 (λ n _=>aY n l x) (λ r=>0<=r.1/\r.1<=(l.length:Int)/\(r.2=true->r.1<(l.length:Int)/\lat l r.1=x)):=by
 simp only [aY]
 have loop:∀ (k i j:Nat),j-i<=k->i<=j->j<=l.length->Ev2 (λ _ m=>aF l x m (i:Int) (j:Int)) (λ r=>0<=r/\r<=(l.length:Int)):=by
  intro k
  induction k with
  | zero=>
   intro i j hk h2 h3;refine bQ ?_;simp only [aF];exact bb O (ac O)
  | succ k ih=>
   intro i j hk h2 h3;refine bQ ?_;simp only [aF];rw [wP i j O];refine ar (λ hij=>?_) (λ hij=>ac O);by_cases hm:Op.bytesLess (lat l (((i+j) / 2:Nat):Int)) x=true
   ·refine az ((((i+j) / 2+1:Nat):Int),(j:Int)) ?_ (ih _ j O O  h3);refine av (aZ O O) (av (by decide) (av (aZ O O) (av O (az _ (dd (pq _ _) Z) (bo hm (av (aZ O O) (ac ?_)))))));rw [Int.natCast_add]; rfl
   ·refine az ((i:Int),(((i+j) / 2:Nat):Int)) ?_ (ih i _ O O O);exact av (aZ O O) (av (by decide) (av (aZ O O) (av O (az _ (dd (pq _ _) Z) (bb hm (ac Z))))))
 refine aM _ (bM (f:=λ _ m=>aF l x m 0 (l.length:Int)) (loop l.length 0 l.length O O O)) (λ r hr=>?_);refine aM (λ b=>b=true->r<(l.length:Int)/\lat l r=x) ?_ (λ b hb=>ac ⟨hr.1,hr.2,hb⟩);refine ar (λ h=>av O (ar (λ h2=>ac (λ _=>⟨h,h2⟩)) (λ _=>av O ?_))) (λ _=>ac (λ q=>by cases q));have nn:∀ y:Bk,slices_isNaN_string y=some false:=λ y=>by unfold slices_isNaN_string; simp
 exact az _ (dd (nn _) rfl) (bb (by decide) (ac (λ q=>by cases q)))
structure pJ (s:ap):Prop where
 a:s6 s.AB
 n:s.Ax.length<=10
 m:∀ x∈s.Ax,s6 x.AB/\x.AA.length<=100
structure BdS (s:ap):Prop where
 a:∀ x∈s.AB,ak.Bd x.AF
 n:∀ k∈s.Ax,∀ x∈k.AB,ak.Bd x.AF
theorem nh {α:Type}{l:List α}{i:Nat}{x y:α}(h:y∈jZ l i x):y∈l\/y=x:=by
 unfold jZ at h;rcases List.mem_append.1 h with h|h
 ·exact .inl (List.mem_of_mem_take h)
 ·rcases ur.1 h with h|h
  ·exact .inr h
  ·exact .inl (List.mem_of_mem_drop h)
theorem lV {α:Type}{l:List α}{i:Nat}{x:α}(h:i<=l.length):(jZ l i x).length=l.length+1:=by
 unfold jZ; simp only [cl,n8,sm,List.length_drop]; omega
theorem y5 {s:ap}(hs:pJ s)(hb:BdS s):Ev2 (λ n _=>fo n s) (λ r=>r.AC.length<=20/\∀ x∈r.AC,x.length<=100):=by
 have hn:=hs.n;have ha:=hs.a.1;simp only [fo];refine az _ (rN O hb.a) ?_;refine aM (λ r=>r.2.length<=20/\∀ x∈r.2,x.length<=100) (bM (f:=λ n m=>dU n s m 0 (s.AB.map ax.AF) (s.AB.map ax.AA)) ?_) (λ r hr=>ac hr);refine dM (λ n m i (t:List ak×List Bk)=>dU n s m i t.1 t.2) s.Ax.length (λ i t=>t.1.length=t.2.length/\t.2.length=s.AB.length+i/\∀ x∈t.2,x.length<=100) (λ i t hi ht k=>?_) (λ t ht=>?_) (s.AB.map ax.AF,s.AB.map ax.AA) ?_
 ·obtain ⟨h1,h2,h3⟩:=ht;have hm:lat s.Ax (i:Int)∈s.Ax:=Go.Ab.cC O;have hk:=hs.m _ hm;have Eu:=hk.1.1;simp only [dU];refine bo O (av O (aM _ (pt t.2 _ O) (λ r hr=>?_)));obtain ⟨r1,r2,_⟩:=hr;obtain ⟨j,hj⟩:∃ j:Nat,r.1=j:=⟨r.1.toNat,by omega⟩
  unfold dz;refine az (jZ t.2 j (lat s.Ax (i:Int)).AA) (av O (av Z (av O (ac (by rw [hj]; rfl))))) ?_;refine az _ (rN O (hb.n _ hm)) ?_;unfold cL;refine az (jZ t.1 j (ak.mk 4 [ak.mk 6 ((lat s.Ax (i:Int)).AB.map ax.AF) ((lat s.Ax (i:Int)).AB.map ax.AA)] [])) (av O (av Z (av O (ac (by rw [hj]; rfl))))) ?_;refine av (aZ O O) (k (_,_) ⟨?_,?_,λ x hx=>?_⟩)
  ·show (jZ t.1 j _).length=(jZ t.2 j _).length;rw [lV (show j<=t.1.length by omega),lV (show j<=t.2.length by omega),h1]
  ·show (jZ t.2 j _).length=_;rw [lV (show j<=t.2.length by omega)]; omega
  ·rcases nh hx with h|rfl
   ·exact h3 x h
   ·exact hk.2
 ·obtain ⟨h1,h2,h3⟩:=ht;simp only [dU];exact bb O (ac ⟨by simp only; omega,h3⟩)
 ·refine ⟨by simp,by simp,λ x hx=>?_⟩;obtain ⟨a,ha,rfl⟩:=List.mem_map.1 hx;exact hs.a.2 a ha
theorem sM (c:Int):Ev2 (λ _ _=>gN c) (λ _=>True):=by
 unfold gN;exact aM (λ _=>True) (by repeat' (first|exact ac trivial|refine ar (λ _=>?_) (λ _=>?_))) (λ _ _=>ac trivial)
theorem sk (s:Bk):Ev2 (λ n _=>ec n s) (λ _=>True):=by
 simp only [ec];refine aM (λ r=>r=false->s.length<=64) (ar (λ _=>ac (λ q=>by cases q)) (λ h=>ar (λ _=>ac (λ q=>by cases q)) (λ h2=>av ?_ (aM _ (sM _) (λ _ _=>ac (λ _=>by omega)))))) (λ r hr=>ar (λ _=>ac trivial) (λ h=>?_))
 ·have:=List.length_pos_iff.2 h; omega
 have hl:=hr (by simpa using h);refine nT (I:=True) (Q:=λ _=>True) (bM (f:=λ _ m=>cm s m 0) ?_) (λ _=>ac trivial) (λ _ _=>trivial) (id:Nat->Nat);refine nM (λ _ m i=>cm s m i) s.length (λ _=>True) (λ _=>True) (λ i hi _ P h1 h2=>?_) ?_ trivial
 ·simp only [cm];refine bo O (aM (λ _=>True) (av O (aM _ (sM _) (λ _ _=>ar (λ _=>av O (ar (λ _=>ac trivial) (λ _=>av O (ac trivial)))) (λ _=>ac trivial)))) (λ r _=>ar (λ _=>ac (h1 _ trivial)) (λ _=>av (aZ O O) (h2 trivial))))
 ·simp only [cm];exact bb O (ac rfl)
theorem vZ (t:ak):Ev2 (λ _ _=>iG t) (λ _=>True):=by
 unfold iG
 repeat' (first|exact ac trivial|refine ar (λ _=>?_) (λ _=>?_)|refine aM (λ _=>True) ?_ (λ _ _=>?_))
theorem wN {t:ak}(hb:ak.Bd t):∀ level:Int,0<=level->level<=1000->Ev2 (λ n _=>eN n t level) (λ _=>True):=by
 induction hb with
 | @mk t bKind h2 eElems h1 eNames ih=>
  intro level l1 l2;unfold a6 at h1 h2;refine fC ?_;simp only [eN];refine ar (λ _=>ac trivial) (λ hl=>aM _ (vZ t) (λ b _=>ar (λ _=>ac trivial) (λ _=>?_)));refine nT (I:=True) (Q:=λ _=>True) (bM (f:=λ n m=>dJ n t m 0) ?_) (λ _=>?_) (λ _ _=>trivial) (id:Nat->Nat)
  ·refine nM (λ n m i=>dJ n t m i) t.AC.length (λ _=>True) (λ _=>True) (λ i hi _ P h1 h2=>?_) ?_ trivial
   ·simp only [dJ];refine bo O (av O (aM _ (sk _) (λ r _=>ar (λ _=>ac (h1 _ trivial)) (λ _=>aM (λ _=>True) (ar (λ _=>av (aZ O O) (av O (av O (ac trivial)))) (λ _=>ac trivial)) (λ _ _=>ar (λ _=>ac (h1 _ trivial)) (λ _=>av (aZ O O) (h2 trivial)))))))
   ·simp only [dJ];exact bb O (ac rfl)
  refine nT (I:=True) (Q:=λ _=>True) (bM (f:=λ n m=>dG (eN n) t level m 0) ?_) (λ _=>ac trivial) (λ _ _=>trivial) (id:Nat->Nat);refine nM (λ n m i=>dG (eN n) t level m i) t.AG.length (λ _=>True) (λ _=>True) (λ i hi _ P h1 h2=>?_) ?_ trivial
  ·simp only [dG];refine bo O (av O (av (aZ O O) (aM _ (ih _ (Go.Ab.cC O) (level+1) O O) (λ r _=>ar (λ _=>av (aZ O O) (h2 trivial)) (λ _=>ac (h1 _ trivial))))))
  ·simp only [dG];exact bb O (ac rfl)
theorem tn {t:ak}(hb:ak.Bd t):Ev2 (λ n _=>ir n t) (λ _=>True):=by
 simp only [ir];exact aM _ (wN hb 1 (by decide) (by decide)) (λ _ _=>ac trivial)
theorem yD {a:ax}(hb:ak.Bd a.AF)(x:Bk)(b:Bool):Ev2 (λ n _=>j6 n a x b) (λ _=>True):=by
 simp only [j6];refine aM _ (sk _) (λ _ _=>ar (λ _=>ac trivial) (λ _=>aM (λ _=>True) (ar (λ _=>ac trivial) (λ _=>ac trivial)) (λ _ _=>ar (λ _=>ac trivial) (λ _=>aM _ (tn hb) (λ _ _=>ar (λ _=>?_) (λ _=>ac trivial))))));refine aM (λ _=>True) (ar (λ _=>ac trivial) (λ _=>ac trivial)) (λ _ _=>ar (λ _=>ac trivial) (λ _=>aM (λ _=>True) (ar (λ _=>ar (λ _=>ac trivial) (λ _=>ac trivial)) (λ _=>ac trivial)) (λ _ _=>ar (λ _=>ac trivial) (λ _=>ac trivial))))
theorem sL {l:List ax}(hl:l.length<=64)(hb:∀ a∈l,ak.Bd a.AF)(c:Bool):Ev2 (λ n _=>iA n l c) (λ _=>True):=by
 simp only [iA];refine ny (bM (f:=λ n m=>dQ n l c m [] 0) ?_);refine dM (λ n m i (s:Bk)=>dQ n l c m s i) l.length (λ _ _=>True) (λ i s hi _ k=>?_) (λ s _=>?_) [] trivial
 ·simp only [dQ];refine bo O (av O (aM _ (yD (hb _ (Go.Ab.cC O)) _ _) (λ r _=>ar (λ _=>?_) (λ _=>ac trivial))));refine aM (λ _=>True) (ar (λ _=>av O (ar (λ _=>ac trivial) (λ _=>av O (ac trivial)))) (λ _=>ac trivial)) (λ _ _=>ar (λ _=>ac trivial) (λ _=>av O (av (aZ O O) (k _ trivial))))
 ·simp only [dQ];exact bb O (ac (ac trivial))
theorem vA {l:List ax}(hl:l.length<=64)(x:Bk):Ev2 (λ n _=>jg n l x) (λ _=>True):=by
 simp only [jg];refine ny (bM (f:=λ _ m=>eh l x m 0) ?_);refine dM (λ _ m i (_:Unit)=>eh l x m i) l.length (λ _ _=>True) (λ i s hi _ k=>?_) (λ s _=>?_) () trivial
 ·simp only [eh];exact bo O (av O (ar (λ _=>av O (ac trivial)) (λ _=>av (aZ O O) (k () trivial))))
 ·simp only [eh];exact bb O (ac (ac trivial))
theorem yp {s:ap}(hs:pJ s)(hb:BdS s)(i:Nat)(hi:i<s.Ax.length):Ev2 (λ n _=>j8 n s (i:Int)) (λ _=>True):=by
 have hn:=hs.n;have ha:=hs.a.1;have hm:lat s.Ax (i:Int)∈s.Ax:=Go.Ab.cC O;simp only [j8];refine av O (aM _ (sk _) (λ _ _=>ar (λ _=>ac trivial) (λ _=>aM (λ _=>True) (ar (λ _=>av (aZ O O) (av O (ac trivial))) (λ _=>ac trivial)) (λ _ _=>ar (λ _=>ac trivial) (λ _=>?_)))));refine aM _ (vA O _) (λ _ _=>ar (λ _=>ac trivial) (λ _=>aM (λ _=>True) (ar (λ _=>ac trivial) (λ _=>ar (λ _=>ac trivial) (λ _=>ac trivial))) (λ _ _=>ar (λ _=>ac trivial) (λ _=>ar (λ _=>ac trivial) (λ _=>?_)))));exact aM _ (sL O (hb.n _ hm) _) (λ _ _=>ac trivial)
theorem ut {l:List ax}(hl:l.length<=64):Ev2 (λ n _=>iV n l) (·=ak.mk 6 (l.map ax.AF) (l.map ax.AA)):=by
 simp only [iV];refine az (l.map ax.AF,l.map ax.AA) (bM (f:=λ _ m=>dl l m 0 [] []) ?_) (ac rfl);refine dM (λ _ m i (s:List ak×List Bk)=>dl l m i s.1 s.2) l.length (λ i s=>s=((l.take i).map ax.AF,(l.take i).map ax.AA)) (λ i s hi hs k=>?_) (λ s hs=>?_) ([],[]) rfl
 ·subst hs;simp only [dl];refine bo O (av O (av (by simp only [bx,sm,List.length_singleton]; omega) (av O (av (by simp only [bx,sm,List.length_singleton]; omega) (av (aZ O O) ?_)))));exact k (_,_) (by simp only [fI l hi,List.map_append,d4,py])
 ·subst hs;simp only [dl];exact bb O (ac (by simp only [List.take_length]))
theorem zO {l:List ax}(h:s6 l)(hb:∀ a∈l,ak.Bd a.AF):ak.Bd (ak.mk 6 (l.map ax.AF) (l.map ax.AA)):=by
 have h1:=h.1;refine .mk (aZ (by simp only [ak.Av]; omega) (by simp only [ak.Av]; omega)) (by simp only [ak.AG,bx]; unfold a6; omega) (λ y hy=>?_) (by simp only [ak.AC,bx]; unfold a6; omega) (λ y hy=>?_)
 ·simp only [ak.AG,List.mem_map] at hy;obtain ⟨a,ha,rfl⟩:=hy;exact hb a ha
 ·simp only [ak.AC,List.mem_map] at hy;obtain ⟨a,ha,rfl⟩:=hy;have:=h.2 a ha;unfold a6; omega
theorem x9 {s:ap}(hs:pJ s)(hb:BdS s):Ev2 (λ n _=>j2 n s) (λ r=>ak.Bd r):=by
 have hn:=hs.n;have ha:=hs.a.1;simp only [j2]
 let I:List ak×List Bk->Nat->Prop:=λ t k=>t.1.length=k/\t.2.length=k/\(∀ y∈t.1,ak.Bd y)/\∀ y∈t.2,y.length<=100
 refine aM (λ t=>I t (s.AB.length+s.Ax.length)) ?_ (λ t ht=>ac ?_)
 ·have loop:∀ (k i j:Nat) (t:List ak×List Bk),i<=s.AB.length->j<=s.Ax.length->i+j+k=s.AB.length+s.Ax.length->I t (i+j)->Ev2 (λ n m=>de n s m (i:Int) (j:Int) t.1 t.2) (λ t=>I t (s.AB.length+s.Ax.length)):=by
   intro k
   induction k with
   | zero=>
    intro i j t hi hj hk hI;refine bQ ?_;simp only [de];refine az false (bb O (ac (decide_eq_false O))) (bb (by decide) (ac ?_));rw [show s.AB.length+s.Ax.length=i+j by omega]; exact hI
   | succ k ih=>
    intro i j t hi hj hk hI;obtain ⟨t1,t2⟩:=t;obtain ⟨i1,i2,i3,i4⟩:=hI;simp only at i1 i2 i3 i4;refine bQ ?_;simp only [de];refine az true (ar (λ _=>ac rfl) (λ _=>ac (decide_eq_true O))) (bo rfl ?_);refine vE ?_;refine aM (λ b=>(b=true->i<s.AB.length)/\(b=false->j<s.Ax.length)) (ar (λ h=>ac ⟨λ _=>by omega,λ q=>by cases q⟩) (λ h=>ar (λ h2=>av O (av O (ac ⟨λ _=>by omega,λ _=>by omega⟩))) (λ h2=>ac ⟨λ q=>(by cases q),λ _=>by omega⟩))) (λ b hb2=>ar (λ h=>?_) (λ h=>?_))
    ·have hi':=hb2.1 h;refine av O (av (by simp only [List.length_singleton]; omega) (av O (av (by simp only [List.length_singleton]; omega) (av (aZ O O) (ac ?_)))));refine se (P:=λ z=>Ev2 (λ n m=>de n s m z (j:Int) _ _) _) (ih (i+1) j (_,_) O hj O ⟨by simp only [cl,List.length_singleton]; omega,by simp only [cl,List.length_singleton]; omega,λ y hy=>?_,λ y hy=>?_⟩)
     ·rcases List.mem_append.1 hy with hy|hy
      ·exact i3 y hy
      ·rw [List.mem_singleton.1 hy]; exact hb.a _ (Go.Ab.cC O)
     ·rcases List.mem_append.1 hy with hy|hy
      ·exact i4 y hy
      ·rw [List.mem_singleton.1 hy]; exact hs.a.2 _ (Go.Ab.cC O)
    ·have hj':=hb2.2 (by simpa using h);have hm:lat s.Ax (j:Int)∈s.Ax:=Go.Ab.cC O;have hk:=hs.m _ hm;have Eu:=hk.1.1;refine av O (av (by simp only [List.length_singleton]; omega) (av O (az _ (ut O) (av (by simp only [List.length_singleton]; omega) (av (aZ O O) (ac ?_))))));refine se (P:=λ z=>Ev2 (λ n m=>de n s m (i:Int) z _ _) _) (ih i (j+1) (_,_) hi O O  ⟨by simp only [cl,List.length_singleton]; omega,by simp only [cl,List.length_singleton]; omega,λ y hy=>?_,λ y hy=>?_⟩)
     ·rcases List.mem_append.1 hy with hy|hy
      ·exact i3 y hy
      ·rw [List.mem_singleton.1 hy];refine .mk (aZ (by simp only [ak.Av]; omega) (by simp only [ak.Av]; omega)) (by simp only [ak.AG,List.length_singleton]; unfold a6; omega) (λ y hy=>?_) (by simp only [ak.AC,qr]; omega) (λ y hy=>by cases hy);rw [List.mem_singleton.1 hy];exact zO hk.1 (hb.n _ hm)
     ·rcases List.mem_append.1 hy with hy|hy
      ·exact i4 y hy
      ·rw [List.mem_singleton.1 hy]; exact hk.2
  exact bM (f:=λ n m=>de n s m 0 0 [] []) (loop (s.AB.length+s.Ax.length) 0 0 ([],[]) O O O ⟨rfl,rfl,λ y hy=>by (cases hy),λ y hy=>by (cases hy)⟩)
 ·obtain ⟨i1,i2,i3,i4⟩:=ht;refine .mk (aZ (by simp only [ak.Av]; omega) (by simp only [ak.Av]; omega)) (by simp only [ak.AG]; unfold a6; omega) i3 (by simp only [ak.AC]; unfold a6; omega) (λ y hy=>?_);have:=i4 y hy;unfold a6; omega
theorem yg {s:ap}(hs:pJ s)(hb:BdS s):Ev2 (λ n _=>jC n s) (λ _=>True):=by
 have hn:=hs.n;have ha:=hs.a.1;simp only [jC];refine aM (λ _=>True) (ar (λ _=>ac trivial) (λ _=>ac trivial)) (λ _ _=>ar (λ _=>ac trivial) (λ _=>aM _ (sL (l:=s.AB) O hb.a _) (λ _ _=>ar (λ _=>?_) (λ _=>ac trivial))));refine nT (I:=True) (Q:=λ _=>True) (bM (f:=λ n m=>dW n s m 0) ?_) (λ _=>?_) (λ _ _=>trivial) (id:Nat->Nat)
 ·refine nM (λ n m i=>dW n s m i) s.Ax.length (λ _=>True) (λ _=>True) (λ i hi _ P h1 h2=>?_) ?_ trivial
  ·simp only [dW];exact bo O (aM _ (yp hs hb i hi) (λ r _=>ar (λ _=>av (aZ O O) (h2 trivial)) (λ _=>ac (h1 _ trivial))))
  ·simp only [dW];exact bb O (ac rfl)
 ·refine aM _ (vA (l:=s.AB) O _) (λ r _=>ar (λ _=>ac trivial) (λ _=>aM (λ _=>True) (ar (λ _=>ar (λ _=>ac trivial) (λ _=>ac trivial)) (λ _=>ac trivial)) (λ _ _=>ar (λ _=>ac trivial) (λ _=>?_))));exact aM _ (x9 hs hb) (λ t ht=>aM _ (tn ht) (λ _ _=>ac trivial))
theorem qZ {l:List ax}(hb:∀ a∈l,ak.Bd a.AF):Ev2 (λ n _=>iy n l) (λ r=>r=true->s6 l):=by
 simp only [iy];refine ar (λ _=>ac (λ q=>by cases q)) (λ hl=>?_);refine nT (I:=∀ j:Nat,j<l.length->(lat l (j:Int)).AA.length<=100) (Q:=λ e=>e=false) (bM (f:=λ n m=>dK n l m 0) ?_) (λ h=>ac (λ _=>⟨by omega,λ a ha=>?_⟩)) (λ e he q=>by rw [he] at q; cases q) (id:Nat->Nat)
 ·refine nM (λ n m i=>dK n l m i) l.length (λ i=>∀ j:Nat,j<i->(lat l (j:Int)).AA.length<=100) (λ e=>e=false) (λ i hi hI P h1 h2=>?_) ?_ (λ j hj=>by omega)
  ·simp only [dK];refine bo O (aM (λ r=>r=false->(lat l (i:Int)).AA.length<=100) (av O (ar (λ _=>ac (λ q=>by cases q)) (λ h=>av O (aM _ (wI (hb _ (Go.Ab.cC O)) 15 (by decide) (by decide)) (λ _ _=>ac (λ _=>by omega)))))) (λ r hr=>ar (λ _=>ac (h1 _ rfl)) (λ h=>av (aZ O O) (h2 (λ j hj=>?_)))));rcases Nat.lt_or_ge j i with h3|h3
   ·exact hI j h3
   ·obtain rfl:j=i:=by omega
    exact hr (by simpa using h)
  ·simp only [dK];exact bb O (ac rfl)
 ·obtain ⟨j,hj,rfl⟩:=List.getElem_of_mem ha;rw [<- ez l j hj];exact h j hj
theorem uo {s:ap}(hl:s.Ax.length<=10000000000000)(hb:BdS s):Ev2 (λ n _=>iJ n s) (λ r=>r=true->pJ s):=by
 simp only [iJ];refine aM (λ r=>r=false->s6 s.AB/\s.Ax.length<=10) (aM _ (qZ hb.a) (λ r hr=>ar (λ _=>ac (λ q=>by cases q)) (λ h=>ac (λ q=>⟨hr (nf h),by have:=of_decide_eq_false q; omega⟩)))) (λ r hr=>ar (λ _=>ac (λ q=>by cases q)) (λ h=>?_));obtain ⟨ha,hn⟩:=hr (by simpa using h);refine nT (I:=∀ j:Nat,j<s.Ax.length->s6 (lat s.Ax (j:Int)).AB/\(lat s.Ax (j:Int)).AA.length<=100) (Q:=λ e=>e=false) (bM (f:=λ n m=>dk n s m 0) ?_) (λ h=>?_) (λ e he q=>by rw [he] at q; cases q) (id:Nat->Nat)
 ·refine nM (λ n m i=>dk n s m i) s.Ax.length (λ i=>∀ j:Nat,j<i->s6 (lat s.Ax (j:Int)).AB/\(lat s.Ax (j:Int)).AA.length<=100) (λ e=>e=false) (λ i hi hI P h1 h2=>?_) ?_ (λ j hj=>by omega)
  ·simp only [dk];refine bo O (aM (λ r=>r=false->s6 (lat s.Ax (i:Int)).AB/\(lat s.Ax (i:Int)).AA.length<=100) (av O (aM _ (qZ (hb.n _ (Go.Ab.cC O))) (λ r hr=>ar (λ _=>ac (λ q=>by cases q)) (λ h=>av O (ac (λ q=>⟨hr (nf h),by have:=of_decide_eq_false q; omega⟩)))))) (λ r hr=>ar (λ _=>ac (h1 _ rfl)) (λ h=>av (aZ O O) (h2 (λ j hj=>?_)))));rcases Nat.lt_or_ge j i with h3|h3
   ·exact hI j h3
   ·obtain rfl:j=i:=by omega
    exact hr (by simpa using h)
  ·simp only [dk];exact bb O (ac rfl)
 ·have hs:pJ s:=⟨ha,hn,λ x hx=>by obtain ⟨j,hj,rfl⟩:=List.getElem_of_mem hx; rw [<- ez s.Ax j hj]; exact h j hj⟩
  exact aM _ (yg hs hb) (λ _ _=>ac (λ _=>hs))
def VV (v:aa):Prop:=GV v/\aa.Bd v
theorem VV.item {v x:aa}(h:VV v)(hx:x∈v.Ar):VV x:=⟨h.1.its _ hx,h.2.eItems _ hx⟩
theorem VV.kl {v:aa}(h:VV v):v.Aw.length<=1000000000000000:=by
 have:=h.2.bKeys;unfold a6 at this; omega
theorem VV.il {v:aa}(h:VV v):v.Ar.length<=1000000000000000:=by
 have:=h.2.bItems;unfold a6 at this; omega
theorem VV.with {v:aa}(h:VV v){l:List aa}(hl:l.length=v.Ar.length)(hx:∀ x∈l,VV x):VV (aa.mk v.Av v.Ay v.Az l v.Aw):=by
 have n:=h.1.node;refine ⟨.mk ⟨λ a b=>?_,n.kys,λ a=>(n.len a).trans hl.symm,n.inc,n.txt,n.z,n.s⟩ (λ x hm=>(hx x hm).1),.mk h.2.bKind h.2.bNum h.2.bStr (by simp only [aa.Ar,hl]; exact h.2.bItems) (λ x hm=>(hx x hm).2) h.2.bKeys h.2.eKeys⟩;have:=n.its a b;rw [this] at hl;exact List.length_eq_zero_iff.1 hl
theorem vH {k:Int}{s:Bk}(h5:k≠5)(hk:inR k)(h:s.length<=4096):VV (aa.mk k 0 s [] []):=by
 have z:∀ n:Nat,(0:Nat)*n<=a6:=λ n=>by rw [Nat.zero_mul]; exact Nat.zero_le _
 exact ⟨.mk ⟨λ _ _=>rfl,λ _=>rfl,λ q=>absurd q h5,trivial,λ k hk=>(by cases hk),λ q=>absurd q h5,h⟩ (λ x hx=>by cases hx),.mk hk (aZ (show (-9223372036854775808:Int)<=0 by decide) (show (0:Int)<=9223372036854775807 by decide)) (show s.length<=a6 by unfold a6; omega) (z 80) (λ x hx=>by cases hx) (z 16) (λ x hx=>by cases hx)⟩
theorem sA {s:Bk}(h:s.length<=4096):VV (aa.mk 3 0 s [] []):=vH (by decide) (aZ (by decide) (by decide)) h
theorem vt:VV (aa.mk 0 0 [] [] []):=vH (by decide) (aZ (by decide) (by decide)) G
theorem ud:∀ (N:Nat) (v:aa),SizeOf.sizeOf v<N->aa.Bd v->Ev2 (λ n _=>cH n v) (·=v):=by
 have hW:a6<=140737488355328:=by decide
 intro N
 induction N with
 | zero=>intro v h; omega
 | succ N ih=>
  intro v hv hb;have h1:=hb.bKeys; have h2:=hb.bItems;refine fC ?_;simp only [cH];refine av O (az v.Ar (fC ?_) (ac (by cases v; rfl)));simp only [jP];refine ar (λ h=>ac (by symm; exact List.length_eq_zero_iff.1 O)) (λ h=>av O (az v.Ar (bM (f:=λ n m=>dp (cH n) v.Ar m [] 0) ?_) (ac rfl)));refine dM (λ n m i (l:List aa)=>dp (cH n) v.Ar m l i) v.Ar.length (λ i l=>l=v.Ar.take i) (λ i l hi hl k=>?_) (λ l hl=>?_) [] rfl
  ·subst hl;have hm:lat v.Ar (i:Int)∈v.Ar:=Go.Ab.cC O;have hz:=pw hm;simp only [dp];refine bo O (av O (az _ (ih _ O (hb.eItems _ hm)) (av (by simp only [sm,List.length_singleton]; omega) (av (aZ O O) (k _ ?_)))));rw [fI _ hi,aa.eta]
  ·subst hl;simp only [dp];exact bb O (ac (List.take_length))
theorem xz {v:aa}(h:VV v):Ev2 (λ n _=>cH n v) (·=v):=ud _ v (Nat.lt_succ_self _) h.2
def kG:List Bk->List aa->Bk->Option aa|k::ks,x::xs,q=>if k=q then some x else kG ks xs q|_,_,_=>none
def g0:List Bk->List aa->Bk->aa->List aa|k::ks,x::xs,q,w=>if k=q then w::xs else x::g0 ks xs q w|_,xs,_,_=>xs
def cQ (v:aa)(q:Bk):Option aa:=if v.Av=5 then kG v.Aw v.Ar q else none
def gQ (v:aa)(q:Bk)(w:aa):aa:=aa.mk v.Av v.Ay v.Az (g0 v.Aw v.Ar q w) v.Aw
def vO:aa:=aa.mk 0 0 [] [] []
def isN (o:Option aa):aa×Bool:=match o with|some x=>(x,true)|none=>(vO,false)
def ofP (v:aa)(q:Bk):aa:=(cQ v q).getD vO
theorem oP:∀ (ks:List Bk) (xs:List aa) (q:Bk) (w:aa),(g0 ks xs q w).length=xs.length
 | [],xs,q,w=>by cases xs <;> rfl
 | _::_,[],q,w=>rfl
 | k::ks,x::xs,q,w=>by
  simp only [g0];split
  ·rfl
  ·simp only [n8,oP ks xs q w]
theorem sK:∀ (ks:List Bk) (xs:List aa) (q:Bk) (w y:aa),y∈g0 ks xs q w->y∈xs\/y=w
 | [],xs,q,w,y,h=>by cases xs <;> exact .inl h
 | _::_,[],q,w,y,h=>.inl h
 | k::ks,x::xs,q,w,y,h=>by
  simp only [g0] at h;split at h
  ·rcases ur.1 h with h|h
   ·exact .inr h
   ·exact .inl (List.mem_cons_of_mem _ h)
  ·rcases ur.1 h with h|h
   ·exact .inl (h ▸ List.mem_cons_self)
   ·rcases sK ks xs q w y h with h|h
    ·exact .inl (List.mem_cons_of_mem _ h)
    ·exact .inr h
theorem qb:∀ (ks:List Bk) (xs:List aa) (q:Bk) (y:aa),kG ks xs q=some y->y∈xs
 | [],xs,q,y,h=>by cases xs <;> cases h
 | _::_,[],q,y,h=>by cases h
 | k::ks,x::xs,q,y,h=>by
  simp only [kG] at h;split at h
  ·cases h; exact List.mem_cons_self
  ·exact List.mem_cons_of_mem _ (qb ks xs q y h)
theorem tN:∀ (ks:List Bk) (xs:List aa) (q p:Bk) (w:aa),kG ks (g0 ks xs q w) p=if p=q then (kG ks xs q).map (λ _=>w) else kG ks xs p
 | [],xs,q,p,w=>by cases xs <;> simp [kG]
 | _::_,[],q,p,w=>by simp [g0,kG]
 | k::ks,x::xs,q,p,w=>by
  have ih:=tN ks xs q p w;by_cases h:k=q
  ·subst h;by_cases h2:p=k
   ·subst h2; simp [g0,kG]
   ·have h3:¬ k=p:=λ e=>h2 e.symm;simp [g0,kG,h2,h3]
  ·by_cases h2:p=q
   ·subst h2;simp only [g0,kG,if_neg h,if_true] at ih ⊢;exact ih
   ·simp only [g0,kG,if_neg h,if_neg h2] at ih ⊢;by_cases h3:k=p
    ·simp only [h3,if_true]
    ·simp only [if_neg h3]; exact ih
theorem ta:∀ (ks:List Bk) (xs:List aa) (q:Bk) (w w':aa),g0 ks (g0 ks xs q w) q w'=g0 ks xs q w'
 | [],xs,q,w,w'=>by cases xs <;> rfl
 | _::_,[],q,w,w'=>rfl
 | k::ks,x::xs,q,w,w'=>by
  by_cases h:k=q
  ·simp only [g0,if_pos h]
  ·simp only [g0,if_neg h,ta ks xs q w w']
theorem rO:∀ (ks:List Bk) (xs:List aa) (q p:Bk) (w w':aa),p≠q->g0 ks (g0 ks xs q w) p w'=g0 ks (g0 ks xs p w') q w
 | [],xs,q,p,w,w',_=>by cases xs <;> rfl
 | _::_,[],q,p,w,w',_=>rfl
 | k::ks,x::xs,q,p,w,w',hn=>by
  by_cases h:k=q
  ·have h2:¬ k=p:=λ e=>hn (e.symm.trans h);simp only [g0,if_pos h,if_neg h2]
  ·by_cases h2:k=p
   ·simp only [g0,if_pos h2,if_neg h]
   ·simp only [g0,if_neg h,if_neg h2,rO ks xs q p w w' hn]
theorem get_put (v:aa)(q p:Bk)(w:aa):cQ (gQ v q w) p=if p=q then (cQ v q).map (λ _=>w) else cQ v p:=by
 have e1:(gQ v q w).Av=v.Av:=rfl;have e2:(gQ v q w).Aw=v.Aw:=rfl;have e3:(gQ v q w).Ar=g0 v.Aw v.Ar q w:=rfl;unfold cQ;rw [e1,e2,e3];by_cases h:v.Av=5
 ·rw [if_pos h,if_pos h,if_pos h]; exact tN _ _ _ _ _
 ·rw [if_neg h,if_neg h,if_neg h]; split <;> rfl
theorem sF {v x:aa}{q:Bk}(w:aa)(h:cQ v q=some x):cQ (gQ v q w) q=some w:=by rw [get_put,if_pos Z,h]; rfl
theorem pM {v:aa}{q p:Bk}(w:aa)(h:p≠q):cQ (gQ v q w) p=cQ v p:=by rw [get_put,if_neg h]
theorem yz (v:aa)(q:Bk)(w w':aa):gQ (gQ v q w) q w'=gQ v q w':=by
 unfold gQ; simp only [aa.Av,aa.Ay,aa.Az,aa.Aw,aa.Ar,ta]
theorem put_comm (v:aa){q p:Bk}(w w':aa)(h:p≠q):gQ (gQ v q w) p w'=gQ (gQ v p w') q w:=by
 unfold gQ; simp only [aa.Av,aa.Ay,aa.Az,aa.Aw,aa.Ar,rO _ _ q p w w' h]
theorem VV.get {v x:aa}{q:Bk}(h:VV v)(hx:cQ v q=some x):VV x:=by
 unfold cQ at hx;split at hx
 ·exact h.item (qb _ _ _ _ hx)
 ·cases hx
theorem VV.put {v w:aa}(q:Bk)(h:VV v)(hw:VV w):VV (gQ v q w):=by
 refine h.with (oP _ _ _ _) (λ x hx=>?_)
 rcases sK _ _ _ _ _ hx with hx|rfl
 ·exact h.item hx
 ·exact hw
theorem VV.of {v:aa}(h:VV v)(q:Bk):VV (ofP v q):=by
 unfold ofP
 cases hx:cQ v q with
 | some x=>exact h.get hx
 | none=>exact vt
theorem u7:∀ (ks:List Bk) (xs:List aa),ks.Pairwise (λ a b=>Op.bytesLess a b=true)->ks.length=xs.length->∀ (t:Nat) (ht:t<ks.length) (w:aa),kG ks xs ks[t]=xs[t]?/\g0 ks xs ks[t] w=xs.set t w
 | [],_,_,_,t,ht,_=>by simp at ht
 | _::_,[],_,h,_,_,_=>by simp at h
 | k::ks,x::xs,hp,hl,0,ht,w=>by simp [kG,g0]
 | k::ks,x::xs,hp,hl,t+1,ht,w=>by
  have hp2:=List.pairwise_cons.1 hp;have ht2:t<ks.length:=by simpa using ht
  have ih:=u7 ks xs hp2.2 (by simpa using hl) t ht2 w
  have BL:¬ k=ks[t]:=λ e=>by
   have:=hp2.1 ks[t] (List.getElem_mem ht2);rw [<- e,lD] at this; cases this
  simp only [List.getElem_cons_succ,kG,g0,if_neg BL,List.getElem?_cons_succ,List.set_cons_succ,ih.1,ih.2,and_self]
theorem rt:∀ (ks:List Bk) (xs:List aa) (q:Bk),q ∉ ks->kG ks xs q=none
 | [],xs,q,h=>by cases xs <;> rfl
 | _::_,[],q,h=>rfl
 | k::ks,x::xs,q,h=>by
  simp only [kG];rw [if_neg (λ e=>h (by rw [e]; exact List.mem_cons_self))];exact rt ks xs q (λ m=>h (List.mem_cons_of_mem _ m))
theorem yY {v:aa}(h:VV v)(q:Bk)(h5:v.Av=5):(∃ t:Nat,t<v.Aw.length/\t<v.Ar.length/\q=lat v.Aw (t:Int)/\cQ v q=some (lat v.Ar (t:Int))/\∀ w,g0 v.Aw v.Ar q w=v.Ar.set t w)\/(q ∉ v.Aw/\cQ v q=none):=by
 have hl:=h.1.node.len h5;by_cases hq:q∈v.Aw
 ·obtain ⟨t,ht,rfl⟩:=List.getElem_of_mem hq;have ha:=λ w=>u7 v.Aw v.Ar (uL h.1.node.inc) hl t ht w;refine .inl ⟨t,ht,by omega,(ez _ _ ht).symm,?_,λ w=>(ha w).2⟩;unfold cQ;rw [if_pos h5,(ha vO).1,ez _ _ (show t<v.Ar.length by omega),List.getElem?_eq_getElem]
 ·refine .inr ⟨hq,?_⟩;unfold cQ;rw [if_pos h5];exact rt _ _ _ hq
theorem ym {l:List Bk}(hl:l.length<=1000000000000000){q:Bk}(h:q ∉ l):Ev2 (λ n _=>aY n l q) (λ r=>r.2=false) :=
 gM (pt l q hl) (λ r hr=>by
  cases e:r.2 with
  | false=>rfl
  | true=>exact absurd ((hr.2.2 e).2 ▸ Go.Ab.cC ⟨hr.1,(hr.2.2 e).1⟩) h)
theorem sB {v:aa}(h:VV v)(q:Bk):Ev2 (λ n _=>fJ n v q) (·=isN (cQ v q)):=by
 simp only [fJ];by_cases h5:v.Av=5
 ·rcases yY h q h5 with ⟨t,t1,t2,rfl,e,_⟩|⟨hq,e⟩
  ·rw [e];refine az _ (xL h.kl h.1.node.inc t1) (az false (bo h5 (bb G (ac (decide_eq_false O)))) (bb (by decide) (av O ?_)));exact az _ (xz (h.item (Go.Ab.cC O))) (ac (congrArg (λ z=>(z,true)) (aa.eta _)))
  ·rw [e];exact aM _ (ym h.kl hq) (λ r hr=>az true (bo h5 (bo (by simp [hr]) (ac rfl))) (bo rfl (ac rfl)))
 ·have e:cQ v q=none:=by unfold cQ; rw [if_neg h5]
  rw [e];exact aM _ (pt v.Aw q h.kl) (λ r _=>az true (bb h5 (ac rfl)) (bo rfl (ac rfl)))
theorem vF {v w x:aa}(h:VV v)(hw:VV w){q:Bk}(hx:cQ v q=some x):Ev2 (λ n _=>jX n v q w) (·=gQ v q w):=by
 have h5:v.Av=5:=by
  unfold cQ at hx;split at hx
  ·assumption
  ·cases hx
 rcases yY h q h5 with ⟨t,t1,t2,rfl,e,es⟩|⟨hq,e⟩
 ·simp only [jX];refine az _ (xz h) (az _ (xL h.kl h.1.node.inc t1) (az false (bb (by simp only; omega) (bo rfl (ac (decide_eq_false (by simp only; omega))))) (bb (by decide) (bb G (az _ (xz hw) (av (by simp only; omega) (ac ?_)))))));unfold gQ pd;rw [es,Int.toNat_natCast]
 ·rw [e] at hx; cases hx
theorem sN {v:aa}(h:VV v)(q:Bk):Ev2 (λ n _=>gR n v q) (·=isN (cQ v q)):=by
 have hil:=h.il;have hkl:=h.kl;simp only [gR];refine ar (λ h5=>?_) (λ h5=>ac (by unfold cQ; rw [if_neg h5]; rfl));have hl:=h.1.node.len h5;rcases yY h q h5 with ⟨t,t1,t2,e0,e,_⟩|⟨hq,e⟩
 ·rw [e];refine sH (isN (some (lat v.Ar (t:Int)))) (bM (f:=λ _ m=>dr v q m 0) ?_) rfl;refine dM (λ _ m i (_:Unit)=>dr v q m i) v.Aw.length (λ i _=>i<=t) (λ i _ hi hle k=>?_) (λ _ hle=>absurd hle O) () (Nat.zero_le _);simp only [dr];refine az true (bo O (ac (decide_eq_true O))) (bo rfl (av O ?_));by_cases hit:i=t
  ·subst hit;exact bo e0.symm (av O (ac rfl))
  ·refine bb (λ q2=>?_) (av (aZ O O) (k () O));have:=qx h.1.node.inc (show i<t by omega) t1;rw [q2,<- e0,lD] at this; cases this
 ·rw [e];refine qh () (bM (f:=λ _ m=>dr v q m 0) ?_) (ac rfl);refine dM (λ _ m i (_:Unit)=>dr v q m i) v.Aw.length (λ i _=>True) (λ i _ hi _ k=>?_) (λ _ _=>?_) () trivial
  ·simp only [dr];exact az true (bo O (ac (decide_eq_true O))) (bo rfl (av O (bb (λ q2=>hq (q2 ▸ Go.Ab.cC O)) (av (aZ O O) (k () trivial)))))
  ·simp only [dr];exact az false (bb O (ac rfl)) (bb (by decide) (ac rfl))
theorem yV {v:aa}(h:VV v)(q:Bk):Ev2 (λ n _=>jE n v q) (·=ofP v q):=by
 simp only [jE];refine ar (λ h5=>az _ (sN h q) ?_) (λ h5=>ac (by unfold ofP cQ; rw [if_neg h5]; rfl));unfold ofP
 cases cQ v q with
 | some x=>exact bb (by simp [isN]) (ac Z)
 | none=>exact bo (by simp [isN]) (ac Z)
theorem xe {v w x:aa}(h:VV v){q:Bk}(hx:cQ v q=some x):Ev2 (λ n _=>iz n v q w) (·=gQ v q w):=by
 have hil:=h.il;have hkl:=h.kl;have b1:=h.2.bKeys;have b2:=h.2.bItems;unfold a6 at b1 b2
 have h5:v.Av=5:=by
  unfold cQ at hx;split at hx
  ·assumption
  ·cases hx
 have hl:=h.1.node.len h5;rcases yY h q h5 with ⟨t,t1,t2,e0,e,es⟩|⟨hq,e⟩
 ·have hk0:v.Aw[t]=q:=by rw [<- ez _ _ t1]; exact e0.symm
  simp only [iz];refine az (true,v.Ar.set t w,v.Aw) (bM (f:=λ _ m=>eG v q w m false 0 [] []) ?_) (az (v.Ar.set t w,v.Aw) (bb G (ac rfl)) (ac ?_))
  ·refine dM (λ _ m i (s:Bool×List aa×List Bk)=>eG v q w m s.1 i s.2.1 s.2.2) v.Aw.length (λ i s=>s=(decide (t<i),(v.Ar.set t w).take i,v.Aw.take i)) (λ i s hi hs k=>?_) (λ s hs=>?_) (false,[],[]) G
   ·subst hs;have hil':i<(v.Ar.set t w).length:=by rw [List.length_set]; omega
    have s1:(v.Ar.set t w).take (i+1)=(v.Ar.set t w).take i++[lat (v.Ar.set t w) (i:Int)]:=fI _ hil';have s2:v.Aw.take (i+1)=v.Aw.take i++[lat v.Aw (i:Int)]:=fI _ hi;have l1:((v.Ar.set t w).take i).length=i:=by rw [sm]; omega
    have l2:(v.Aw.take i).length=i:=by rw [sm]; omega
    simp only [eG];refine az true (bo O (ac (decide_eq_true O))) (bo rfl ?_);rcases Nat.lt_trichotomy i t with hlt|heq|hgt
    ·have hless:=qx h.1.node.inc hlt t1;rw [<- e0] at hless;have BL:¬ lat v.Aw (i:Int)=q:=λ q2=>by rw [q2,lD] at hless; cases hless
     refine az (false,(v.Ar.set t w).take (i+1),v.Aw.take (i+1)) ?_ (av (aZ O O) (k (_,_,_) (by rw [decide_eq_false O])));refine az (false,(v.Ar.set t w).take i,v.Aw.take i) (az false (bo (by rw [decide_eq_false O]; rfl) (av O (ac (by rw [hless]; rfl)))) (bb (by decide) (ac (by rw [decide_eq_false (show ¬ t<i by omega)])))) ?_;refine av O (bb BL (av O (av (by rw [l2,List.length_singleton]; omega) (av O (av (by rw [l1,List.length_singleton]; omega) (ac ?_))))));rw [s1,s2,ez _ _ hil',List.getElem_set_ne O,ez v.Ar i O]
    ·subst heq;refine az (true,(v.Ar.set i w).take (i+1),v.Aw.take (i+1)) ?_ (av (aZ O O) (k (_,_,_) (by rw [decide_eq_true O])));refine az (true,(v.Ar.set i w).take (i+1),v.Aw.take (i+1)) (az true (bo (by rw [decide_eq_false O]; rfl) (av O (ac (by rw [<- e0,lD]; rfl)))) (bo rfl (av (by rw [l2,List.length_singleton]; omega) (av (by rw [l1,List.length_singleton]; omega) (ac ?_))))) (av O (bo e0.symm (ac rfl)));rw [s1,s2,ez _ _ hil',List.getElem_set_self,<- e0]
    ·have hless:=qx h.1.node.inc hgt (show i<v.Aw.length from hi);rw [<- e0] at hless;have BL:¬ lat v.Aw (i:Int)=q:=λ q2=>by rw [q2,lD] at hless; cases hless
     refine az (true,(v.Ar.set t w).take (i+1),v.Aw.take (i+1)) ?_ (av (aZ O O) (k (_,_,_) (by rw [decide_eq_true O])));refine az (true,(v.Ar.set t w).take i,v.Aw.take i) (az false (bb (by rw [decide_eq_true O]; decide) (ac Z)) (bb (by decide) (ac (by rw [decide_eq_true (show t<i by omega)])))) ?_;refine av O (bb BL (av O (av (by rw [l2,List.length_singleton]; omega) (av O (av (by rw [l1,List.length_singleton]; omega) (ac ?_))))));rw [s1,s2,ez _ _ hil',List.getElem_set_ne O,ez v.Ar i O]
   ·subst hs;simp only [eG];refine az false (bb O (ac rfl)) (bb (by decide) (ac ?_));rw [decide_eq_true t1,List.take_length,List.take_of_length_le (by rw [List.length_set]; omega)]
  ·have z:=h.1.node.z h5;unfold gQ;rw [es,z.1,z.2,h5]
 ·rw [e] at hx; cases hx
mutual
def lj:aa->Bool|.mk k _ _ l _=>!decide (k=6)&&im l
def im:List aa->Bool|[]=>true|x::r=>lj x&&im r
end
theorem nG (v:aa):lj v=(!decide (v.Av=6)&&im v.Ar):=by cases v; simp only [lj,aa.Av,aa.Ar]; rfl
theorem oL {l:List aa}{i:Nat}(h:i<l.length):im (l.drop i)=(lj (lat l (i:Int))&&im (l.drop (i+1))):=by
 rw [d8 l h]; simp only [im]
theorem tw {v:aa}(hb:aa.Bd v):Ev2 (λ n _=>fQ n v) (·=lj v):=by
 induction hb with
 | @mk v bKind bNum bStr bItems eItems bKeys eKeys ih=>
  have hl:=bItems;unfold a6 at hl;refine fC ?_;simp only [fQ];rw [nG];refine az (!decide (v.Av=6)&&im v.Ar) (ar (λ h=>ac (by simp [h])) (λ h=>?_)) (ac Z);refine az (!im v.Ar) ?_ (ac (by simp [h]));unfold b9 cj;refine aM (λ r=>decide (0<=r)=!im v.Ar) ?_ (λ r hr=>ac hr);refine ny (bM (f:=λ n m=>aR v.Ar (λ x0=>fx n x0) m 0) ?_);refine dM (λ n m i (_:Unit)=>aR v.Ar (λ x0=>fx n x0) m i) v.Ar.length (λ i _=>im v.Ar=im (v.Ar.drop i)) (λ i _ hi hI k=>?_) (λ _ hI=>?_) () G
  ·simp only [aR];have hm:lat v.Ar (i:Int)∈v.Ar:=Go.Ab.cC O;refine bo O (av O (az (!lj (lat v.Ar (i:Int))) (fC ?_) ?_))
   ·simp only [fx];exact az _ (ih _ hm) (ac rfl)
   ·rw [oL hi] at hI;refine ar (λ h=>ac ?_) (λ h=>av (aZ O O) (k () ?_))
    ·simp only;rw [hI,nt h,Bool.false_and];simp
    ·rw [hI,nf h,Bool.true_and]
  ·simp only [aR];refine bb O (ac (ac ?_));rw [hI,List.drop_length]
   rfl
theorem rf {v:aa}(hb:aa.Bd v):Ev2 (λ n _=>et n v) (·=lj v):=by
 induction hb with
 | @mk v bKind bNum bStr bItems eItems bKeys eKeys ih=>
  have hl:=bItems;unfold a6 at hl;refine fC ?_;simp only [et];rw [nG];refine ar (λ h=>ac (by simp [h])) (λ h=>?_);refine ny (bM (f:=λ n m=>dS (et n) v m 0) ?_);refine dM (λ n m i (_:Unit)=>dS (et n) v m i) v.Ar.length (λ i _=>im v.Ar=im (v.Ar.drop i)) (λ i _ hi hI k=>?_) (λ _ hI=>?_) () G
  ·simp only [dS];have hm:lat v.Ar (i:Int)∈v.Ar:=Go.Ab.cC O;rw [oL hi] at hI;refine bo O (av O (az _ (ih _ hm) ?_));refine ar (λ h2=>ac ?_) (λ h2=>av (aZ O O) (k () ?_))
   ·simp only;rw [hI,nt h2,Bool.false_and,Bool.and_false]
   ·rw [hI,nf h2,Bool.true_and]
  ·simp only [dS];refine bb O (ac (ac ?_));rw [hI,List.drop_length];simp [h,im]
def d9 (a b:aa):Bool:=!eqV a b||!lj a||!lj b
theorem ws {a b:aa}(ha:aa.Bd a)(hb:aa.Bd b):Ev2 (λ n _=>g7 n a b) (·=d9 a b):=by
 simp only [g7];refine az (d9 a b) ?_ (ac rfl);unfold d9;refine az _ (uK ha b) (ar (λ h=>ac (by simp [nt h])) (λ h=>?_));refine az _ (tw ha) (ar (λ h2=>ac (by simp [nt h2])) (λ h2=>?_));exact az _ (tw hb) (ac (by simp [nf h,nf h2]))
theorem uR {a b:aa}(ha:aa.Bd a)(hb:aa.Bd b):Ev2 (λ n _=>iQ n a b) (·=d9 a b):=by
 simp only [iQ];refine az (d9 a b) ?_ (ac rfl);unfold d9;refine az _ (tF ha b) (ar (λ h=>ac (by simp [nt h])) (λ h=>?_));refine az _ (rf ha) (ar (λ h2=>ac (by simp [nt h2])) (λ h2=>?_));exact az _ (rf hb) (ac (by simp [nf h,nf h2]))
def eD (names:List Bk)(a b:aa):List Bk:=names.filter λ q=>d9 (ofP a q) (ofP b q)
def w5:aa:=aa.mk 3 0 [40,115,101,110,115,105,116,105,118,101,41] [] []
def seen (o:Option aa):Bool:=match o with|some x=>!decide (x.Av=0)|none=>false
def fR (v:aa)(a:ax):aa:=if a.AQ=true/\seen (cQ v a.AA)=true then gQ v a.AA w5 else v
def jz (v:aa)(l:List ax):aa:=l.foldl fR v
theorem xW:VV w5:=sA (by decide)
theorem iB {o:Option aa}(h:seen o=true):∃ x,o=some x/\x.Av≠0:=by
 cases o with
 | none=>cases h
 | some x=>exact ⟨x,Z,by simpa [seen] using h⟩
theorem VV.stepA {v:aa}(h:VV v)(a:ax):VV (fR v a):=by
 unfold R06.fR;split
 ·exact h.put _ xW
 ·exact h
theorem VV.hid {v:aa}(h:VV v):∀ l,VV (jz v l):=by
 intro l
 induction l generalizing v with
 | nil=>exact h
 | cons a l ih=>exact ih (h.stepA a)
theorem sa:∀ (l:List ax) (v w:aa) (q:Bk),(∃ a∈l,a.AQ=true/\a.AA=q)->seen (cQ v q)=true->w.Av≠0->jz (gQ v q w) l=jz v l
 | [],_,_,_,h,_,_=>by obtain ⟨a,ha,_⟩:=h; cases ha
 | a::l,v,w,q,h,hs,hw=>by
  obtain ⟨x,hx,hx0⟩:=iB hs;show jz (fR (gQ v q w) a) l=jz (fR v a) l;by_cases e:a.AA=q
  ·by_cases hsn:a.AQ=true
   ·have h1:fR (gQ v q w) a=fR v a:=by
     unfold fR;rw [if_pos ⟨hsn,by rw [e,sF w hx]; simpa [seen] using hw⟩,if_pos ⟨hsn,by rw [e]; exact hs⟩,e,yz]
    rw [h1]
   ·have h1:fR (gQ v q w) a=gQ v q w:=by unfold fR; rw [if_neg (λ z=>hsn z.1)]
    have h2:fR v a=v:=by unfold fR; rw [if_neg (λ z=>hsn z.1)]
    rw [h1,h2];refine sa l v w q ?_ hs hw;obtain ⟨b,hb,h3,h4⟩:=h;rcases ur.1 hb with rfl|hb
    ·exact absurd h3 hsn
    ·exact ⟨b,hb,h3,h4⟩
  ·have hg:cQ (gQ v q w) a.AA=cQ v a.AA:=pM w e
   have h1:fR (gQ v q w) a=gQ (fR v a) q w:=by
    unfold fR;rw [hg];split
    ·exact put_comm v w w5 e
    ·rfl
   have h2:cQ (fR v a) q=cQ v q:=by
    unfold fR;split
    ·exact pM w5 (λ z=>e z.symm)
    ·rfl
   rw [h1];refine sa l (fR v a) w q ?_ (by rw [h2]; exact hs) hw;obtain ⟨b,hb,h3,h4⟩:=h;rcases ur.1 hb with rfl|hb
   ·exact absurd h4 e
   ·exact ⟨b,hb,h3,h4⟩
theorem rA {v:aa}(h:VV v){l:List ax}(hl:l.length<=1000):Ev2 (λ n _=>gh n v l) (·=jz v l):=by
 simp only [gh];refine az ((jz v l).Av,(jz v l).Ay,(jz v l).Az,(jz v l).Ar,(jz v l).Aw) (bM (f:=λ n m=>cT n l m 0 v.Av v.Ay v.Az v.Ar v.Aw) ?_) (ac (aa.eta _));refine dM (λ n m i (s:aa)=>cT n l m i s.Av s.Ay s.Az s.Ar s.Aw) l.length (λ i s=>s=jz v (l.take i)) (λ i s hi hs k=>?_) (λ s hs=>?_) v rfl
 ·subst hs;have hv:=h.hid (l.take i);simp only [cT];rw [aa.eta]
  have e1:jz v (l.take (i+1))=fR (jz v (l.take i)) (lat l (i:Int)):=by
   rw [fI l hi]; unfold jz; rw [List.foldl_append]; rfl
  refine bo O (az ((jz v (l.take (i+1))).Av,(jz v (l.take (i+1))).Ay,(jz v (l.take (i+1))).Az,(jz v (l.take (i+1))).Ar,(jz v (l.take (i+1))).Aw) (av O ?_) (av (aZ O O) (k (jz v (l.take (i+1))) Z)));generalize jz v (l.take i)=u at hv e1;rw [e1];refine az _ (sB hv _) (az (decide ((lat l (i:Int)).AQ=true/\seen (cQ u (lat l (i:Int)).AA)=true)) ?_ (ar (λ h2=>?_) (λ h2=>ac ?_)))
  ·cases e:cQ u (lat l (i:Int)).AA with
   | none=>exact bb (by simp [isN]) (ac (by simp [seen]))
   | some x=>
    refine bo Z (ar (λ h3=>ac ?_) (λ h3=>ac (by simp [h3])));rw [show decide ((lat l (i:Int)).AQ=true/\seen (some x)=true)=seen (some x) from by simp [h3]]
    rfl
  ·have h2:=of_decide_eq_true h2;obtain ⟨x,hx,_⟩:=iB h2.2;refine az w5 (ac rfl) (az _ (vF hv xW hx) (ac ?_));unfold fR;rw [if_pos h2]
  ·have h2:¬ ((lat l (i:Int)).AQ=true/\seen (cQ u (lat l (i:Int)).AA)=true):=λ q=>h2 (decide_eq_true q);unfold fR;rw [if_neg h2]
 ·subst hs;simp only [cT];exact bb O (ac (by rw [List.take_length]))
def mu (l:List ax)(x:aa):aa:=if x.Av=5 then jz x l else x
def rn (v:aa)(l:List aa):aa:=aa.mk v.Av v.Ay v.Az l v.Aw
def gT (v:aa)(n:aL):aa:=match cQ v n.AA with
 | some l=>if l.Av=4 then gQ v n.AA (rn l (l.Ar.map (mu n.AB))) else v
 | none=>v
def fF (s:ap)(v:aa):aa:=if v.Av=5 then s.Ax.foldl gT (jz v s.AB) else v
theorem VV.hidX {x:aa}(h:VV x)(l:List ax):VV (mu l x):=by
 unfold R06.mu;split
 ·exact h.hid l
 ·exact h
theorem VV.withI {v:aa}(h:VV v)(l:List ax):VV (rn v (v.Ar.map (R06.mu l))):=by
 refine h.with (bx _) (λ x hx=>?_)
 obtain ⟨y,hy,rfl⟩:=List.mem_map.1 hx;exact (h.item hy).hidX l
theorem VV.stepN {v:aa}(h:VV v)(n:aL):VV (gT v n):=by
 unfold R06.gT;split
 ·rename_i l hl;split
  ·exact h.put _ ((h.get hl).withI _)
  ·exact h
 ·exact h
theorem VV.foldN {v:aa}(h:VV v):∀ l:List aL,VV (l.foldl R06.gT v):=by
 intro l
 induction l generalizing v with
 | nil=>exact h
 | cons a l ih=>exact ih (h.stepN a)
theorem VV.mask {v:aa}(h:VV v)(s:ap):VV (fF s v):=by
 unfold fF;split
 ·exact (h.hid _).foldN _
 ·exact h
theorem tf {l:List aa}(f:aa->aa){i:Nat}(hi:i<l.length):((l.take i).map f++l.drop i).set i (f (lat l (i:Int)))=(l.take (i+1)).map f++l.drop (i+1):=by
 have Bw:((l.take i).map f).length=i:=by rw [bx,sm]; omega
 rw [fI l hi,d8 l hi,List.set_append,if_neg O,Bw,Nat.sub_self,List.set_cons_zero,List.map_append,List.append_assoc]
 rfl
theorem u5 {l:List aa}(f:aa->aa){i:Nat}(hi:i<l.length):lat ((l.take i).map f++l.drop i) (i:Int)=lat l (i:Int):=by
 have Bw:((l.take i).map f).length=i:=by rw [bx,sm]; omega
 rw [ez _ _ (by rw [cl,Bw,List.length_drop]; omega),List.getElem_append_right O];simp only [Bw,Nat.sub_self,List.getElem_drop,Nat.add_zero];exact (ez _ _ hi).symm
theorem Ah {v:aa}(h:VV v):Ev2 (λ n _=>cg n v) (·=v):=p6 _ v (Nat.lt_succ_self _) h.2
theorem y3 {s:ap}(hs:pJ s){v:aa}(h:VV v):Ev2 (λ n _=>fp n s v) (·=fF s v):=by
 have hn:=hs.n;have ha:=hs.a.1;simp only [fp];unfold fF;refine az _ (Ah h) (ar (λ h5=>?_) (λ h5=>ac (by rw [if_neg h5])));rw [if_pos h5];refine az _ (rA h O) ?_;have hv:=h.hid s.AB;generalize jz v s.AB=u at hv
 have key:∀ R,R=s.Ax.foldl gT u->Ev2 (λ n m=>dh n s m 0 u.Av u.Ay u.Az u.Ar u.Aw) (·=(R.Av,R.Ay,R.Az,R.Ar,R.Aw)):=by
  rintro R rfl;refine dM (λ n m i (t:aa)=>dh n s m i t.Av t.Ay t.Az t.Ar t.Aw) s.Ax.length (λ i t=>t=(s.Ax.take i).foldl gT u) (λ i t hi ht k=>?_) (λ t ht=>?_) u rfl
  ·subst ht;have hw:=hv.foldN (s.Ax.take i);have hm:lat s.Ax (i:Int)∈s.Ax:=Go.Ab.cC O;have hna:=(hs.m _ hm).1.1;simp only [dh];rw [aa.eta]
   have e1:(s.Ax.take (i+1)).foldl gT u=gT ((s.Ax.take i).foldl gT u) (lat s.Ax (i:Int)):=by
    rw [fI _ hi,List.foldl_append]; rfl
   refine bo O (az (((s.Ax.take (i+1)).foldl gT u).Av,((s.Ax.take (i+1)).foldl gT u).Ay,((s.Ax.take (i+1)).foldl gT u).Az,((s.Ax.take (i+1)).foldl gT u).Ar,((s.Ax.take (i+1)).foldl gT u).Aw) (av O ?_) (av (aZ O O) (k _ Z)));generalize (s.Ax.take i).foldl gT u=t at hw e1;rw [e1];refine az _ (sB hw _) ?_;unfold gT
   cases e:cQ t (lat s.Ax (i:Int)).AA with
   | none=>exact az true (bo (by simp [isN]) (ac Z)) (bo Z (ac Z))
   | some l=>
    have hl:=hw.get e;have hil:=hl.2.bItems;unfold a6 at hil;refine az (!decide (l.Av=4)) (bb (by simp [isN]) (ac Z)) (ar (λ h4=>ac ?_) (λ h4=>?_))
    ·have h4:¬ l.Av=4:=by simpa using h4
     simp only [if_neg h4]
    ·have h4:l.Av=4:=by simpa using h4
     simp only [if_pos h4];refine az (l.Ar.map (mu (lat s.Ax (i:Int)).AB)) (bM (f:=λ n m=>dV n s (i:Int) (isN (some l)) m l.Ar 0) ?_) ?_
     ·refine dM (λ n m j (x:List aa)=>dV n s (i:Int) (isN (some l)) m x j) l.Ar.length (λ j x=>x=(l.Ar.take j).map (mu (lat s.Ax (i:Int)).AB)++l.Ar.drop j) (λ j x hj hx k2=>?_) (λ x hx=>?_) l.Ar Z
      ·subst hx
       have Bw:((l.Ar.take j).map (mu (lat s.Ax (i:Int)).AB)++l.Ar.drop j).length=l.Ar.length:=by
        rw [cl,bx,sm,List.length_drop]; omega
       simp only [dV];have hy:VV (lat l.Ar (j:Int)):=hl.item (Go.Ab.cC O);refine bo (by simp only [isN]; omega) (az ((l.Ar.take (j+1)).map (mu (lat s.Ax (i:Int)).AB)++l.Ar.drop (j+1)) (av O ?_) (av (aZ O O) (k2 _ rfl)));rw [u5 _ hj,<- tf _ hj];refine ar (λ h6=>az _ (rA hy O) (av O (ac ?_))) (λ h6=>ac ?_)
       ·unfold pd mu;rw [if_pos h6,Int.toNat_natCast]
       ·have:mu (lat s.Ax (i:Int)).AB (lat l.Ar (j:Int))=lat l.Ar (j:Int):=by unfold mu; rw [if_neg h6]
        rw [this];have h7:=u5 (mu (lat s.Ax (i:Int)).AB) hj;rw [ez _ _ O] at h7;rw [<- h7];exact (pE _ _ O).symm
      ·subst hx;simp only [dV];exact bb (by simp only [isN]; omega) (ac (by rw [List.take_length,List.drop_length,List.append_nil]))
     ·exact az _ (vF hw (hl.withI _) e) (ac Z)
  ·subst ht;simp only [dh];exact bb O (ac (by rw [List.take_length]))
 exact az _ (bM (f:=λ n m=>dh n s m 0 u.Av u.Ay u.Az u.Ar u.Aw) (key _ Z)) (ac (aa.eta _))
theorem oo:∀ (ks:List Bk) (xs:List aa) (q:Bk) (w x:aa),kG ks xs q=some x->bN w<=bN x->cn (g0 ks xs q w)<=cn xs
 | [],xs,_,_,_,h,_=>by cases xs <;> cases h
 | _::_,[],_,_,_,h,_=>by cases h
 | k::ks,y::xs,q,w,x,h,hw=>by
  simp only [kG] at h;simp only [g0];split
  ·rename_i e;rw [if_pos e] at h
   cases h
   simp only [cn]; omega
  ·rename_i e;rw [if_neg e] at h;have:=oo ks xs q w x h hw;simp only [cn]; omega
theorem nX {v w x:aa}{q:Bk}(h:cQ v q=some x)(hw:bN w<=bN x):bN (gQ v q w)<=bN v:=by
 unfold cQ at h;split at h
 ·have:=oo _ _ _ _ _ h hw;rw [fH,fH v];unfold gQ;simp only [aa.Ar] at this ⊢;omega
 ·cases h
theorem re (v:aa):1<=bN v:=by rw [fH]; omega
theorem tl (v:aa)(a:ax):bN (fR v a)<=bN v:=by
 unfold fR;split
 ·rename_i h;obtain ⟨x,hx,_⟩:=iB h.2;exact nX hx (re x)
 ·exact n6 _
theorem nO:∀ (l:List ax) (v:aa),bN (jz v l)<=bN v
 | [],_v=>n6 _
 | a::l,v=>Nat.le_trans (nO l (fR v a)) (tl v a)
theorem om (f:aa->aa)(h:∀ x,bN (f x)<=bN x):∀ l:List aa,cn (l.map f)<=cn l
 | []=>n6 _
 | x::l=>by
  have h1:=h x;have:=om f h l;simp only [d4,cn]; omega
theorem tD (v:aa)(n:aL):bN (gT v n)<=bN v:=by
 unfold gT;split
 ·rename_i l hl;split
  ·refine nX hl ?_;have:=om (mu n.AB) (λ x=>by unfold mu; split; exact nO _ _; exact n6 _) l.Ar;rw [fH,fH l];unfold rn;simp only [aa.Ar] at this ⊢;omega
  ·exact n6 _
 ·exact n6 _
theorem ou:∀ (l:List aL) (v:aa),bN (l.foldl gT v)<=bN v
 | [],_v=>n6 _
 | a::l,v=>Nat.le_trans (ou l (gT v a)) (tD v a)
theorem uQ (s:ap)(v:aa):bN (fF s v)<=bN v:=by
 unfold fF;split
 ·exact Nat.le_trans (ou _ _) (nO _ _)
 ·exact n6 _
theorem wi {v x:aa}{q:Bk}(h:cQ v q=some x):bN x<=bN v:=by
 unfold cQ at h;split at h
 ·have:=mM (qb _ _ _ _ h);rw [fH v]; omega
 ·cases h
def pV (v:aa):Bk :=if v.Av=1 then (if v.Ay=1 then [116,114,117,101] else [102,97,108,115,101]) else if v.Av=2 then itoa v.Ay else if v.Av=3 then nU v.Az else if v.Av=4 then [91,93] else if v.Av=5 then [123,125] else if v.Av=6 then [40,117,110,107,110,111,119,110,41] else [110,117,108,108]
def mZ (k:Int)(ks:List Bk)(i:Nat):Bk:=if k=5/\i<ks.length then nU (lat ks (i:Int))++[58,32] else []
mutual
def np:aa->Bk|.mk k n s l ks=>if l.isEmpty=true then pV (.mk k n s l ks) else (if k=5 then [123] else [91])++kH k ks 0 l++(if k=5 then [125] else [93])
def kH (k:Int)(ks:List Bk):Nat->List aa->Bk|_,[]=>[]|i,x::r=>(if 0<i then [44,32] else [])++mZ k ks i++np x++kH k ks (i+1) r
end
theorem sv (v:aa):np v=if v.Ar.isEmpty=true then pV v else (if v.Av=5 then [123] else [91])++kH v.Av v.Aw 0 v.Ar++(if v.Av=5 then [125] else [93]):=by cases v; simp only [np,aa.Ar,aa.Av,aa.Aw]; rfl
theorem m6 (s:Bk):(nU s).length<=6*s.length+2:=by
 have:=ti s;unfold nU;simp only [n8,cl,qr]; omega
theorem tY {n:Int}(h:inR n):(itoa n).length<=21:=by
 have h1:=h.1;have h2:=h.2;unfold itoa;split
 ·have:=u9 19 n.natAbs O;simp only [n8]; omega
 ·have:=u9 19 n.toNat O;omega
theorem rP {v:aa}(h:VV v):(pV v).length<=24600:=by
 have h1:=h.1.node.s;have h2:=tY h.2.bNum;have h3:=m6 v.Az;unfold pV
 repeat' (first|(simp only [n8,qr]; omega)|omega|split)
theorem oe {v:aa}(h:VV v)(i:Nat):(mZ v.Av v.Aw i).length<=24600:=by
 unfold mZ;split
 ·rename_i hi;have h1:=(h.1.node.txt _ (Go.Ab.cC (l:=v.Aw) (i:=(i:Int)) O)).1;have h3:=m6 (lat v.Aw (i:Int));simp only [cl,n8,qr]; omega
 ·simp
theorem yP:∀ (N:Nat) (v:aa),SizeOf.sizeOf v<N->VV v->(np v).length+25000<=50000*bN v:=by
 intro N
 induction N with
 | zero=>intro v h; omega
 | succ N ih=>
  intro v hN h;rw [sv,fH];have hs:=rP h
  have key:∀ (l:List aa) (i:Nat),(∀ x∈l,x∈v.Ar)->(kH v.Av v.Aw i l).length<=50000*cn l:=by
   intro l
   induction l with
   | nil=>intro i _; simp [kH]
   | cons x r ihr=>
    intro i hm;have a1:=ih x (by have:=pw (hm x List.mem_cons_self); omega) (h.item (hm x List.mem_cons_self));have a2:=ihr (i+1) (λ y hy=>hm y (List.mem_cons_of_mem _ hy));have a3:=oe h i;have a4:(if 0<i then ([44,32]:Bk) else []).length<=2:=by split <;> simp
    simp only [kH,cn,cl];omega
  split
  ·omega
  ·have a:=key v.Ar 0 (λ _ hx=>hx);have b1:(if v.Av=5 then ([123]:Bk) else [91]).length=1:=by split <;> rfl
   have b2:(if v.Av=5 then ([125]:Bk) else [93]).length=1:=by split <;> rfl
   simp only [cl];omega
theorem jh {v:aa}(h:VV v):(np v).length+25000<=50000*bN v:=yP _ v (Nat.lt_succ_self _) h
theorem vX {v:aa}(h:VV v):Ev2 (λ n _=>fO n v) (·=pV v):=by
 have h1:=h.1.node.s;simp only [fO];unfold pV;refine ar (λ a=>?_) (λ a=>?_)
 ·rw [if_pos a];exact ar (λ b=>ac (by rw [if_pos b])) (λ b=>ac (by rw [if_neg b]))
 ·rw [if_neg a];refine ar (λ b=>?_) (λ b=>?_)
  ·rw [if_pos b];refine az (itoa v.Ay) ?_ (ac rfl);simp only [jp];unfold strconv_Itoa;exact az (itoa v.Ay) (av h.2.bNum (ac rfl)) (ac rfl)
  ·rw [if_neg b];refine ar (λ c=>?_) (λ c=>?_)
   ·rw [if_pos c];exact az _ (sW _ O) (ac rfl)
   ·rw [if_neg c];refine ar (λ d=>ac (by rw [if_pos d])) (λ d=>?_);rw [if_neg d];refine ar (λ e=>ac (by rw [if_pos e])) (λ e=>?_);rw [if_neg e];exact ar (λ f=>ac (by rw [if_pos f])) (λ f=>ac (by rw [if_neg f]))
theorem xq {v:aa}(h:VV v)(i:Nat):Ev2 (λ n _=>ga n v (i:Int)) (·=mZ v.Av v.Aw i):=by
 simp only [ga];unfold mZ;refine az (decide (v.Av=5/\i<v.Aw.length)) (ar (λ a=>ac (by simp [a])) (λ a=>ac (by simp [a]))) (ar (λ a=>?_) (λ a=>?_))
 ·have a:=of_decide_eq_true a;have h1:=(h.1.node.txt _ (Go.Ab.cC (l:=v.Aw) (i:=(i:Int)) O)).1;have h3:=m6 (lat v.Aw (i:Int));rw [if_pos a];exact av O (az _ (sW _ O) (av (by simp only [n8,qr]; omega) (ac Z)))
 ·rw [if_neg (λ q=>a (decide_eq_true q))];exact ac rfl
theorem wB:∀ (N:Nat) (v:aa),SizeOf.sizeOf v<N->VV v->∀ b:Bk,b.length+50000*bN v<=10000000000->Ev2 (λ n _=>cP n (aG.mk b) v) (·=aG.mk (b++np v)):=by
 intro N
 induction N with
 | zero=>intro v h; omega
 | succ N ih=>
  intro v hN h b hb;have hs:=rP h;have hil:=h.il;have hfl:=jh h;rw [fH] at hb;refine fC ?_;simp only [cP];rw [sv];refine ar (λ a=>?_) (λ a=>?_)
  ·have a:v.Ar=[]:=List.length_eq_zero_iff.1 O;rw [if_pos (by rw [a]; rfl)];refine az _ (vX h) ?_;rw [rS b (pV v) O];exact ac Z
  ·have a':¬ v.Ar.isEmpty=true:=by
    intro q;have:v.Ar=[]:=by simpa using q
    rw [this] at a; exact a rfl
   rw [if_neg a'];refine az ((if v.Av=5 then ([123]:Bk) else [91]),(if v.Av=5 then ([125]:Bk) else [93])) (by unfold hH; exact ar (λ c=>ac (by simp [c])) (λ c=>ac (by simp [c]))) ?_;have b1:(if v.Av=5 then ([123]:Bk) else [91]).length=1:=by split <;> rfl
   have b2:(if v.Av=5 then ([125]:Bk) else [93]).length=1:=by split <;> rfl
   generalize (if v.Av=5 then ([123]:Bk) else [91])=o at b1;generalize (if v.Av=5 then ([125]:Bk) else [93])=e at b2;simp only;rw [rS b o O];refine az _ (ac Z) ?_;refine az (b++o++kH v.Av v.Aw 0 v.Ar) (bM (f:=λ n m=>cx n (cP n) v m 0 (b++o)) ?_) ?_
   ·have fmtL_snoc:∀ (l:List aa) (i:Nat) (x:aa),kH v.Av v.Aw i (l++[x])=kH v.Av v.Aw i l++((if 0<i+l.length then [44,32] else [])++mZ v.Av v.Aw (i+l.length)++np x):=by
     intro l
     induction l with
     | nil=>intro i x; simp only [List.nil_append,kH,List.append_nil,qr,Nat.add_zero]
     | cons y r ihr=>
      intro i x;simp only [List.cons_append,kH,ihr,n8,List.append_assoc];rw [show i+1+r.length=i+(r.length+1) by omega]
    have fmtL_len:∀ (l:List aa) (i:Nat),(∀ x∈l,x∈v.Ar)->(kH v.Av v.Aw i l).length<=50000*cn l:=by
     intro l
     induction l with
     | nil=>intro i _; simp [kH]
     | cons x r ihr=>
      intro i hm;have a1:=jh (h.item (hm x List.mem_cons_self));have a2:=ihr (i+1) (λ y hy=>hm y (List.mem_cons_of_mem _ hy));have a3:=oe h i;have a4:(if 0<i then ([44,32]:Bk) else []).length<=2:=by split <;> simp
      simp only [kH,cn,cl];omega
    have nodes_app:∀ l r:List aa,cn (l++r)=cn l+cn r:=by
     intro l r
     induction l with
     | nil=>simp [cn]
     | cons x l ihl=>simp only [List.cons_append,cn,ihl]; omega
    refine dM (λ n m i (f:Bk)=>cx n (cP n) v m i f) v.Ar.length (λ i f=>f=b++o++kH v.Av v.Aw 0 (v.Ar.take i)) (λ i f hi hf k=>?_) (λ f hf=>?_) (b++o) (by simp [kH])
    ·subst hf;have hm:lat v.Ar (i:Int)∈v.Ar:=Go.Ab.cC O;have hx:=h.item hm;have c1:=fmtL_len (v.Ar.take i) 0 (λ x hx=>List.mem_of_mem_take hx);have c2:=jh hx;have c3:=oe h i
     have c4:cn (v.Ar.take i)+bN (lat v.Ar (i:Int))+cn (v.Ar.drop (i+1))=cn v.Ar:=by
      have:=nodes_app (v.Ar.take i) (v.Ar.drop i);rw [List.take_append_drop,d8 _ hi] at this;simp only [cn] at this; omega
     have c5:((if 0<i then ([44,32]:Bk) else []).length)<=2:=by split <;> simp
     have hsn:=fmtL_snoc (v.Ar.take i) 0 (lat v.Ar (i:Int));rw [<- fI _ hi,sm,show min i v.Ar.length=i by omega,ro] at hsn;have c6:(b++o).length=b.length+1:=by rw [cl]; omega
     simp only [cx];generalize hq:(if 0<i then ([44,32]:Bk) else [])=sp at c5 hsn;have hg:((b++o)++kH v.Av v.Aw 0 (v.Ar.take i)).length=b.length+1+(kH v.Av v.Aw 0 (v.Ar.take i)).length:=by rw [cl,c6]
     generalize hg0:(b++o)++kH v.Av v.Aw 0 (v.Ar.take i)=g at hg;refine bo O (av O (az (g++sp) ?_ ?_))
     ·refine ar (λ q=>?_) (λ q=>ac ?_)
      ·rw [if_pos O] at hq;subst hq;rw [rS g [44,32] (by simp only [n8,qr]; omega)];exact ac rfl
      ·rw [if_neg O] at hq;subst hq;simp
     ·refine az _ (xq h i) ?_;rw [rS (g++sp) _ (by rw [cl]; omega)];refine az _ (ac Z) ?_;refine az _ (ih _ (by have:=pw hm; omega) hx (g++sp++mZ v.Av v.Aw i) (by simp only [cl]; omega)) (av (aZ O O) (k _ ?_));rw [hsn,<- hg0];simp only [List.append_assoc]
    ·subst hf;simp only [cx];exact bb O (ac (by rw [List.take_length]))
   ·have hfl2:(kH v.Av v.Aw 0 v.Ar).length<=50000*bN v:=by
     rw [sv,if_neg a'] at hfl;simp only [cl] at hfl;omega
    rw [fH] at hfl2;rw [rS _ e (by simp only [cl]; omega)];exact ac (by simp only [List.append_assoc])
theorem qe {v:aa}(h:VV v)(hn:bN v<=100000):Ev2 (λ n _=>ef n v) (·=np v):=by
 have hf:=jh h;simp only [ef];refine az _ (wB _ v (Nat.lt_succ_self _) h [] (by simp only [qr]; omega)) ?_;exact az (np v,aG.mk (np v)) (dd (bstr (np v) O) Z) (ac Z)
def WV (v:aa):Prop:=VV v\/(v.Av≠5/\aa.Bd v)
theorem WV.bd {v:aa}(h:WV v):aa.Bd v:=by rcases h with h|h; exact h.2; exact h.2
theorem jU {v:aa}(h:v.Av≠5)(q:Bk):cQ v q=none:=by unfold cQ; rw [if_neg h]
theorem WV.get {v x:aa}{q:Bk}(h:WV v)(hx:cQ v q=some x):VV v:=by
 rcases h with h|h
 ·exact h
 ·rw [jU h.1] at hx; cases hx
theorem WV.of {v:aa}(h:WV v)(q:Bk):VV (ofP v q):=by
 rcases h with h|h
 ·exact h.of q
 ·unfold ofP; rw [jU h.1]; exact vt
theorem uG {v:aa}(h:WV v)(q:Bk):Ev2 (λ n _=>fJ n v q) (·=isN (cQ v q)):=by
 rcases h with h|h
 ·exact sB h q
 ·have hk:=h.2.bKeys;unfold a6 at hk;rw [jU h.1];simp only [fJ];exact aM _ (pt v.Aw q O) (λ r _=>az true (bb h.1 (ac Z)) (bo Z (ac Z)))
theorem u6 {v:aa}(h:WV v)(q:Bk):Ev2 (λ n _=>gR n v q) (·=isN (cQ v q)):=by
 rcases h with h|h
 ·exact sN h q
 ·rw [jU h.1];simp only [gR];exact bb h.1 (ac rfl)
theorem xu {v:aa}(h:WV v)(q:Bk):Ev2 (λ n _=>jE n v q) (·=ofP v q):=by
 rcases h with h|h
 ·exact yV h q
 ·unfold ofP;rw [jU h.1];simp only [jE];exact bb h.1 (ac Z)
theorem vi {v:aa}(h:WV v)(q:Bk):Ev2 (λ n _=>ja n v q) (·=ofP v q):=by
 simp only [ja];refine az _ (uG h q) (ac ?_);unfold ofP
 cases cQ v q with
 | some x=>simp only [isN,rg]; exact aa.eta x
 | none=>rfl
theorem sy {s:ap}(hs:pJ s){v:aa}(h:WV v):Ev2 (λ n _=>fp n s v) (·=fF s v):=by
 rcases h with h|h
 ·exact y3 hs h
 ·simp only [fp];unfold fF;exact az _ (p6 _ v (Nat.lt_succ_self _) h.2) (bb h.1 (ac (by rw [if_neg h.1])))
theorem WV.mask {v:aa}(h:WV v)(s:ap):WV (fF s v):=by
 rcases h with h|h
 ·exact .inl (h.mask s)
 ·refine .inr ?_;unfold fF;rw [if_neg h.1];exact h
def zg (v:aa):Prop:=WV v/\∀ q,bN (ofP v q)<=60
theorem nP {v:aa}(h:WV v)(hn:v.Av=5->bN v<=60)(s:ap):zg (fF s v):=by
 refine ⟨h.mask s,λ q=>?_⟩;unfold ofP
 cases hx:cQ (fF s v) q with
 | none=>exact by decide
 | some x=>
  have h5:(fF s v).Av=5:=by
   unfold cQ at hx;split at hx
   ·assumption
   ·cases hx
  have h6:v.Av=5:=by
   rcases Decidable.em (v.Av=5) with e|e
   ·exact e
   ·unfold fF at h5; rw [if_neg e] at h5; exact h5
  have:=wi hx;have:=uQ s v;have:=hn h6;simp only [rg];omega
theorem uB {s:ap}{T:ak}(hT:Ev2 (λ n _=>fo n s) (·=T))(hn:T.AC.length<=1000){a b:aa}(ha:WV a)(hb:WV b):Ev2 (λ n _=>gz n s a b) (·=eD T.AC a b):=by
 simp only [gz,jO];refine az T.AC (az _ hT (ac rfl)) ?_;refine az (eD T.AC a b) (bM (f:=λ n m=>cJ n a b T.AC m [] 0) ?_) (ac rfl);refine dM (λ n m i (l:List Bk)=>cJ n a b T.AC m l i) T.AC.length (λ i l=>l=eD (T.AC.take i) a b) (λ i l hi hl k=>?_) (λ l hl=>?_) [] rfl
 ·subst hl
  have Bw:(eD (T.AC.take i) a b).length<=1000:=by
   have:=List.length_filter_le (λ q=>d9 (ofP a q) (ofP b q)) (T.AC.take i);rw [sm] at this;unfold eD; omega
  simp only [cJ];refine bo O ?_;refine az (eD (T.AC.take (i+1)) a b) ?_ (av (aZ O O) (k _ rfl));refine av O (az _ (vi ha _) (az _ (vi hb _) (az _ (ws (ha.of _).2 (hb.of _).2) ?_)));rw [fI _ hi];unfold eD at Bw ⊢;rw [List.filter_append];refine ar (λ h=>av (by rw [List.length_singleton]; omega) (ac ?_)) (λ h=>ac ?_)
  ·simp only [List.filter_cons,h,if_true,List.filter_nil]
  ·simp only [List.filter_cons,h,if_false,List.filter_nil,List.append_nil,Bool.false_eq_true]
 ·subst hl;simp only [cJ];exact bb O (ac (by rw [List.take_length]))
def tI (q:Bk)(v:aa):Bk:=(([32,32,32,32]++q)++[32,61,32])++np v
def gr (names:List Bk)(m:aa):List Bk:=(names.filter λ q=>seen (cQ m q)).map λ q=>tI q (ofP m q)
theorem mkV (x:aa):aa.mk x.Av x.Ay x.Az x.Ar x.Aw=x:=aa.eta x
theorem xG (v:aa)(q:Bk):(isN (cQ v q)).1=ofP v q:=by unfold ofP; cases cQ v q <;> rfl
theorem ri {s:ap}(hs:pJ s){T:ak}(hT:Ev2 (λ n _=>fo n s) (·=T))(hn:T.AC.length<=20)(hq:∀ x∈T.AC,x.length<=100){v:aa}(h:WV v)(hv:v.Av=5->bN v<=60) :
  Ev2 (λ n _=>fL n s v) (·=gr T.AC (fF s v)):=by
 simp only [fL];have hm:=nP h hv s;refine az _ (sy hs h) (az _ hT ?_);generalize fF s v=m at hm;refine az (gr T.AC m) (bM (f:=λ n k=>cI n m T k [] 0) ?_) (ac rfl);refine dM (λ n k i (l:List Bk)=>cI n m T k l i) T.AC.length (λ i l=>l=gr (T.AC.take i) m) (λ i l hi hl k=>?_) (λ l hl=>?_) [] rfl
 ·subst hl
  have Bw:(gr (T.AC.take i) m).length<=20:=by
   have:=List.length_filter_le (λ q=>seen (cQ m q)) (T.AC.take i);rw [sm] at this;unfold gr; rw [bx]; omega
  have hq1:=hq _ (Go.Ab.cC (l:=T.AC) (i:=(i:Int)) O);simp only [cI];refine bo O ?_;refine az (gr (T.AC.take (i+1)) m) ?_ (av (aZ O O) (k _ Z))
  have e1:gr (T.AC.take (i+1)) m=gr (T.AC.take i) m++gr [lat T.AC (i:Int)] m:=by
   rw [fI _ hi]; unfold gr; rw [List.filter_append,List.map_append]
  rw [e1];generalize lat T.AC (i:Int)=q at hq1;have hf:=qe (hm.1.of q) (Nat.le_trans (hm.2 q) (by decide));have hfl:=jh (hm.1.of q);have hnn:=hm.2 q;refine av O (az _ (uG hm.1 q) ?_);refine az (seen (cQ m q)) ?_ (ar (λ hh=>?_) (λ hh=>ac ?_))
  ·cases e:cQ m q with
   | none=>exact bb (by simp [isN]) (ac Z)
   | some x=>exact bo Z (ac Z)
  ·rw [mkV,xG];refine av (by simp only [n8,qr]; omega) (av (by simp only [cl,n8,qr]; omega) (az _ hf (av (by simp only [cl,n8,qr]; omega) (av (by simp only [List.length_singleton]; omega) (ac ?_)))));unfold gr tI;simp only [List.filter_cons,hh,if_true,List.filter_nil,d4,py]
  ·unfold gr;simp only [List.filter_cons,hh,if_false,List.filter_nil,py,List.append_nil,Bool.false_eq_true]
 ·subst hl;simp only [cI];exact bb O (ac (by rw [List.take_length]))
def lO (repl:List Bk)(a b:aa)(q:Bk):Bk:=(tI q (ofP a q)++[32,45,62,32])++np (ofP b q)++(if q∈repl then [32,40,110,101,119,32,111,98,106,101,99,116,41] else [])
theorem td (l:List Bk)(hl:l.length<=1000000)(q:Bk):Ev2 (λ n _=>cu n l q) (·=decide (q∈l)):=by
 simp only [cu,dI];refine aM (λ r=>decide (0<=r)=decide (q∈l)) ?_ (λ r hr=>ac hr);refine ny (bM (f:=λ _ m=>bv l q m 0) ?_);refine dM (λ _ m i (_:Unit)=>bv l q m i) l.length (λ i _=>q ∉ l.take i) (λ i _ hi hI k=>?_) (λ _ hI=>?_) () G
 ·simp only [bv];refine bo O (av O (ar (λ h=>ac ?_) (λ h=>av (aZ O O) (k () ?_))))
  ·have:q∈l:=h ▸ Go.Ab.cC O;simp [this]
  ·rw [fI _ hi];intro hm;rcases List.mem_append.1 hm with hm|hm
   ·exact hI hm
   ·exact h (List.mem_singleton.1 hm)
 ·simp only [bv];refine bb O (ac (ac ?_));rw [List.take_length] at hI;simp [hI]
theorem tC {m:aa}(hm:zg m)(q:Bk):Ev2 (λ n _=>gm n m q) (·=np (ofP m q)):=by
 simp only [gm];refine az _ (uG hm.1 q) ?_;rw [mkV,xG];exact az _ (qe (hm.1.of q) (Nat.le_trans (hm.2 q) (by decide))) (ac rfl)
theorem mg {s:ap}(hs:pJ s){T:ak}(hT:Ev2 (λ n _=>fo n s) (·=T))(hn:T.AC.length<=20)(hq:∀ x∈T.AC,x.length<=100){a b:aa}(ha:WV a)(ha5:a.Av=5->bN a<=60)(hb:WV b)(hb5:b.Av=5->bN b<=60)(repl:List Bk)(hr:repl.length<=1000000) :
  Ev2 (λ n _=>d5 n s a b repl) (·=(eD T.AC a b).map (lO repl (fF s a) (fF s b))):=by
 simp only [d5];have hma:=nP ha ha5 s;have hmb:=nP hb hb5 s;refine az _ (sy hs ha) (az _ (sy hs hb) (az _ (uB hT O ha hb) ?_));have hcl:(eD T.AC a b).length<=20:=Nat.le_trans (List.length_filter_le _ _) hn;have hcq:∀ x∈eD T.AC a b,x.length<=100:=λ x hx=>hq x (List.mem_filter.1 hx).1;generalize eD T.AC a b=ch at hcl hcq;generalize fF s a=p at hma;generalize fF s b=r at hmb;refine az (ch.map (lO repl p r)) (bM (f:=λ n k=>bX n repl p r ch k [] 0) ?_) (ac rfl);refine dM (λ n k i (l:List Bk)=>bX n repl p r ch k l i) ch.length (λ i l=>l=(ch.take i).map (lO repl p r)) (λ i l hi hl k=>?_) (λ l hl=>?_) [] rfl
 ·subst hl;have hq1:=hcq _ (Go.Ab.cC (l:=ch) (i:=(i:Int)) O);simp only [bX]
  have e1:(ch.take (i+1)).map (lO repl p r)=(ch.take i).map (lO repl p r)++[lO repl p r (lat ch (i:Int))]:=by
   rw [fI _ hi,List.map_append]; rfl
  have k1:=k _ e1.symm;have hl2:((ch.take i).map (lO repl p r)).length<=20:=by rw [bx,sm]; omega
  generalize (ch.take i).map (lO repl p r)=out at k1 hl2;generalize lat ch (i:Int)=q at hq1 k1;have f1:=jh (hma.1.of q);have f2:=jh (hmb.1.of q);have n1:=hma.2 q;have n2:=hmb.2 q;refine bo O (av O (av (by simp only [n8,qr]; omega) (av (by simp only [cl,n8,qr]; omega) (az _ (tC hma q) ?_))));refine av (by simp only [cl,n8,qr]; omega) (av (by simp only [cl,n8,qr]; omega) (az _ (tC hmb q) (av (by simp only [cl,n8,qr]; omega) ?_)));refine az (lO repl p r q) (az _ (td repl hr q) (ar (λ hh=>av (by simp only [cl,n8,qr]; omega) (ac ?_)) (λ hh=>ac ?_))) (av (by simp only [List.length_singleton]; omega) (av (aZ O O) k1))
  ·unfold lO tI;rw [if_pos (of_decide_eq_true hh)]
  ·unfold lO tI;rw [if_neg (λ z=>hh (decide_eq_true z)),List.append_nil]
 ·subst hl;simp only [bX];exact bb O (ac (by rw [List.take_length]))
theorem uq (r:Int):∃ x,gw r=some x/\x.length<=100:=by
 have key:∀ {c:Prop} [Decidable c] {a:Bk} {o:Option Bk},a.length<=100->(∃ x,o=some x/\x.length<=100)->∃ x,(if c then some a else o)=some x/\x.length<=100:=by
  intro c _ a o ha h;by_cases k:c
  ·exact ⟨a,if_pos k,ha⟩
  ·rw [if_neg k]; exact h
 unfold gw
 iterate 11 refine key (by decide) ?_
 exact ⟨_,Z,by decide⟩
theorem wt {c:au}{s:ap}(ha:c.AO.length<=300)(hd:c.AR.length<=300):∃ G0z:List Bk->List Bk->List Bk,∀ d:au,d.AO=c.AO->d.AR=c.AR->d.AP=c.AP->d.A1=c.A1->d.A2=c.A2->d.A8=c.A8->∀ rv rd:List Bk,rv.length<=1000->rd.length<=1000 ->
  Ev2 (λ n _=>fL n s d.AI) (·=rv)->Ev2 (λ n _=>d5 n s d.AL d.AI d.AN) (·=rd)->(G0z rv rd).length<=2000/\Ev2 (λ n _=>dO n d s) (·=G0z rv rd):=by
 obtain ⟨sg,hsg,Bs⟩:∃ x,fV c=some x/\x.length<=100:=by
  unfold fV
  repeat' (first|exact ⟨_,Z,by decide⟩|split)
 obtain ⟨pl,hpl,hpll⟩:∃ x,g6 c.AO c.AR=some x/\x.length<=1000:=by
  unfold g6;split
  ·exact ⟨_,Z,by omega⟩
  ·rw [en (by simp only [n8,qr]; omega),en (by simp only [cl,n8,qr]; omega),en (by simp only [cl,n8,qr]; omega)];exact ⟨_,rfl,by simp only [cl,n8,qr]; omega⟩
 obtain ⟨rs,hrs,hrl⟩:=uq c.A1
 let head:Bk:=if c.A8=true then ((((sg++[32])++pl)++[58,32])++rs)++[44,32,105,109,112,111,114,116,101,100] else (((sg++[32])++pl)++[58,32])++rs
 refine ⟨λ rv rd=>if sg=[] then [] else if c.AP=1\/c.AP=5 then [head]++rv else if c.AP=2\/c.AP=3 then [head]++rd else [head],λ d e1 e2 e3 e4 e5 e6 rv rd lv ld hv hdd=>⟨?_,?_⟩⟩
 ·simp only
  repeat' split
  all_goals simp only [cl,n8,qr]; omega
 ·simp only [dO];have hsg':fV d=some sg:=by rw [<- hsg]; unfold fV; rw [e3,e5]
  refine az sg (dd hsg' Z) (ar (λ h=>ac (by rw [if_pos h])) (λ h=>?_));simp only [if_neg h];rw [e1,e2,e3,e4,e6];refine av (by simp only [n8,qr]; omega) (az pl (dd hpl Z) ?_);refine av (by simp only [cl,n8,qr]; omega) (av (by simp only [cl,n8,qr]; omega) (az rs (dd hrs Z) (av (by simp only [cl,n8,qr]; omega) ?_)));refine az head (ar (λ h2=>av (by simp only [cl,n8,qr]; omega) (ac ?_)) (λ h2=>ac ?_)) ?_
  ·show _=head;simp only [head,if_pos h2]
  ·show _=head;simp only [head,if_neg h2]
  generalize head=hd0;refine az (decide (c.AP=1\/c.AP=5)) (ar (λ a=>ac (by simp [a])) (λ a=>ac (by simp [a]))) (ar (λ a=>?_) (λ a=>?_))
  ·rw [if_pos (of_decide_eq_true a)];exact az _ hv (av (by rw [List.length_singleton]; omega) (ac rfl))
  ·rw [if_neg (λ z=>a (decide_eq_true z))];refine az (decide (c.AP=2\/c.AP=3)) (ar (λ a=>ac (by simp [a])) (λ a=>ac (by simp [a]))) (ar (λ a=>?_) (λ a=>?_))
   ·rw [if_pos (of_decide_eq_true a)];exact az _ hdd (av (by rw [List.length_singleton]; omega) (ac rfl))
   ·rw [if_neg (λ z=>a (decide_eq_true z))];exact ac rfl
theorem rl {v:aa}(hb:aa.Bd v):Ev2 (λ n _=>iq n v) (λ r=>r=true->VV v/\bN v<=60):=by
 simp only [iq]
 have key:Ev2 (λ n _=>(gJ n v 60).bind λ r2=>if r2=true then (eM n v).bind λ r5=>some (decide (r5=0)) else some false) (λ r=>r=true->VV v/\bN v<=60) :=
  aM _ (w9 hb 60 (by decide) (by decide)) (λ r hr=>ar (λ h=>aM _ (rI hb) (λ q hq=>ac (λ z=>⟨⟨hq (of_decide_eq_true z),hb⟩,by have:=hr h; omega⟩))) (λ _=>ac (λ z=>by cases z)))
 refine aM (λ r=>r=true->VV v/\bN v<=60) (ar (λ _=>key) (λ _=>ar (λ _=>key) (λ _=>ac (λ z=>by cases z)))) (λ r hr=>ac hr)
structure OkC (c:au):Prop where
 a:c.AO.length<=300
 d:c.AR.length<=300
 r:c.AN.length<=20
 b:WV c.AL
 bn:c.AL.Av=5->bN c.AL<=60
 f:WV c.AI
 fn:c.AI.Av=5->bN c.AI<=60
theorem ul {c:au}(hb:au.Bd c):Ev2 (λ n _=>iR n c) (λ r=>r=true->OkC c):=by
 simp only [iR];refine aM (λ r=>r=false->c.AO.length<=300/\c.AR.length<=300/\c.AN.length<=20) (ar (λ _=>ac (λ z=>by cases z)) (λ h1=>ar (λ _=>ac (λ z=>by cases z)) (λ h2=>ac (λ z=>by have:=of_decide_eq_false z; omega)))) (λ r hr=>ar (λ _=>ac (λ z=>by cases z)) (λ h=>?_));obtain ⟨a1,a2,a3⟩:=hr (by simpa using h);refine aM (λ r=>r=true->OkC c) ?_ (λ r hr=>ac hr);refine aM _ (rl hb.bBefore) (λ r1 h1=>ar (λ z1=>?_) (λ _=>ac (λ z=>by cases z)));refine aM _ (rl hb.bAfter) (λ r2 h2=>ar (λ z2=>ac (λ _=>?_)) (λ _=>ac (λ z=>?_)))
 ·exact ⟨a1,a2,a3,.inl (h1 z1).1,λ _=>(h1 z1).2,.inl (h2 z2).1,λ _=>(h2 z2).2⟩
 ·have z:=of_decide_eq_true z;exact ⟨a1,a2,a3,.inl (h1 z1).1,λ _=>(h1 z1).2,.inr ⟨by omega,hb.bAfter⟩,λ q=>by omega⟩
theorem vP {x:Bk}(h:x.length<=50):Ev2 (λ n _=>eM n (aa.mk 3 0 x [] [])) (λ _=>True):=gM (rI (sA (s:=x) O).2) (λ _ _=>trivial)
theorem xk (x y:Bk):Ev2 (λ n _=>jv n x y) (λ r=>r=true->x≠y/\x.length<=50/\y.length<=50):=by
 simp only [jv,eA];refine aM (λ r=>r=true->x≠y/\x.length<=50/\y.length<=50) ?_ (λ r hr=>ac hr);refine ar (λ _=>ac (λ z=>by cases z)) (λ h=>ar (λ h1=>ar (λ h2=>?_) (λ _=>ac (λ z=>by cases z))) (λ _=>ac (λ z=>by cases z)));refine az _ (ac rfl) (aM _ (vP O) (λ _ _=>ar (λ _=>az _ (ac rfl) (aM _ (vP O) (λ _ _=>ac (λ _=>⟨h,by omega,by omega⟩)))) (λ _=>ac (λ z=>by cases z))))
def jL (x:Bk):aa:=aa.mk 3 0 x [] []
theorem pn {a b:aa}(h:a.Av≠b.Av):d9 a b=true:=by
 unfold d9;rw [qk];simp [h]
theorem yH {x y:Bk}(h:x≠y):d9 (jL x) (jL y)=true:=by
 unfold d9;rw [qk];simp [jL,aa.Az,eqS,h]
theorem yt (x:Bk):d9 (jL x) (jL x)=false:=by
 unfold d9;rw [qk,nG];simp [jL,aa.Az,aa.Av,aa.Ay,aa.Aw,aa.Ar,eqS,bS,im]
theorem mi {v:aa}{q:Bk}:seen (cQ v q)=true↔(ofP v q).Av≠0:=by
 unfold ofP
 cases cQ v q with
 | none=>simp [seen,vO,aa.Av]
 | some x=>simp [seen]
def iX (v:aa)(q:Bk)(x:Bk):aa:=if seen (cQ v q)=true then gQ v q (jL x) else v
theorem vu (v:aa)(q p:Bk)(x:Bk):ofP (iX v q x) p=if p=q/\seen (cQ v q)=true then jL x else ofP v p:=by
 unfold iX;by_cases h:seen (cQ v q)=true
 ·obtain ⟨y,hy,_⟩:=iB h;rw [if_pos h];unfold ofP;rw [get_put];by_cases e:p=q
  ·subst e; rw [if_pos rfl,if_pos ⟨rfl,h⟩,hy]; rfl
  ·rw [if_neg e,if_neg (λ z=>e z.1)]
 ·rw [if_neg h,if_neg (λ z=>h z.2)]
theorem WV.veil {v:aa}(h:WV v)(q:Bk){x:Bk}(hx:x.length<=50):WV (iX v q x):=by
 unfold iX;split
 ·rename_i hs;obtain ⟨y,hy,_⟩:=iB hs;exact .inl ((h.get hy).put q (sA O))
 ·exact h
theorem kZ {v:aa}(q:Bk)(x:Bk):bN (iX v q x)<=bN v/\(iX v q x).Av=v.Av:=by
 unfold iX;split
 ·rename_i hs;obtain ⟨y,hy,_⟩:=iB hs;exact ⟨nX hy (re y),rfl⟩
 ·exact ⟨n6 _,Z⟩
theorem ry {s:ap}{v:aa}{q x:Bk}(h:∃ a∈s.AB,a.AQ=true/\a.AA=q):fF s (iX v q x)=fF s v:=by
 unfold iX;split
 ·rename_i hs;have hk:(gQ v q (jL x)).Av=v.Av:=rfl
  have h5:v.Av=5:=by
   obtain ⟨y,hy,_⟩:=iB hs;rcases Decidable.em (v.Av=5) with z|z
   ·exact z
   ·rw [jU z] at hy; cases hy
  unfold fF;rw [hk,if_pos h5,if_pos h5,sa s.AB v (jL x) q h hs (show (3:Int)≠0 by decide)]
 ·rfl
theorem tJ {a b:aa}{q x y:Bk}(hxy:x≠y)(p:Bk):d9 (ofP (iX a q x) p) (ofP (iX b q (if d9 (ofP a q) (ofP b q)=true then y else x)) p)=d9 (ofP a p) (ofP b p):=by
 rw [vu,vu];by_cases e:p=q
 ·subst e;by_cases h1:seen (cQ a p)=true
  ·by_cases h2:seen (cQ b p)=true
   ·rw [if_pos ⟨rfl,h1⟩,if_pos ⟨rfl,h2⟩];by_cases hd:d9 (ofP a p) (ofP b p)=true
    ·rw [if_pos hd,yH hxy,hd]
    ·rw [if_neg hd,yt]; exact (Bool.eq_false_iff.2 hd).symm
   ·rw [if_pos ⟨rfl,h1⟩,if_neg (λ z=>h2 z.2)];have k1:=mi.1 h1
    have k2:(ofP b p).Av=0:=by
     rcases Decidable.em ((ofP b p).Av=0) with z|z
     ·exact z
     ·exact absurd (mi.2 z) h2
    rw [pn (a:=jL x) (by rw [k2]; exact (show (3:Int)≠0 by decide)),pn (by rw [k2]; exact k1)]
  ·by_cases h2:seen (cQ b p)=true
   ·rw [if_neg (λ z=>h1 z.2),if_pos ⟨rfl,h2⟩];have k1:=mi.1 h2
    have k2:(ofP a p).Av=0:=by
     rcases Decidable.em ((ofP a p).Av=0) with z|z
     ·exact z
     ·exact absurd (mi.2 z) h1
    rw [pn (b:=jL _) (by rw [k2]; exact (show (0:Int)≠3 by decide)),pn (by rw [k2]; exact λ z=>k1 z.symm)]
   ·rw [if_neg (λ z=>h1 z.2),if_neg (λ z=>h2 z.2)]
 ·rw [if_neg (λ z=>e z.1),if_neg (λ z=>e z.1)]
structure yb (s:ap)(a b:aa)(t:aa×aa):Prop where
 w1:WV t.1
 w2:WV t.2
 m1:fF s t.1=fF s a
 m2:fF s t.2=fF s b
 d:∀ p,d9 (ofP t.1 p) (ofP t.2 p)=d9 (ofP a p) (ofP b p)
 n1:bN t.1<=bN a/\t.1.Av=a.Av
 n2:bN t.2<=bN b/\t.2.Av=b.Av
theorem sf {v:aa}(h:WV v){q x:Bk}:seen (cQ v q)=true->Ev2 (λ n _=>iz n v q (jL x)) (·=iX v q x):=by
 intro hs;obtain ⟨y,hy,_⟩:=iB hs;unfold iX;rw [if_pos hs];exact xe (h.get hy) hy
abbrev five (v:aa):Int×Int×Bk×List aa×List Bk:=(v.Av,v.Ay,v.Az,v.Ar,v.Aw)
theorem yK {s:ap}(hl:s.AB.length<=64){a b:aa}(ha:WV a)(hb:WV b){x y:Bk}(hxy:x≠y)(hx:x.length<=50)(hy:y.length<=50):Ev2 (λ n _=>j9 n s.AB a b x y) (yb s a b):=by
 simp only [j9];refine aM (λ r=>∃ t:aa×aa,yb s a b t/\r=(t.1.Av,t.1.Ay,t.1.Az,t.1.Ar,t.1.Aw,t.2.Av,t.2.Ay,t.2.Az,t.2.Ar,t.2.Aw)) (bM (f:=λ n m=>ei n s.AB x y m 0 a.Av a.Ay a.Az a.Ar a.Aw b.Av b.Ay b.Az b.Ar b.Aw) ?_) (λ r hr=>?_)
 ·refine dM (λ n m i (t:aa×aa)=>ei n s.AB x y m i t.1.Av t.1.Ay t.1.Az t.1.Ar t.1.Aw t.2.Av t.2.Ay t.2.Az t.2.Ar t.2.Aw) s.AB.length (λ i t=>yb s a b t) (λ i t hi ht k=>?_) (λ t ht=>?_) (a,b) ⟨ha,hb,Z,Z,λ _=>rfl,⟨n6 _,Z⟩,⟨n6 _,Z⟩⟩
  ·obtain ⟨u,v⟩:=t;obtain ⟨w1,w2,m1,m2,d,n1,n2⟩:=ht;simp only at w1 w2 m1 m2 d n1 n2;have hm:lat s.AB (i:Int)∈s.AB:=Go.Ab.cC O;simp only [ei];rw [mkV,mkV];refine bo O (aM (λ r=>∃ t:aa×aa,yb s a b t/\r=(t.1.Av,t.1.Ay,t.1.Az,t.1.Ar,t.1.Aw,t.2.Av,t.2.Ay,t.2.Az,t.2.Ar,t.2.Aw)) (av O (ar (λ _=>ac ⟨(u,v),⟨w1,w2,m1,m2,d,n1,n2⟩,rfl⟩) (λ hs=>?_))) (λ r hr=>?_))
   ·have hs:(lat s.AB (i:Int)).AQ=true:=by simpa using hs
    have hex:∃ a∈s.AB,a.AQ=true/\a.AA=(lat s.AB (i:Int)).AA:=⟨_,hm,hs,rfl⟩
    generalize (lat s.AB (i:Int)).AA=q at hex;refine av O (az _ (u6 w1 q) (av O (az _ (u6 w2 q) (av O (az _ (xu w1 q) (av O (az _ (xu w2 q) (az _ (uR (w1.of q).2 (w2.of q).2) ?_))))))))
    have hsn:∀ z:aa,Ev2 (λ _ _=>if (isN (cQ z q)).2=true then some (!decide ((isN (cQ z q)).1.Av=0)) else some false) (·=seen (cQ z q)):=by
     intro z
     cases cQ z q with
     | none=>exact bb (by simp [isN]) (ac Z)
     | some y=>exact bo Z (ac Z)
    refine az (five (iX u q x)) (az _ (hsn u) (ar (λ h=>av O (az (jL x) (ac Z) (az _ (sf w1 h) (ac Z)))) (λ h=>ac (by unfold iX; rw [if_neg h])))) ?_
    have fin:yb s a b (iX u q x,iX v q (if d9 (ofP u q) (ofP v q)=true then y else x)) :=
     ⟨w1.veil q hx,w2.veil q (by split <;> assumption),(ry hex).trans m1,(ry hex).trans m2,λ p=>(tJ hxy p).trans (d p),⟨Nat.le_trans (kZ q x).1 n1.1,(kZ q x).2.trans n1.2⟩,⟨Nat.le_trans (kZ q _).1 n2.1,(kZ q _).2.trans n2.2⟩⟩
    refine az _ (hsn v) (ar (λ h=>ar (λ hd=>av O (az (jL y) (ac Z) (az _ (sf w2 h) (ac ⟨_,fin,?_⟩)))) (λ hd=>av O (az (jL x) (ac Z) (az _ (sf w2 h) (ac ⟨_,fin,?_⟩))))) (λ h=>ac ⟨_,fin,?_⟩))
    ·rw [if_pos hd]
    ·rw [if_neg hd]
    ·have:∀ z,iX v q z=v:=λ z=>by unfold iX; rw [if_neg h]
     rw [this]
   ·obtain ⟨t,ht,rfl⟩:=hr;exact av (aZ O O) (k t ht)
  ·simp only [ei];exact bb O (ac ⟨t,ht,rfl⟩)
 ·obtain ⟨t,ht,rfl⟩:=hr;refine ac ?_;simp only [mkV];exact ht
theorem yk (l:List Bk)(hl:l.length<=1000000):Ev2 (λ n _=>jy n l l) (·=true):=by
 simp only [jy];refine bo trivial (qh () (bM (f:=λ _ m=>dP l l m 0) ?_) (ac rfl));refine dM (λ _ m i (_:Unit)=>dP l l m i) l.length (λ _ _=>True) (λ i _ hi _ k=>?_) (λ _ _=>?_) () trivial
 ·simp only [dP];exact bo O (av O (av O (bo trivial (av (aZ O O) (k () trivial)))))
 ·simp only [dP];exact bb O (ac rfl)
theorem tp (aw:Ev2 (λ n _=>gI n) (·=true)){c:au}{s:ap}(hc:au.Bd c)(hs:ap.Bd s)(x y:Bk):Ev2 (λ n _=>fu n c s x y) (·=true):=by
 have hbs:BdS s:=⟨λ a ha=>(hs.eAttrs a ha).bType,λ k hk a ha=>((hs.eNested k hk).eAttrs a ha).bType⟩
 have hnl:=hs.bNested;unfold a6 at hnl;simp only [fu];refine aM (λ t=>t=false->OkC c/\pJ s/\x≠y/\x.length<=50/\y.length<=50) ?_ (λ t ht=>?_)
 ·refine aM _ (ul hc) (λ r1 h1=>ar (λ _=>ac (λ z=>by cases z)) (λ z1=>?_));refine aM _ (uo O hbs) (λ r2 h2=>ar (λ _=>ac (λ z=>by cases z)) (λ z2=>?_));exact aM _ (xk x y) (λ r3 h3=>ac (λ z=>⟨h1 (nf z1),h2 (nf z2),h3 (by simpa using z)⟩))
 refine ar (λ _=>az _ aw (ac rfl)) (λ h=>?_);obtain ⟨oc,fs,hxy,hx,hy⟩:=ht (by simpa using h);refine aM _ (yK (by have:=fs.a.1; omega) oc.b oc.f hxy hx hy) (λ t ht=>?_);refine aM (·=true) ?_ (λ r hr=>ac hr);obtain ⟨T,⟨hT1,hT2⟩,hT⟩:=zq (y5 fs hbs);obtain ⟨G0z,hG⟩:=wt (c:=c) (s:=s) oc.a oc.d
 have lv:∀ m,(gr T.AC m).length<=1000:=λ m=>by
  have:=List.length_filter_le (λ q=>seen (cQ m q)) T.AC;unfold gr; rw [bx]; omega
 have ld:∀ (p q:aa) (F:Bk->Bk),((eD T.AC p q).map F).length<=1000:=λ p q F=>by
  have:=List.length_filter_le (λ z=>d9 (ofP p z) (ofP q z)) T.AC;rw [bx]; unfold eD; omega
 have g1:=hG c Z Z Z Z Z Z _ _ (lv _) (ld _ _ _) (ri fs hT hT1 hT2 oc.f oc.fn) (mg fs hT hT1 hT2 oc.b oc.bn oc.f oc.fn c.AN (by have:=oc.r; omega));have b1:t.1.Av=5->bN t.1<=60:=λ z=>Nat.le_trans ht.n1.1 (oc.bn (ht.n1.2.symm.trans z));have b2:t.2.Av=5->bN t.2<=60:=λ z=>Nat.le_trans ht.n2.1 (oc.fn (ht.n2.2.symm.trans z));have g2:=hG (au.mk c.AO c.AR c.AF c.AP c.A1 t.1 t.2 c.fID c.AN c.A2 c.Bf c.A8 c.AY c.A9) Z Z Z Z Z Z _ _ (lv _) (ld _ _ _) (ri fs hT hT1 hT2 ht.w2 b2) (mg fs hT hT1 hT2 ht.w1 b1 ht.w2 b2 c.AN (by have:=oc.r; omega));have e3:eD T.AC t.1 t.2=eD T.AC c.AL c.AI:=by unfold eD; simp only [ht.d]
 rw [ht.m1,ht.m2,e3] at g2;refine az _ g1.2 (az _ g2.2 (az _ (yk _ (by have:=g1.1; omega)) (bo rfl (az _ aw (ac rfl)))))
end Go.Ab.R06
end
section
namespace Go.Ab.R06
open Go.Ab
theorem sY (m:Nat):gI (m+60)=some true:=by kernel_rfl
theorem ub:Ev2 (λ n _=>gI n) (·=true):=⟨true,Z,60,λ n _ hn _=>by
  obtain ⟨m,rfl⟩:∃ m,n=m+60:=⟨n-60,by omega⟩
  exact sY m⟩
end Go.Ab.R06
end
