/- Texts of the proof, one behind the other. No statement is proved here. -/
import Derived.WalkKit
import Derived.Test.YtapfhipodpbflaaGreatDoorCards
import Derived.Test.YtapfhipodpbflaaGreatDoorTie
import Derived.SizedLaws
import Derived.ProofKit
import Derived.OpenShut
import Derived.ShutString
import Derived.LaidMore
import Derived.Stop.Joined
import Derived.Deep.DeepHandedRow
import Derived.Deep.DeepWitnessRowRef
import Derived.Test.YtapfhipodpbflaaGreatDoorZ46Ca
import Derived.Test.YtapfhipodpbflaaGreatDoorZ46Cb
import Derived.Test.YtapfhipodpbflaaGreatDoorZ46Cc
import Derived.Test.YtapfhipodpbflaaGreatDoorZ46Cd
import Derived.Test.YtapfhipodpbflaaGreatDoorZ46Ce
set_option maxHeartbeats 4000000
section
namespace Go.Ab.R06
open Go.Ab Go.Ab.RB Go.Lib
def WV (v:aa):Prop:=VV v\/(v.AI≠5/\aa.Bd v)
theorem WV.bd {v:aa}(h:WV v):aa.Bd v:=by rcases h with h|h; exact h.2; exact h.2
theorem lS {v:aa}(h:v.AI≠5)(q:Bk):cG v q=none:=by unfold cG; rw [if_neg h]
theorem WV.get {v x:aa}{q:Bk}(h:WV v)(hx:cG v q=some x):VV v:=by
 rcases h with h|h
 ·exact h
 ·rw [lS h.1] at hx; cases hx
theorem WV.of {v:aa}(h:WV v)(q:Bk):VV (ofP v q):=by
 rcases h with h|h
 ·exact h.of q
 ·unfold ofP; rw [lS h.1]; exact xb
theorem vG {v:aa}(h:WV v)(q:Bk):Ev2 (λ n _=>gb n v q) (·=isN (cG v q)):=by
 rcases h with h|h
 ·exact ul h q
 ·have hk:=h.2.bKeys;unfold a8 at hk;rw [lS h.1];simp only [gb];exact aK _ (qJ v.AT q O) (λ r _=>ax true (aU h.1 (ac Z)) (aV Z (ac Z)))
theorem rE {v:aa}(h:WV v)(q:Bk):Ev2 (λ n _=>gY n v q) (·=ofP v q):=by
 rcases h with h|h
 ·exact AJ h q
 ·unfold ofP;rw [lS h.1];simp only [gY];exact aU h.1 (ac Z)
theorem wX {v:aa}(h:WV v)(q:Bk):Ev2 (λ n _=>jU n v q) (·=ofP v q):=by
 simp only [jU];refine ax _ (vG h q) (ac ?_);unfold ofP
 cases cG v q with
 | some x=>simp only [isN,ro]; exact aa.eta x
 | none=>rfl
theorem tX {s:am}(hs:m8 s){v:aa}(h:WV v):Ev2 (λ n _=>fR n s v) (·=eJ s v):=by
 rcases h with h|h
 ·exact AM hs h
 ·simp only [fR];unfold eJ;exact ax _ (qY _ v (Nat.lt_succ_self _) h.2) (aU h.1 (ac (by rw [if_neg h.1])))
theorem WV.mask {v:aa}(h:WV v)(s:am):WV (eJ s v):=by
 rcases h with h|h
 ·exact .inl (h.mask s)
 ·refine .inr ?_;unfold eJ;rw [if_neg h.1];exact h
def zu (v:aa):Prop:=WV v/\∀ q,bW (ofP v q)<=60
theorem nG {v:aa}(h:WV v)(hn:v.AI=5->bW v<=60)(s:am):zu (eJ s v):=by
 refine ⟨h.mask s,λ q=>?_⟩;unfold ofP
 cases hx:cG (eJ s v) q with
 | none=>exact by decide
 | some x=>
  have h5:(eJ s v).AI=5:=by
   unfold cG at hx;split at hx
   ·assumption
   ·cases hx
  have h6:v.AI=5:=by
   rcases Decidable.em (v.AI=5) with e|e
   ·exact e
   ·unfold eJ at h5; rw [if_neg e] at h5; exact h5
  have:=xA hx;have:=wa s v;have:=hn h6;simp only [ro];omega
theorem vF {s:am}{T:ak}(hT:Ev2 (λ n _=>ff n s) (·=T))(hn:T.CL.length<=1000){a b:aa}(ha:WV a)(hb:WV b):Ev2 (λ n _=>gV n s a b) (·=cW T.CL a b):=by
 simp only [gV,ku];refine ax T.CL (ax _ hT (ac rfl)) ?_;refine ax (cW T.CL a b) (bp (f:=λ n m=>cY n a b T.CL m [] 0) ?_) (ac rfl);refine cr (λ n m i (l:List Bk)=>cY n a b T.CL m l i) T.CL.length (λ i l=>l=cW (T.CL.take i) a b) (λ i l hi hl k=>?_) (λ l hl=>?_) [] rfl
 ·subst hl
  have DD:(cW (T.CL.take i) a b).length<=1000:=by
   have:=List.length_filter_le (λ q=>j6 (ofP a q) (ofP b q)) (T.CL.take i);rw [qr] at this;unfold cW; omega
  simp only [cY];refine aV O ?_;refine ax (cW (T.CL.take (i+1)) a b) ?_ (al (aM O O) (k _ rfl));refine al O (ax _ (wX ha _) (ax _ (wX hb _) (ax _ (yq (ha.of _).2 (hb.of _).2) ?_)));rw [di _ hi];unfold cW at DD ⊢;rw [List.filter_append];refine ar (λ h=>al (by rw [ur]; omega) (ac ?_)) (λ h=>ac ?_)
  ·simp only [List.filter_cons,h,if_true,List.filter_nil]
  ·simp only [List.filter_cons,h,if_false,List.filter_nil,List.append_nil,Bool.false_eq_true]
 ·subst hl;simp only [cY];exact aU O (ac (by rw [List.take_length]))
def pO (q:Bk)(v:aa):Bk:=(([32,32,32,32]++q)++[32,61,32])++l9 v
def da (names:List Bk)(m:aa):List Bk:=(names.filter λ q=>seen (cG m q)).map λ q=>pO q (ofP m q)
theorem mkV (x:aa):aa.mk x.AI x.BY x.CK x.Ar x.AT=x:=aa.eta x
theorem zI (v:aa)(q:Bk):(isN (cG v q)).1=ofP v q:=by unfold ofP; cases cG v q <;> rfl
theorem yn {s:am}(hs:m8 s){T:ak}(hT:Ev2 (λ n _=>ff n s) (·=T))(hn:T.CL.length<=20)(hq:∀ x∈T.CL,x.length<=100){v:aa}(h:WV v)(hv:v.AI=5->bW v<=60) :
  Ev2 (λ n _=>gf n s v) (·=da T.CL (eJ s v)):=by
 simp only [gf];have hm:=nG h hv s;refine ax _ (tX hs h) (ax _ hT ?_);generalize eJ s v=m at hm;refine ax (da T.CL m) (bp (f:=λ n k=>cT n m T k [] 0) ?_) (ac rfl);refine cr (λ n k i (l:List Bk)=>cT n m T k l i) T.CL.length (λ i l=>l=da (T.CL.take i) m) (λ i l hi hl k=>?_) (λ l hl=>?_) [] rfl
 ·subst hl
  have DD:(da (T.CL.take i) m).length<=20:=by
   have:=List.length_filter_le (λ q=>seen (cG m q)) (T.CL.take i);rw [qr] at this;unfold da; rw [cl]; omega
  have hq1:=hq _ (Go.Ab.bK (l:=T.CL) (i:=(i:Int)) O);simp only [cT];refine aV O ?_;refine ax (da (T.CL.take (i+1)) m) ?_ (al (aM O O) (k _ Z))
  have e1:da (T.CL.take (i+1)) m=da (T.CL.take i) m++da [lat T.CL (i:Int)] m:=by
   rw [di _ hi]; unfold da; rw [List.filter_append,List.map_append]
  rw [e1];generalize lat T.CL (i:Int)=q at hq1;have hf:=rj (hm.1.of q) (Nat.le_trans (hm.2 q) (by decide));have hfl:=fM (hm.1.of q);have hnn:=hm.2 q;refine al O (ax _ (vG hm.1 q) ?_);refine ax (seen (cG m q)) ?_ (ar (λ hh=>?_) (λ hh=>ac ?_))
  ·cases e:cG m q with
   | none=>exact aU (by simp [isN]) (ac Z)
   | some x=>exact aV Z (ac Z)
  ·rw [mkV,zI];refine al (by simp only [bx,d4]; omega) (al (by simp only [bt,bx,d4]; omega) (ax _ hf (al (by simp only [bt,bx,d4]; omega) (al (by simp only [ur]; omega) (ac ?_)))));unfold da pO;simp only [List.filter_cons,hh,if_true,List.filter_nil,mv,py]
  ·unfold da;simp only [List.filter_cons,hh,if_false,List.filter_nil,py,List.append_nil,Bool.false_eq_true]
 ·subst hl;simp only [cT];exact aU O (ac (by rw [List.take_length]))
def ik (repl:List Bk)(a b:aa)(q:Bk):Bk:=(pO q (ofP a q)++[32,45,62,32])++l9 (ofP b q)++(if q∈repl then [32,40,110,101,119,32,111,98,106,101,99,116,41] else [])
theorem vh (l:List Bk)(hl:l.length<=1000000)(q:Bk):Ev2 (λ n _=>cD n l q) (·=decide (q∈l)):=by
 simp only [cD,ef];refine aK (λ r=>decide (0<=r)=decide (q∈l)) ?_ (λ r hr=>ac hr);refine li (bp (f:=λ _ m=>bz l q m 0) ?_);refine cr (λ _ m i (_:Unit)=>bz l q m i) l.length (λ i _=>q ∉ l.take i) (λ i _ hi hI k=>?_) (λ _ hI=>?_) () G
 ·simp only [bz];refine aV O (al O (ar (λ h=>ac ?_) (λ h=>al (aM O O) (k () ?_))))
  ·have:q∈l:=h ▸ Go.Ab.bK O;simp [this]
  ·rw [di _ hi];intro hm;rcases sm.1 hm with hm|hm
   ·exact hI hm
   ·exact h (List.mem_singleton.1 hm)
 ·simp only [bz];refine aU O (ac (ac ?_));rw [List.take_length] at hI;simp [hI]
theorem ux {m:aa}(hm:zu m)(q:Bk):Ev2 (λ n _=>gC n m q) (·=l9 (ofP m q)):=by
 simp only [gC];refine ax _ (vG hm.1 q) ?_;rw [mkV,zI];exact ax _ (rj (hm.1.of q) (Nat.le_trans (hm.2 q) (by decide))) (ac rfl)
theorem sa {s:am}(hs:m8 s){T:ak}(hT:Ev2 (λ n _=>ff n s) (·=T))(hn:T.CL.length<=20)(hq:∀ x∈T.CL,x.length<=100){a b:aa}(ha:WV a)(ha5:a.AI=5->bW a<=60)(hb:WV b)(hb5:b.AI=5->bW b<=60)(repl:List Bk)(hr:repl.length<=1000000) :
  Ev2 (λ n _=>eq n s a b repl) (·=(cW T.CL a b).map (ik repl (eJ s a) (eJ s b))):=by
 simp only [eq];have hma:=nG ha ha5 s;have hmb:=nG hb hb5 s;refine ax _ (tX hs ha) (ax _ (tX hs hb) (ax _ (vF hT O ha hb) ?_));have hcl:(cW T.CL a b).length<=20:=Nat.le_trans (List.length_filter_le _ _) hn;have hcq:∀ x∈cW T.CL a b,x.length<=100:=λ x hx=>hq x (List.mem_filter.1 hx).1;generalize cW T.CL a b=ch at hcl hcq;generalize eJ s a=p at hma;generalize eJ s b=r at hmb;refine ax (ch.map (ik repl p r)) (bp (f:=λ n k=>bX n repl p r ch k [] 0) ?_) (ac rfl);refine cr (λ n k i (l:List Bk)=>bX n repl p r ch k l i) ch.length (λ i l=>l=(ch.take i).map (ik repl p r)) (λ i l hi hl k=>?_) (λ l hl=>?_) [] rfl
 ·subst hl;have hq1:=hcq _ (Go.Ab.bK (l:=ch) (i:=(i:Int)) O);simp only [bX]
  have e1:(ch.take (i+1)).map (ik repl p r)=(ch.take i).map (ik repl p r)++[ik repl p r (lat ch (i:Int))]:=by
   rw [di _ hi,List.map_append]; rfl
  have k1:=k _ e1.symm;have hl2:((ch.take i).map (ik repl p r)).length<=20:=by rw [cl,qr]; omega
  generalize (ch.take i).map (ik repl p r)=out at k1 hl2;generalize lat ch (i:Int)=q at hq1 k1;have f1:=fM (hma.1.of q);have f2:=fM (hmb.1.of q);have n1:=hma.2 q;have n2:=hmb.2 q;refine aV O (al O (al (by simp only [bx,d4]; omega) (al (by simp only [bt,bx,d4]; omega) (ax _ (ux hma q) ?_))));refine al (by simp only [bt,bx,d4]; omega) (al (by simp only [bt,bx,d4]; omega) (ax _ (ux hmb q) (al (by simp only [bt,bx,d4]; omega) ?_)));refine ax (ik repl p r q) (ax _ (vh repl hr q) (ar (λ hh=>al (by simp only [bt,bx,d4]; omega) (ac ?_)) (λ hh=>ac ?_))) (al (by simp only [ur]; omega) (al (aM O O) k1))
  ·unfold ik pO;rw [if_pos (of_decide_eq_true hh)]
  ·unfold ik pO;rw [if_neg (λ z=>hh (decide_eq_true z)),List.append_nil]
 ·subst hl;simp only [bX];exact aU O (ac (by rw [List.take_length]))
theorem vR (r:Int):∃ x,ge r=some x/\x.length<=100:=by
 have key:∀ {c:Prop} [Decidable c] {a:Bk} {o:Option Bk},a.length<=100->(∃ x,o=some x/\x.length<=100)->∃ x,(if c then some a else o)=some x/\x.length<=100:=by
  intro c _ a o ha h;by_cases k:c
  ·exact ⟨a,if_pos k,ha⟩
  ·rw [if_neg k]; exact h
 unfold ge
 iterate 11 refine key (by decide) ?_
 exact ⟨_,Z,by decide⟩
def m7 (c:av)(sg pl rs:Bk):Bk:=if c.Dk=true then ((((sg++[32])++pl)++[58,32])++rs)++[44,32,105,109,112,111,114,116,101,100] else (((sg++[32])++pl)++[58,32])++rs
def chT (c:av)(sg pl rs:Bk)(rv rd:List Bk):List Bk:=if sg=[] then [] else if c.CW=1\/c.CW=5 then [m7 c sg pl rs]++rv else if c.CW=2\/c.CW=3 then [m7 c sg pl rs]++rd else [m7 c sg pl rs]
theorem AX {c:av}{sg pl rs:Bk}{rv rd:List Bk}(lv:rv.length<=1000)(ld:rd.length<=1000):(chT c sg pl rs rv rd).length<=2000:=by
 unfold chT
 repeat' split
 all_goals simp only [bt,bx,d4]; omega
structure yU (c:av)(sg pl rs:Bk):Prop where
 s:eO c=some sg
 sl:sg.length<=100
 p:gM c.CZ c.C1=some pl
 pl:pl.length<=1000
 r:ge c.C'=some rs
 rl:rs.length<=100
theorem yB {c:av}(ha:c.CZ.length<=300)(hd:c.C1.length<=300):∃ sg pl rs,yU c sg pl rs:=by
 obtain ⟨sg,hsg,Dy⟩:∃ x,eO c=some x/\x.length<=100:=by
  unfold eO
  repeat' (first|exact ⟨_,Z,by decide⟩|split)
 obtain ⟨pl,hpl,hpll⟩:∃ x,gM c.CZ c.C1=some x/\x.length<=1000:=by
  unfold gM;split
  ·exact ⟨_,Z,by omega⟩
  ·rw [fe (by simp only [bx,d4]; omega),fe (by simp only [bt,bx,d4]; omega),fe (by simp only [bt,bx,d4]; omega)];exact ⟨_,rfl,by simp only [bt,bx,d4]; omega⟩
 obtain ⟨rs,hrs,hrl⟩:=vR c.C';exact ⟨sg,pl,rs,hsg,Dy,hpl,hpll,hrs,hrl⟩
theorem xX {c:av}{s:am}{sg pl rs:Bk}(hp:yU c sg pl rs){d:av}(e1:d.CZ=c.CZ)(e2:d.C1=c.C1)(e3:d.CW=c.CW)(e4:d.C'=c.C')(e5:d.Df=c.Df)(e6:d.Dk=c.Dk){rv rd:List Bk}(lv:rv.length<=1000)(ld:rd.length<=1000)
  (hv:Ev2 (λ n _=>gf n s d.CR) (·=rv)) (hdd:Ev2 (λ n _=>eq n s d.CS d.CR d.CX) (·=rd)):Ev2 (λ n _=>eQ n d s) (·=chT c sg pl rs rv rd):=by
 obtain ⟨hsg,Dy,hpl,hpll,hrs,hrl⟩:=hp;simp only [eQ];have hsg':eO d=some sg:=by rw [<- hsg]; unfold eO; rw [e3,e5]
 unfold chT;refine ax sg (cu hsg' Z) (ar (λ h=>ac (by rw [if_pos h])) (λ h=>?_));simp only [if_neg h];rw [e1,e2,e3,e4,e6];refine al (by simp only [bx,d4]; omega) (ax pl (cu hpl Z) ?_);refine al (by simp only [bt,bx,d4]; omega) (al (by simp only [bt,bx,d4]; omega) (ax rs (cu hrs Z) (al (by simp only [bt,bx,d4]; omega) ?_)));refine ax (m7 c sg pl rs) (ar (λ h2=>al (by simp only [bt,bx,d4]; omega) (ac ?_)) (λ h2=>ac ?_)) ?_
 ·unfold m7;rw [if_pos h2]
 ·unfold m7;rw [if_neg h2]
 generalize m7 c sg pl rs=hd0;refine ax (decide (c.CW=1\/c.CW=5)) (ar (λ a=>ac (by simp [a])) (λ a=>ac (by simp [a]))) (ar (λ a=>?_) (λ a=>?_))
 ·rw [if_pos (of_decide_eq_true a)];exact ax _ hv (al (by rw [ur]; omega) (ac rfl))
 ·rw [if_neg (λ z=>a (decide_eq_true z))];refine ax (decide (c.CW=2\/c.CW=3)) (ar (λ a=>ac (by simp [a])) (λ a=>ac (by simp [a]))) (ar (λ a=>?_) (λ a=>?_))
  ·rw [if_pos (of_decide_eq_true a)];exact ax _ hdd (al (by rw [ur]; omega) (ac rfl))
  ·rw [if_neg (λ z=>a (decide_eq_true z))];exact ac rfl
theorem ry {v:aa}{Q:Prop}(hb:aa.Bd v)(hQ:Ev2 (λ n _=>et n v) (λ r=>r=0->GV v/\Q)):Ev2 (λ n _=>iT n v) (λ r=>r=true->VV v/\bW v<=60/\Q):=by
 simp only [iT]
 have key:Ev2 (λ n _=>(g6 n v 60).bind λ r2=>if r2=true then (et n v).bind λ r5=>some (decide (r5=0)) else some false) (λ r=>r=true->VV v/\bW v<=60/\Q) :=
  aK _ (zh hb 60 (by decide) (by decide)) (λ r hr=>ar (λ h=>aK _ hQ (λ q hq=>ac (λ z=>⟨⟨(hq (of_decide_eq_true z)).1,hb⟩,by have:=hr h; omega,(hq (of_decide_eq_true z)).2⟩))) (λ _=>ac (λ z=>by cases z)))
 refine aK (λ r=>r=true->VV v/\bW v<=60/\Q) (ar (λ _=>key) (λ _=>ar (λ _=>key) (λ _=>ac (λ z=>by cases z)))) (λ r hr=>ac hr)
structure OkC (c:av):Prop where
 a:c.CZ.length<=300
 d:c.C1.length<=300
 r:c.CX.length<=20
 b:WV c.CS
 bn:c.CS.AI=5->bW c.CS<=60
 f:WV c.CR
 fn:c.CR.AI=5->bW c.CR<=60
theorem ve {c:av}{Q:aa->Prop}(hb:av.Bd c)(hQ:∀ v,aa.Bd v->Ev2 (λ n _=>et n v) (λ r=>r=0->GV v/\Q v)):Ev2 (λ n _=>jp n c) (λ r=>r=true->OkC c/\Q c.CS/\(c.CR.AI≠5\/Q c.CR)):=by
 simp only [jp];refine aK (λ r=>r=false->c.CZ.length<=300/\c.C1.length<=300/\c.CX.length<=20) (ar (λ _=>ac (λ z=>by cases z)) (λ h1=>ar (λ _=>ac (λ z=>by cases z)) (λ h2=>ac (λ z=>by have:=of_decide_eq_false z; omega)))) (λ r hr=>ar (λ _=>ac (λ z=>by cases z)) (λ h=>?_));obtain ⟨a1,a2,a3⟩:=hr (by simpa using h);refine aK (λ r=>r=true->OkC c/\Q c.CS/\(c.CR.AI≠5\/Q c.CR)) ?_ (λ r hr=>ac hr);refine aK _ (ry hb.bBefore (hQ _ hb.bBefore)) (λ r1 h1=>ar (λ z1=>?_) (λ _=>ac (λ z=>by cases z)));refine aK _ (ry hb.bAfter (hQ _ hb.bAfter)) (λ r2 h2=>ar (λ z2=>ac (λ _=>?_)) (λ _=>ac (λ z=>?_)))
 ·exact ⟨⟨a1,a2,a3,.inl (h1 z1).1,λ _=>(h1 z1).2.1,.inl (h2 z2).1,λ _=>(h2 z2).2.1⟩,(h1 z1).2.2,.inr (h2 z2).2.2⟩
 ·have z:=of_decide_eq_true z;exact ⟨⟨a1,a2,a3,.inl (h1 z1).1,λ _=>(h1 z1).2.1,.inr ⟨by omega,hb.bAfter⟩,λ q=>by omega⟩,(h1 z1).2.2,.inl O⟩
theorem tv {v:aa}{q:Bk}:seen (cG v q)=true↔(ofP v q).AI≠0:=by
 unfold ofP
 cases cG v q with
 | none=>simp [seen,u3,aa.AI]
 | some x=>simp [seen]
abbrev five (v:aa):Int×Int×Bk×List aa×List Bk:=(v.AI,v.BY,v.CK,v.Ar,v.AT)
theorem Af (l:List Bk)(hl:l.length<=1000000):Ev2 (λ n _=>j8 n l l) (·=true):=by
 simp only [j8];refine aV trivial (rn () (bp (f:=λ _ m=>ek l l m 0) ?_) (ac rfl));refine cr (λ _ m i (_:Unit)=>ek l l m i) l.length (λ _ _=>True) (λ i _ hi _ k=>?_) (λ _ _=>?_) () trivial
 ·simp only [ek];exact aV O (al O (al O (aV trivial (al (aM O O) (k () trivial)))))
 ·simp only [ek];exact aU O (ac rfl)
end Go.Ab.R06
end
section
namespace Go.Ab.R06
open Go.Proofs Go.Ab Go.Ab.RB
attribute [local irreducible] awp iJ bw aB dh AV.sub M dQ
def kt (EU:Int):Option Bk :=if EU=1 then some ([110,101,119]:Bk)else if EU=2 then some ([99,104,97,110,103,101,100]:Bk)else if EU=3 then some ([114,101,113,117,105,114,101,115,32,97,32,110,101,119,32,111,98,106,101,99,116]:Bk)else if EU=4 then some ([116,97,105,110,116,101,100]:Bk)else if EU=5 then some ([116,114,105,103,103,101,114,101,100]:Bk)else if EU=6 then some ([114,101,113,117,101,115,116,101,100]:Bk)else if EU=7 then some ([110,111,116,32,105,110,32,116,104,101,32,99,111,110,102,105,103,117,114,97,116,105,111,110]:Bk)else if EU=8 then some ([110,111,32,115,117,99,104,32,105,110,115,116,97,110,99,101]:Bk)else if EU=9 then some ([108,101,102,116,32,111,118,101,114]:Bk)else if EU=10 then some ([100,101,115,116,114,111,121]:Bk)else if EU=11 then some ([110,111,116,32,107,110,111,119,110,32,121,101,116]:Bk)else some ([]:Bk)
theorem qn (EU:Int)(r:Bk)(h0:kt EU=some r):aB Tryz.prog 8 [eI EU] (·=.p (eS r)):=by
 unfold kt at h0;refine aR good Tryz.func8 Z Z Z λ w0=>mP (λ v:Bk=>.p (eS v)) ?_;refine nx 15 Z (fD [4,5] h0 Z (λ c1 h0=>?_) λ c1 h0=>?_)
 ·exact nx 6 Z (mQ (oi h0) Z (sr))
 refine nx 6 Z (fD [6,7] h0 Z (λ c2 h0=>?_) λ c2 h0=>?_)
 ·exact nx 6 Z (mQ (oi h0) Z (sr))
 refine nx 6 Z (fD [8,9] h0 Z (λ c3 h0=>?_) λ c3 h0=>?_)
 ·exact nx 6 Z (mQ (oi h0) Z (sr))
 refine nx 6 Z (fD [10,11] h0 Z (λ c4 h0=>?_) λ c4 h0=>?_)
 ·exact nx 6 Z (mQ (oi h0) Z (sr))
 refine nx 6 Z (fD [12,13] h0 Z (λ c5 h0=>?_) λ c5 h0=>?_)
 ·exact nx 6 Z (mQ (oi h0) Z (sr))
 refine nx 6 Z (fD [14,15] h0 Z (λ c6 h0=>?_) λ c6 h0=>?_)
 ·exact nx 6 Z (mQ (oi h0) Z (sr))
 refine nx 6 Z (fD [16,17] h0 Z (λ c7 h0=>?_) λ c7 h0=>?_)
 ·exact nx 6 Z (mQ (oi h0) Z (sr))
 refine nx 6 Z (fD [18,19] h0 Z (λ c8 h0=>?_) λ c8 h0=>?_)
 ·exact nx 6 Z (mQ (oi h0) Z (sr))
 refine nx 6 Z (fD [20,21] h0 Z (λ c9 h0=>?_) λ c9 h0=>?_)
 ·exact nx 6 Z (mQ (oi h0) Z (sr))
 refine nx 6 Z (fD [22,23] h0 Z (λ Fq h0=>?_) λ Fq h0=>?_)
 ·exact nx 6 Z (mQ (oi h0) Z (sr))
 refine nx 6 Z (fD [24,25] h0 Z (λ Fp h0=>?_) λ Fp h0=>?_)
 ·exact nx 6 Z (mQ (oi h0) Z (sr))
 refine nx 2 Z (mG (gE (t:=⟨[],[]⟩) Z Z) ?_);exact nx 5 Z (mQ (oi h0) Z (sr))
def kM (DU:av):Option Bk :=if DU.CW=1 then some ([43]:Bk)else if DU.CW=2 then some ([126]:Bk)else if DU.CW=3 then if DU.Df=true then some ([43,47,45]:Bk)else some ([45,47,43]:Bk)else if DU.CW=4 then some ([45]:Bk)else if DU.CW=5 then some ([60,61]:Bk)else some ([]:Bk)
theorem nS (DU:av)(r:Bk)(h0:kM DU=some r):aB Tryz.prog 30 [.agg (av.cs DU)] (·=.p (eS r)):=by
 unfold kM at h0;refine aR good Tryz.func30 Z Z Z λ w0=>mP (λ v:Bk=>.p (eS v)) ?_;refine nx 17 Z (fD [5,6] h0 Z (λ c1 h0=>?_) λ c1 h0=>?_)
 ·exact nx 6 Z (mQ (oi h0) Z (sr))
 refine nx 6 Z (fD [7,8] h0 Z (λ c2 h0=>?_) λ c2 h0=>?_)
 ·exact nx 6 Z (mQ (oi h0) Z (sr))
 refine nx 6 Z (fD [9,10] h0 Z (λ c3 h0=>?_) λ c3 h0=>?_)
 ·refine nx 7 Z (fB [12] h0 Z (λ c4 h0=>?_) λ c4 h0=>?_)
  ·exact nx 6 Z (mQ (oi h0) Z (sr))
  exact nx 7 Z (mQ (oi h0) Z (sr))
 refine nx 6 Z (fD [13,14] h0 Z (λ c5 h0=>?_) λ c5 h0=>?_)
 ·exact nx 6 Z (mQ (oi h0) Z (sr))
 refine nx 6 Z (fD [15,16] h0 Z (λ c6 h0=>?_) λ c6 h0=>?_)
 ·exact nx 6 Z (mQ (oi h0) Z (sr))
 exact nx 7 Z (mQ (oi h0) Z (sr))
def nK (addr_0:Bk)(deposed_1:Bk):Option Bk :=if deposed_1=([]:Bk) then some addr_0 else ck (addr_0.length+([32,40,100,101,112,111,115,101,100,32]:Bk).length<=9223372036854775807)<|ck ((addr_0++([32,40,100,101,112,111,115,101,100,32]:Bk)).length+deposed_1.length<=9223372036854775807)<|ck (((addr_0++([32,40,100,101,112,111,115,101,100,32]:Bk))++deposed_1).length+([41]:Bk).length<=9223372036854775807)<|some (((addr_0++([32,40,100,101,112,111,115,101,100,32]:Bk))++deposed_1)++([41]:Bk))
theorem us (addr_0:Bk)(deposed_1:Bk)(r:Bk)(h0:nK addr_0 deposed_1=some r):aB Tryz.prog 31 [eS addr_0,eS deposed_1] (·=.p (eS r)):=by
 unfold nK at h0;refine aR good Tryz.func31 Z Z Z λ w0=>mP (λ v:Bk=>.p (eS v)) ?_;refine nx 8 Z (oS Z Z ?_);refine nx 1 Z (fD [6] h0 Z (λ c1 h0=>?_) λ c1 h0=>?_)
 ·exact nx 7 Z (mQ (oi h0) Z (sr))
 refine nx 5 Z (oC h0 Z λ EQ h0=>?_);refine nx 1 Z (oC h0 Z λ GK h0=>?_);exact oC h0 Z λ G5 h0=>nx 3 Z (mQ (oi h0) Z (sr))
def dJ (n:Nat)(l_0:List az)(v_1:aa):Nat->Int->(List aa)->Option (List aa)|0,_,_=>none|m+1,i20,H3=>if i20<(v_1.Ar.length:Int) then ck ((0:Int)<=i20/\i20<(v_1.Ar.length:Int))<|ck ((0:Int)<=i20/\i20<(v_1.AT.length:Int))<|(gq n l_0 (lat v_1.AT i20)).bind λ It=>((if It.2=true then if It.1.C0=true then some (!decide ((lat v_1.Ar i20).AI=0))else some false else some false : Option Bool).bind λ Jn=>if Jn=true then some (3,0,([40,115,101,110,115,105,116,105,118,101,41]:Bk),[],[])else some ((lat v_1.Ar i20).AI,(lat v_1.Ar i20).BY,(lat v_1.Ar i20).CK,(lat v_1.Ar i20).Ar,(lat v_1.Ar i20).AT) : Option (Int×Int×Bk×(List aa)×(List Bk))).bind λ F0=>ck ((H3.length+[(aa.mk F0.1 F0.2.1 F0.2.2.1 F0.2.2.2.1 F0.2.2.2.2)].length)*80<=140737488355328)<|ck (inR (i20+1))<|dJ n l_0 v_1 m (i20+1) (H3++[(aa.mk F0.1 F0.2.1 F0.2.2.1 F0.2.2.2.1 F0.2.2.2.2)])else some H3
def hH (n:Nat)(l_0:List az)(v_1:aa):Option aa :=if v_1.AI=5 then(dJ n l_0 v_1 n 0 []).bind λ f40=>some (aa.mk 5 0 ([]:Bk) f40 v_1.AT)else some v_1
theorem mn (n:Nat)(l_0:List az)(v_1:aa)(r:aa)(h0:hH n l_0 v_1=some r):aB Tryz.prog 66 [eL aL l_0,.agg (aa.cs v_1)] (·=.p (.agg (aa.cs r))):=by
 unfold hH at h0;refine aR good Tryz.func66 Z Z Z λ w0=>mP (λ v:aa=>.p (.agg (aa.cs v))) ?_;refine nx 12 Z (fN [12] h0 Z (λ c1 h0=>?_) λ c1 h0=>?_)
 ·refine nx 16 Z (bd h0 λ If h1 h0=>?_);refine kE 0 If (λ HH=>⟨[(4,.ptr 4 0),(5,.ptr 5 0)],[(4,[.p (eI 0),.p (eI 0),.p (eS ([]:Bk)),.p (.val (.slice none 0 0)),.p (.val (.slice none 0 0))]),(5,[.p (eI 5),.p (eI 0),.p (eS ([]:Bk)),.vec 54 5 0 (HH.map ag),.p (eL eS v_1.AT)])]⟩) ?_ ?_
  ·exact nx 7 Z (mQ (oi h0) Z (ga ⟨sr,sr,sr,AV.sub_vec _ _ _ _,sr,trivial⟩))
  refine lG (λ (Gx:Int×(List aa))=>⟨[(0,.p (eL aL l_0)),(3,.ptr 3 0),(4,.ptr 4 0),(5,.ptr 5 0),(6,.p (eI Gx.1))],[(3,(aa.cs v_1).map .p),(4,[.p (eI 0),.p (eI 0),.p (eS ([]:Bk)),.p (.val (.slice none 0 0)),.p (.val (.slice none 0 0))]),(5,[.p (eI 5),.p (eI 0),.p (eS ([]:Bk)),.vec 54 5 0 (Gx.2.map ag),.p (eL eS v_1.AT)])]⟩) (λ m (Gx:Int×(List aa))=>dJ n l_0 v_1 m Gx.1 Gx.2) Y (0,[]) h1 (b7 (gk ⟨er rfl,er rfl,er rfl,er rfl,er rfl,trivial⟩ ⟨⟨_,rfl,⟨sr,sr,sr,sr,sr,trivial⟩⟩,⟨_,rfl,⟨sr,sr,sr,sr,sr,trivial⟩⟩,⟨_,rfl,⟨sr,sr,sr,AV.sub_nilvec _ _ _,sr,trivial⟩⟩,trivial⟩)) ?_;rintro m ⟨i20,H3⟩ h1;replace h1:dJ n l_0 v_1 (m+1) i20 H3=some If:=h1;rw [dJ] at h1;refine nx 6 rfl (oLl (f:=ag) rfl rfl ?_);refine nx 2 rfl (fD [21] h1 rfl (λ Kn h1=>?_) λ Kn h1=>?_)
  ·refine nx 9 Z (oE h1 aa.CM Z Z Y λ GM h1=>?_);refine nx 10 Z (oE h1 Y Z Z Y λ FQ h1=>?_);refine nx 1 Z (bd h1 λ It Kb h1=>?_);refine oK (lq _ l_0 (lat v_1.AT i20) _ Kb) Z ⟨sr,sr,trivial⟩ Tryz.call54 Z (nx 8 Z ?_);refine bd h1 λ Fo h2 h1=>kN Fo (λ HG=>⟨[(0,.p (eL aL l_0)),(3,.ptr 3 0),(4,.ptr 4 0),(5,.ptr 5 0),(6,.p (eI i20)),(7,.ptr 7 0)],[(3,(aa.cs v_1).map .p),(4,[.p (eI 0),.p (eI 0),.p (eS ([]:Bk)),.p (.val (.slice none 0 0)),.p (.val (.slice none 0 0))]),(5,[.p (eI 5),.p (eI 0),.p (eS ([]:Bk)),.vec 54 5 0 (H3.map ag),.p (eL eS v_1.AT)]),(7,[.p (eI HG.1),.p (eI HG.2.1),.p (eS HG.2.2.1),.p (eL ag HG.2.2.2.1),.p (eL eS HG.2.2.2.2)])]⟩) ?_ ?_
   ·refine nx 5 Z (mO Z (bE ag [(aa.mk Fo.1 Fo.2.1 Fo.2.2.1 Fo.2.2.2.1 Fo.2.2.2.2)] Z Z Z Z Z Z Z Z Z Z Z Z Z (by first|rfl|(simp only [mv,py,aa.CQ]; done)|(simp only [mv,py,aa.CQ]; rfl)) ?_));refine cc' h1 λ Gc h1=>mO Z (du ag H3 [(aa.mk Fo.1 Fo.2.1 Fo.2.2.1 Fo.2.2.2.1 Fo.2.2.2.2)] Z Z Z Z Z Z Z Z Z Z Z Z Z (λ x=>congrArg List.length (aa.CM x)) Z Z Z Z Gc ?_);refine nx 5 Z (oA h1 Z Z λ Gb h1=>?_);exact nx 2 Z (eX (i20+1,H3++[(aa.mk Fo.1 Fo.2.1 Fo.2.2.1 Fo.2.2.2.1 Fo.2.2.2.2)]) h1 (gE Z Z))
   refine nx 1 Z (bd h2 λ o49 h3 h2=>?_);refine kN o49 (λ v50=>⟨[(0,.p (eL aL l_0)),(3,.ptr 3 0),(4,.ptr 4 0),(5,.ptr 5 0),(6,.p (eI i20)),(7,.ptr 7 0),(48,.p (eB v50))],[(3,(aa.cs v_1).map .p),(4,[.p (eI 0),.p (eI 0),.p (eS ([]:Bk)),.p (.val (.slice none 0 0)),.p (.val (.slice none 0 0))]),(5,[.p (eI 5),.p (eI 0),.p (eS ([]:Bk)),.vec 54 5 0 (H3.map ag),.p (eL eS v_1.AT)]),(7,(aa.cs (lat v_1.Ar i20)).map .p)]⟩) ?_ ?_
   ·refine nx 1 Z (fB [48] h2 Z (λ Gm h2=>?_) λ Gm h2=>?_)
    ·exact nx 5 Z (eX _ (oi h2).symm (b7 (gk ⟨er Z,er Z,er Z,er Z,er Z,er Z,trivial⟩ ⟨⟨_,Z,⟨sr,sr,sr,sr,sr,trivial⟩⟩,⟨_,Z,⟨sr,sr,sr,sr,sr,trivial⟩⟩,⟨_,Z,⟨sr,sr,sr,sr,sr,trivial⟩⟩,⟨_,Z,⟨sr,sr,sr,jz _,jz _,trivial⟩⟩,trivial⟩)))
    exact nx 2 Z (eX _ (oi h2).symm (gE Z Z))
   refine nx 3 Z (fB [9,38,39,40] h3 Z (λ H4 h3=>?_) λ H4 h3=>?_)
   ·refine nx 4 Z (fB [42,43,44] h3 Z (λ Ht h3=>?_) λ Ht h3=>?_)
    ·exact nx 5 Z (eX _ (oi h3).symm (gE Z Z))
    exact nx 5 Z (eX _ (oi h3).symm (gE Z Z))
   exact nx 9 Z (eX _ (oi h3).symm (gE Z Z))
  exact nx 2 Z (eXi _ (oi h1).symm (gE Z Z))
 exact nx 7 Z (mQ (oi h0) Z (sr))
def dN (Dz:am)(name_1:Bk):Nat->Int->Option (Unit⊕(aD×Bool))|0,_=>none|m+1,i7=>if i7<(Dz.A'.length:Int) then ck ((0:Int)<=i7/\i7<(Dz.A'.length:Int))<|if (lat Dz.A' i7).By=name_1 then ck ((0:Int)<=i7/\i7<(Dz.A'.length:Int))<|some (.inr ((lat Dz.A' i7),true))else ck (inR (i7+1))<|dN Dz name_1 m (i7+1)else some (.inl ())
def jG (n:Nat)(Dz:am)(name_1:Bk):Option (aD×Bool) :=jn (dN Dz name_1 n 0) λ _q14=>some ((aD.mk ([]:Bk) 0 0 [] false),false)
theorem mf (n:Nat)(Dz:am)(name_1:Bk)(r:aD×Bool)(h0:jG n Dz name_1=some r):aB Tryz.prog 67 [.agg (am.cs Dz),eS name_1] (·=.tuple [.p (.agg (aD.cs r.1)),.p (eB r.2)]):=by
 unfold jG at h0;refine aR good Tryz.func67 Z Z Z λ w0=>mP (λ v:aD×Bool=>.tuple [.p (.agg (aD.cs v.1)),.p (eB v.2)]) ?_;refine nx 12 rfl ?_;obtain ⟨Gs,h1,Eg,hR0⟩:=fj h0;refine kEx 0 (λ F5:Unit=>Gs=.inl F5) (λ F5=>⟨[(4,.ptr 4 0)],[(4,[.p (eS ([]:Bk)),.p (eI 0),.p (eI 0),.p (.val (.slice none 0 0)),.p (eB false)])]⟩) (λ F5 hv=>?_) ?_
 ·have h0:=Eg _ hv;exact nx 8 Z (mQ (oi h0) Z (cm ⟨b9 ⟨.inl Z,.inl Z,.inl Z,.inr ⟨Z,Z⟩,.inl Z,trivial⟩,sr,trivial⟩))
 refine lG (λ (Ib:Int)=>⟨[(1,.p (eS name_1)),(2,.ptr 2 0),(4,.ptr 4 0),(6,.p (eI Ib))],[(2,(am.cs Dz).map .p),(4,[.p (eS ([]:Bk)),.p (eI 0),.p (eI 0),.p (.val (.slice none 0 0)),.p (eB false)])]⟩) (λ m (Ib:Int)=>dN Dz name_1 m Ib) Y 0 h1 (gE rfl rfl) ?_;rintro m i7 h1;replace h1:dN Dz name_1 (m+1) i7=some Gs:=h1;rw [dN] at h1;refine nx 6 rfl (oLl (f:=aO) rfl rfl ?_);refine nx 2 rfl (fD [11] h1 rfl (λ c8 h1=>?_) λ c8 h1=>?_)
 ·refine nx 9 Z (oE h1 aD.CM Z Z Y λ HU h1=>?_);refine nx 3 Z (oS Z Z ?_);refine nx 1 Z (fD [21] h1 Z (λ Fq h1=>?_) λ Fq h1=>?_)
  ·refine nx 6 Z (oE h1 aD.CM Z Z Y λ FT h1=>?_);exact nx 5 Z (mQ (hR0 _ (oi h1).symm) Z (cm ⟨sr,sr,trivial⟩))
  refine nx 4 Z (oA h1 Z Z λ Fu h1=>?_);exact nx 2 Z (eX (i7+1) h1 (gE Z Z))
 exact nx 2 Z (eXi _ (oi h1).symm (gE Z Z))
def eN (n:Nat)(r2:aa)(i40:Int)(Ek:aD×Bool):Nat->Int->(List aa)->Option (List aa)|0,_,_=>none|m+1,k58,F3=>if k58<(((lat r2.Ar i40).Ar).length:Int) then ck ((0:Int)<=k58/\k58<(((lat r2.Ar i40).Ar).length:Int))<|(hH n Ek.1.B' (lat ((lat r2.Ar i40).Ar) k58)).bind λ Hx=>ck ((F3.length+[Hx].length)*80<=140737488355328)<|ck (inR (k58+1))<|eN n r2 i40 Ek m (k58+1) (F3++[Hx])else some F3
def eP (n:Nat)(Dz:am)(r2:aa):Nat->Int->(List aa)->Option (List aa)|0,_,_=>none|m+1,i40,FD=>if i40<(r2.Ar.length:Int) then ck ((0:Int)<=i40/\i40<(r2.Ar.length:Int))<|ck ((0:Int)<=i40/\i40<(r2.AT.length:Int))<|(jG n Dz (lat r2.AT i40)).bind λ Ek=>((if Ek.2=true then some (decide ((lat r2.Ar i40).AI=4))else some false : Option Bool).bind λ t48=>if t48=true then(eN n r2 i40 Ek n 0 []).bind λ f68=>some (4,0,([]:Bk),f68,[])else some ((lat r2.Ar i40).AI,(lat r2.Ar i40).BY,(lat r2.Ar i40).CK,(lat r2.Ar i40).Ar,(lat r2.Ar i40).AT) : Option (Int×Int×Bk×(List aa)×(List Bk))).bind λ Hz=>ck ((FD.length+[(aa.mk Hz.1 Hz.2.1 Hz.2.2.1 Hz.2.2.2.1 Hz.2.2.2.2)].length)*80<=140737488355328)<|ck (inR (i40+1))<|eP n Dz r2 m (i40+1) (FD++[(aa.mk Hz.1 Hz.2.1 Hz.2.2.1 Hz.2.2.2.1 Hz.2.2.2.2)])else some FD
def iL (n:Nat)(Dz:am)(v_1:aa):Option aa :=if v_1.AI=5 then(hH n Dz.B' v_1).bind λ r2=>(eP n Dz r2 n 0 []).bind λ f78=>some (aa.mk 5 0 ([]:Bk) f78 r2.AT)else some v_1
theorem cN (n:Nat)(Dz:am)(v_1:aa)(r:aa)(h0:iL n Dz v_1=some r):aB Tryz.prog 34 [.agg (am.cs Dz),.agg (aa.cs v_1)] (·=.p (.agg (aa.cs r))):=by
 unfold iL at h0;refine aR good Tryz.func34 Z Z Z λ w0=>mP (λ v:aa=>.p (.agg (aa.cs v))) ?_;refine nx 13 Z (fN [15] h0 Z (λ c1 h0=>?_) λ c1 h0=>?_)
 ·refine nx 7 Z (bd h0 λ r2 e3 h0=>?_);refine oK (mn _ Dz.B' v_1 _ e3) Z ⟨sr,sr,trivial⟩ Tryz.call66 Z (nx 17 Z ?_);refine bd h0 λ o83 h1 h0=>kE 0 o83 (λ v84=>⟨[(4,.ptr 4 0),(6,.ptr 6 0)],[(4,[.p (eI 0),.p (eI 0),.p (eS ([]:Bk)),.p (.val (.slice none 0 0)),.p (.val (.slice none 0 0))]),(6,[.p (eI 5),.p (eI 0),.p (eS ([]:Bk)),.vec 78 5 0 (v84.map ag),.p (eL eS r2.AT)])]⟩) ?_ ?_
  ·exact nx 7 Z (mQ (oi h0) Z (ga ⟨sr,sr,sr,AV.sub_vec _ _ _ _,sr,trivial⟩))
  refine lG (λ (Js:Int×(List aa))=>⟨[(2,.ptr 2 0),(4,.ptr 4 0),(5,.ptr 5 0),(6,.ptr 6 0),(7,.p (eI Js.1))],[(2,(am.cs Dz).map .p),(4,[.p (eI 0),.p (eI 0),.p (eS ([]:Bk)),.p (.val (.slice none 0 0)),.p (.val (.slice none 0 0))]),(5,(aa.cs r2).map .p),(6,[.p (eI 5),.p (eI 0),.p (eS ([]:Bk)),.vec 78 5 0 (Js.2.map ag),.p (eL eS r2.AT)])]⟩) (λ m (Js:Int×(List aa))=>eP n Dz r2 m Js.1 Js.2) Y (0,[]) h1 (b7 (gk ⟨er rfl,er rfl,er rfl,er rfl,er rfl,trivial⟩ ⟨⟨_,rfl,⟨sr,sr,trivial⟩⟩,⟨_,rfl,⟨sr,sr,sr,sr,sr,trivial⟩⟩,⟨_,rfl,⟨sr,sr,sr,sr,sr,trivial⟩⟩,⟨_,rfl,⟨sr,sr,sr,AV.sub_nilvec _ _ _,sr,trivial⟩⟩,trivial⟩)) ?_;rintro m ⟨i40,FD⟩ h1;replace h1:eP n Dz r2 (m+1) i40 FD=some o83:=h1;rw [eP] at h1;refine nx 6 rfl (oLl (f:=ag) rfl rfl ?_);refine nx 2 rfl (fD [28] h1 rfl (λ IX h1=>?_) λ IX h1=>?_)
  ·refine nx 9 Z (oE h1 aa.CM Z Z Y λ F' h1=>?_);refine nx 5 Z (cc' h1 λ H0 h1=>?_);refine bd h1 λ Ek e46 h1=>mG (gE (t:=⟨[(2,.ptr 2 0),(4,.ptr 4 0),(5,.ptr 5 0),(6,.ptr 6 0),(7,.p (eI i40)),(8,.ptr 8 0)],[(2,(am.cs Dz).map .p),(4,[.p (eI 0),.p (eI 0),.p (eS ([]:Bk)),.p (.val (.slice none 0 0)),.p (.val (.slice none 0 0))]),(5,(aa.cs r2).map .p),(6,[.p (eI 5),.p (eI 0),.p (eS ([]:Bk)),.vec 78 5 0 (FD.map ag),.p (eL eS r2.AT)]),(8,(aa.cs (lat r2.Ar i40)).map .p)]⟩) Z Z) (mS ⟨2,[10,11],(by3 (.some λ i=>Nat.beq i 9) .none .none),(λ _=>[(2,.ptr 2 0),(4,.ptr 4 0),(5,.ptr 5 0),(6,.ptr 6 0),(7,.p (eI i40)),(8,.ptr 8 0)]),(by3 ([(2,[.p (eL aL Dz.B'),.p (eL aO Dz.A')]),(4,[.p (eI 0),.p (eI 0),.p (eS ([]:Bk)),.p (.val (.slice none 0 0)),.p (.val (.slice none 0 0))]),(5,[.p (eI r2.AI),.p (eI r2.BY),.p (eS r2.CK),.p (eL ag r2.Ar),.p (eL eS r2.AT)]),(6,[.p (eI 5),.p (eI 0),.p (eS ([]:Bk)),.vec 78 5 0 (FD.map ag),.p (eL eS r2.AT)]),(8,[.p (eI ((lat r2.Ar i40).AI)),.p (eI ((lat r2.Ar i40).BY)),.p (eS ((lat r2.Ar i40).CK)),.p (eL ag ((lat r2.Ar i40).Ar)),.p (eL eS ((lat r2.Ar i40).AT))])]) ([(9,[.p (eS ([]:Bk)),.p (eI 0),.p (eI 0),.p (.val (.slice none 0 0)),.p (eB false)]),(2,[.p (eL aL Dz.B'),.p (eL aO Dz.A')]),(4,[.p (eI 0),.p (eI 0),.p (eS ([]:Bk)),.p (.val (.slice none 0 0)),.p (.val (.slice none 0 0))]),(5,[.p (eI r2.AI),.p (eI r2.BY),.p (eS r2.CK),.p (eL ag r2.Ar),.p (eL eS r2.AT)]),(6,[.p (eI 5),.p (eI 0),.p (eS ([]:Bk)),.vec 78 5 0 (FD.map ag),.p (eL eS r2.AT)]),(8,[.p (eI ((lat r2.Ar i40).AI)),.p (eI ((lat r2.Ar i40).BY)),.p (eS ((lat r2.Ar i40).CK)),.p (eL ag ((lat r2.Ar i40).Ar)),.p (eL eS ((lat r2.Ar i40).AT))])]) ([(9,[.p (eS Ek.1.By),.p (eI Ek.1.C7),.p (eI Ek.1.C8),.p (eL aL Ek.1.B'),.p (eB Ek.1.CX)]),(9,[.p (eS ([]:Bk)),.p (eI 0),.p (eI 0),.p (.val (.slice none 0 0)),.p (eB false)]),(2,[.p (eL aL Dz.B'),.p (eL aO Dz.A')]),(4,[.p (eI 0),.p (eI 0),.p (eS ([]:Bk)),.p (.val (.slice none 0 0)),.p (.val (.slice none 0 0))]),(5,[.p (eI r2.AI),.p (eI r2.BY),.p (eS r2.CK),.p (eL ag r2.Ar),.p (eL eS r2.AT)]),(6,[.p (eI 5),.p (eI 0),.p (eS ([]:Bk)),.vec 78 5 0 (FD.map ag),.p (eL eS r2.AT)]),(8,[.p (eI ((lat r2.Ar i40).AI)),.p (eI ((lat r2.Ar i40).BY)),.p (eS ((lat r2.Ar i40).CK)),.p (eL ag ((lat r2.Ar i40).Ar)),.p (eL eS ((lat r2.Ar i40).AT))])]))⟩ Z Z Z ⟨Z,Z,Z,Z,Z,Z,trivial⟩ (lt2 ⟨Z,Z,Z,Z,Z,Z,trivial⟩ ⟨Z,Z,Z,Z,Z,Z,trivial⟩) Z Z Z Z ?_);refine ai (λ _=>.p (.agg (am.cs Dz))) Z Z Z (bq Z Z Y) (lt2 Z Z) (ah Z (af [(2,_)] ⟨.inl Z,trivial⟩ (λ sl Dy K hK=>ae Z (aC Z Z Z Z Z (Dy _ _ Z) Z Z Z hK)) (af [(2,_)] ⟨.inl Z,trivial⟩ (λ sl Dy K hK=>ae Z (aC Z Z Z Z Z (Dy _ _ Z) Z Z Z hK)) aj))) (ai (λ _=>.ptr 5 4) Z Z Z (bq Z Z Y) (lt2 Z Z) (ah Z (af [(5,_)] ⟨.inl Z,trivial⟩ (λ sl Dy K hK=>ae Z (au Z Z Z Z Z Z Z Z (Dy _ _ Z) hK)) (af [(5,_)] ⟨.inl Z,trivial⟩ (λ sl Dy K hK=>ae Z (au Z Z Z Z Z Z Z Z (Dy _ _ Z) hK)) aj))) ?_);refine ai (λ _=>.p (eL eS r2.AT)) Z Z Z (bq Z Z Y) (lt2 Z Z) (ah Z (af [(38,_)] ⟨.inr ⟨1,_,Z,Z,Z⟩,trivial⟩ (λ sl Dy K hK=>ae Z (bh Z Z Z Z Z (Dy _ _ Z) Z Z hK)) (af [(38,_)] ⟨.inr ⟨1,_,Z,Z,Z⟩,trivial⟩ (λ sl Dy K hK=>ae Z (bh Z Z Z Z Z (Dy _ _ Z) Z Z hK)) aj))) (ai (λ _=>.p (eI i40)) Z Z Z (bq Z Z Y) (lt2 Z Z) (ah Z (af [(7,_)] ⟨.inl Z,trivial⟩ (λ sl Dy K hK=>ae Z (bo Z Z Z (Dy _ _ Z) hK)) (af [(7,_)] ⟨.inl Z,trivial⟩ (λ sl Dy K hK=>ae Z (bo Z Z Z (Dy _ _ Z) hK)) aj))) ?_);refine ai (λ _=>.rptr [eS (lat r2.AT i40)]) Z Z Z (bq Z Z Y) (lt2 Z Z) (ah Z (af [(39,_),(40,_)] ⟨.inr ⟨2,_,Z,Z,Z⟩,.inr ⟨3,_,Z,Z,Z⟩,trivial⟩ (λ sl Dy K hK=>ae Z (dV (f:=eS) (l:=r2.AT) (λ x=>[eS x]) Z Z Z Z Z Z (Dy _ _ Z) Z (Dy _ _ Z) H0 Y Y hK)) (af [(39,_),(40,_)] ⟨.inr ⟨2,_,Z,Z,Z⟩,.inr ⟨3,_,Z,Z,Z⟩,trivial⟩ (λ sl Dy K hK=>ae Z (dV (f:=eS) (l:=r2.AT) (λ x=>[eS x]) Z Z Z Z Z Z (Dy _ _ Z) Z (Dy _ _ Z) H0 Y Y hK)) aj))) (ai (λ _=>.p (eS (lat r2.AT i40))) Z Z Z (bq Z Z Y) (lt2 Z Z) (ah Z (af [(41,_)] ⟨.inr ⟨4,_,Z,Z,Z⟩,trivial⟩ (λ sl Dy K hK=>ae Z (eA Z Z Z Z Z (Dy _ _ Z) Z hK)) (af [(41,_)] ⟨.inr ⟨4,_,Z,Z,Z⟩,trivial⟩ (λ sl Dy K hK=>ae Z (eA Z Z Z Z Z (Dy _ _ Z) Z hK)) aj))) ?_);refine ai (λ _=>.tuple [.p (.agg (aD.cs Ek.1)),.p (eB Ek.2)]) Z Z Z (bq Z Z Y) (lt2 Z Z) (ah Z (af [(37,_),(42,_)] ⟨.inr ⟨0,_,Z,Z,Z⟩,.inr ⟨5,_,Z,Z,Z⟩,trivial⟩ (λ sl Dy K hK=>ae Z (aI (mf _ Dz (lat r2.AT i40) _ e46) Z Z Z (ap (Dy _ _ Z) (ap (Dy _ _ Z) aJ)) ⟨sr,sr,trivial⟩ Tryz.call67 Z hK)) (af [(37,_),(42,_)] ⟨.inr ⟨0,_,Z,Z,Z⟩,.inr ⟨5,_,Z,Z,Z⟩,trivial⟩ (λ sl Dy K hK=>ae Z (aI (mf _ Dz (lat r2.AT i40) _ e46) Z Z Z (ap (Dy _ _ Z) (ap (Dy _ _ Z) aJ)) ⟨sr,sr,trivial⟩ Tryz.call67 Z hK)) aj))) (ai (λ _=>.tuple [.p (.agg (aD.cs Ek.1)),.p (eB Ek.2)]) Z Z Z (bq Z Z Y) (lt2 Z Z) (ah Z (af [(43,_)] ⟨.inr ⟨6,_,Z,Z,Z⟩,trivial⟩ (λ sl Dy K hK=>ae Z (bo Z Z Z (Dy _ _ Z) hK)) (af [(43,_)] ⟨.inr ⟨6,_,Z,Z,Z⟩,trivial⟩ (λ sl Dy K hK=>ae Z (bo Z Z Z (Dy _ _ Z) hK)) aj))) ?_);refine ai (λ _=>.p (.agg (aD.cs Ek.1))) Z Z Z (bq Z Z Y) (lt2 Z Z) (ah Z (af [(36,_)] ⟨.inr ⟨7,_,Z,Z,Z⟩,trivial⟩ (λ sl Dy K hK=>ae Z (jV Z Z Z (Dy _ _ Z) Z hK)) (af [(36,_)] ⟨.inr ⟨7,_,Z,Z,Z⟩,trivial⟩ (λ sl Dy K hK=>ae Z (jV Z Z Z (Dy _ _ Z) Z hK)) aj))) (ai (λ _=>.p (eB Ek.2)) Z Z Z (bq Z Z Y) (lt2 Z Z) (af [(36,_)] ⟨.inr ⟨7,_,Z,Z,Z⟩,trivial⟩ (λ sl Dy K hK=>ae Z (jV Z Z Z (Dy _ _ Z) Z hK)) (af [(36,_)] ⟨.inr ⟨7,_,Z,Z,Z⟩,trivial⟩ (λ sl Dy K hK=>ae Z (jV Z Z Z (Dy _ _ Z) Z hK)) (af [(36,_)] ⟨.inr ⟨7,_,Z,Z,Z⟩,trivial⟩ (λ sl Dy K hK=>ae Z (jV Z Z Z (Dy _ _ Z) Z hK)) aj))) ?_);refine eF (λ _=>.ptr 9 0) [] Z trivial Z Z (Go.Ab.cU Z Y) (lt2 (λ h=>absurd h (by decide)) Y) (λ sl Dy K hK=>ae Z (g7 Z Z Z Z Z hK)) (cK [(9,_),(44,_)] Z ⟨.inr ⟨10,_,Z,Z,Z⟩,.inr ⟨8,_,Z,Z,Z⟩,trivial⟩ Z (λ sl Dy K hK=>ae Z (cR Z Z Z (Dy _ _ Z) (Dy _ _ Z) Z Z Z (ph Z) hK)) ?_);refine ai (λ _=>.p (eB Ek.2)) Z Z Z (bq Z Z Y) (lt2 Z Z) (af [(45,_)] ⟨.inr ⟨9,_,Z,Z,Z⟩,trivial⟩ (λ sl Dy K hK=>ae Z (cF Z Z Z (Dy _ _ Z) hK)) (ah Z (ah Z aj))) (gg ?_);refine nx 2 Z (bd h1 λ F2 h2 h1=>?_);refine kN F2 (λ Jh=>⟨[(2,.ptr 2 0),(4,.ptr 4 0),(5,.ptr 5 0),(6,.ptr 6 0),(7,.p (eI i40)),(8,.ptr 8 0)],[(2,(am.cs Dz).map .p),(4,[.p (eI 0),.p (eI 0),.p (eS ([]:Bk)),.p (.val (.slice none 0 0)),.p (.val (.slice none 0 0))]),(5,(aa.cs r2).map .p),(6,[.p (eI 5),.p (eI 0),.p (eS ([]:Bk)),.vec 78 5 0 (FD.map ag),.p (eL eS r2.AT)]),(8,[.p (eI Jh.1),.p (eI Jh.2.1),.p (eS Jh.2.2.1),.p (eL ag Jh.2.2.2.1),.p (eL eS Jh.2.2.2.2)])]⟩) ?_ ?_
   ·refine nx 5 Z (mO Z (bE ag [(aa.mk F2.1 F2.2.1 F2.2.2.1 F2.2.2.2.1 F2.2.2.2.2)] Z Z Z Z Z Z Z Z Z Z Z Z Z (by first|rfl|(simp only [mv,py,aa.CQ]; done)|(simp only [mv,py,aa.CQ]; rfl)) ?_));refine cc' h1 λ GG h1=>mO Z (du ag FD [(aa.mk F2.1 F2.2.1 F2.2.2.1 F2.2.2.2.1 F2.2.2.2.2)] Z Z Z Z Z Z Z Z Z Z Z Z Z (λ x=>congrArg List.length (aa.CM x)) Z Z Z Z GG ?_);refine nx 5 Z (oA h1 Z Z λ hk75 h1=>?_);exact nx 2 Z (eX (i40+1,FD++[(aa.mk F2.1 F2.2.1 F2.2.2.1 F2.2.2.2.1 F2.2.2.2.2)]) h1 (gE Z Z))
   refine nx 1 Z (bd h2 λ o88 h3 h2=>?_);refine kN o88 (λ v89=>⟨[(2,.ptr 2 0),(4,.ptr 4 0),(5,.ptr 5 0),(6,.ptr 6 0),(7,.p (eI i40)),(8,.ptr 8 0),(9,.ptr 9 0),(51,.p (eB v89))],[(2,(am.cs Dz).map .p),(4,[.p (eI 0),.p (eI 0),.p (eS ([]:Bk)),.p (.val (.slice none 0 0)),.p (.val (.slice none 0 0))]),(5,(aa.cs r2).map .p),(6,[.p (eI 5),.p (eI 0),.p (eS ([]:Bk)),.vec 78 5 0 (FD.map ag),.p (eL eS r2.AT)]),(8,(aa.cs (lat r2.Ar i40)).map .p),(9,(aD.cs Ek.1).map .p)]⟩) ?_ ?_
   ·refine nx 1 Z (fB [51] h2 Z (λ c49 h2=>?_) λ c49 h2=>?_)
    ·refine nx 13 Z (bd h2 λ o90 h3 h2=>?_);refine kE 2 o90 (λ v91=>⟨[(2,.ptr 2 0),(4,.ptr 4 0),(5,.ptr 5 0),(6,.ptr 6 0),(7,.p (eI i40)),(8,.ptr 8 0),(11,.ptr 11 0)],[(2,(am.cs Dz).map .p),(4,[.p (eI 0),.p (eI 0),.p (eS ([]:Bk)),.p (.val (.slice none 0 0)),.p (.val (.slice none 0 0))]),(5,(aa.cs r2).map .p),(6,[.p (eI 5),.p (eI 0),.p (eS ([]:Bk)),.vec 78 5 0 (FD.map ag),.p (eL eS r2.AT)]),(8,(aa.cs (lat r2.Ar i40)).map .p),(11,[.p (eI 4),.p (eI 0),.p (eS ([]:Bk)),.vec 71 5 0 (v91.map ag),.p (.val (.slice none 0 0))])]⟩) ?_ ?_
     ·exact nx 5 Z (eX _ (oi h2).symm (b7 (gk ⟨er Z,er Z,er Z,er Z,er Z,er Z,trivial⟩ ⟨⟨_,Z,⟨sr,sr,trivial⟩⟩,⟨_,Z,⟨sr,sr,sr,sr,sr,trivial⟩⟩,⟨_,Z,⟨sr,sr,sr,sr,sr,trivial⟩⟩,⟨_,Z,⟨sr,sr,sr,sr,sr,trivial⟩⟩,⟨_,Z,⟨sr,sr,sr,AV.sub_vec _ _ _ _,jz _,trivial⟩⟩,trivial⟩)))
     refine lG (λ (Jr:Int×(List aa))=>⟨[(2,.ptr 2 0),(4,.ptr 4 0),(5,.ptr 5 0),(6,.ptr 6 0),(7,.p (eI i40)),(8,.ptr 8 0),(9,.ptr 9 0),(11,.ptr 11 0),(12,.p (eI Jr.1))],[(2,(am.cs Dz).map .p),(4,[.p (eI 0),.p (eI 0),.p (eS ([]:Bk)),.p (.val (.slice none 0 0)),.p (.val (.slice none 0 0))]),(5,(aa.cs r2).map .p),(6,[.p (eI 5),.p (eI 0),.p (eS ([]:Bk)),.vec 78 5 0 (FD.map ag),.p (eL eS r2.AT)]),(8,(aa.cs (lat r2.Ar i40)).map .p),(9,(aD.cs Ek.1).map .p),(11,[.p (eI 4),.p (eI 0),.p (eS ([]:Bk)),.vec 71 5 0 (Jr.2.map ag),.p (.val (.slice none 0 0))])]⟩) (λ m (Jr:Int×(List aa))=>eN n r2 i40 Ek m Jr.1 Jr.2) Y (0,[]) h3 (b7 (gk ⟨er rfl,er rfl,er rfl,er rfl,er rfl,er rfl,er rfl,er rfl,er rfl,trivial⟩ ⟨⟨_,rfl,⟨sr,sr,trivial⟩⟩,⟨_,rfl,⟨sr,sr,sr,sr,sr,trivial⟩⟩,⟨_,rfl,⟨sr,sr,sr,sr,sr,trivial⟩⟩,⟨_,rfl,⟨sr,sr,sr,sr,sr,trivial⟩⟩,⟨_,rfl,⟨sr,sr,sr,sr,sr,trivial⟩⟩,⟨_,rfl,⟨sr,sr,sr,sr,sr,trivial⟩⟩,⟨_,rfl,⟨sr,sr,sr,AV.sub_nilvec _ _ _,sr,trivial⟩⟩,trivial⟩)) ?_;rintro m ⟨k58,F3⟩ h3;replace h3:eN n r2 i40 Ek (m+1) k58 F3=some o90:=h3;rw [eN] at h3;refine nx 6 rfl (oLl (f:=ag) rfl rfl ?_);refine nx 2 rfl (fD [57] h3 rfl (λ c60 h3=>?_) λ c60 h3=>?_)
     ·refine nx 4 Z (cc' h3 λ IH h3=>?_);refine bd h3 λ Hx e63 h3=>cc' h3 λ HW h3=>mG (gE (t:=⟨[(2,.ptr 2 0),(4,.ptr 4 0),(5,.ptr 5 0),(6,.ptr 6 0),(7,.p (eI i40)),(8,.ptr 8 0),(9,.ptr 9 0),(11,.ptr 11 0),(12,.p (eI k58))],[(2,(am.cs Dz).map .p),(4,[.p (eI 0),.p (eI 0),.p (eS ([]:Bk)),.p (.val (.slice none 0 0)),.p (.val (.slice none 0 0))]),(5,(aa.cs r2).map .p),(6,[.p (eI 5),.p (eI 0),.p (eS ([]:Bk)),.vec 78 5 0 (FD.map ag),.p (eL eS r2.AT)]),(8,(aa.cs (lat r2.Ar i40)).map .p),(9,(aD.cs Ek.1).map .p),(11,[.p (eI 4),.p (eI 0),.p (eS ([]:Bk)),.vec 71 5 0 (F3.map ag),.p (.val (.slice none 0 0))])]⟩) Z Z) (mS ⟨2,[11,13],(by3 (.some λ i=>Nat.beq i 71||Nat.beq i 71) .none .none),(λ _=>[(2,.ptr 2 0),(4,.ptr 4 0),(5,.ptr 5 0),(6,.ptr 6 0),(7,.p (eI i40)),(8,.ptr 8 0),(9,.ptr 9 0),(11,.ptr 11 0),(12,.p (eI k58))]),(by3 ([(2,[.p (eL aL Dz.B'),.p (eL aO Dz.A')]),(4,[.p (eI 0),.p (eI 0),.p (eS ([]:Bk)),.p (.val (.slice none 0 0)),.p (.val (.slice none 0 0))]),(5,[.p (eI r2.AI),.p (eI r2.BY),.p (eS r2.CK),.p (eL ag r2.Ar),.p (eL eS r2.AT)]),(6,[.p (eI 5),.p (eI 0),.p (eS ([]:Bk)),.vec 78 5 0 (FD.map ag),.p (eL eS r2.AT)]),(8,[.p (eI ((lat r2.Ar i40).AI)),.p (eI ((lat r2.Ar i40).BY)),.p (eS ((lat r2.Ar i40).CK)),.p (eL ag ((lat r2.Ar i40).Ar)),.p (eL eS ((lat r2.Ar i40).AT))]),(9,[.p (eS Ek.1.By),.p (eI Ek.1.C7),.p (eI Ek.1.C8),.p (eL aL Ek.1.B'),.p (eB Ek.1.CX)]),(11,[.p (eI 4),.p (eI 0),.p (eS ([]:Bk)),.vec 71 5 0 (F3.map ag),.p (.val (.slice none 0 0))])]) ([(2,[.p (eL aL Dz.B'),.p (eL aO Dz.A')]),(4,[.p (eI 0),.p (eI 0),.p (eS ([]:Bk)),.p (.val (.slice none 0 0)),.p (.val (.slice none 0 0))]),(5,[.p (eI r2.AI),.p (eI r2.BY),.p (eS r2.CK),.p (eL ag r2.Ar),.p (eL eS r2.AT)]),(6,[.p (eI 5),.p (eI 0),.p (eS ([]:Bk)),.vec 78 5 0 (FD.map ag),.p (eL eS r2.AT)]),(8,[.p (eI ((lat r2.Ar i40).AI)),.p (eI ((lat r2.Ar i40).BY)),.p (eS ((lat r2.Ar i40).CK)),.p (eL ag ((lat r2.Ar i40).Ar)),.p (eL eS ((lat r2.Ar i40).AT))]),(9,[.p (eS Ek.1.By),.p (eI Ek.1.C7),.p (eI Ek.1.C8),.p (eL aL Ek.1.B'),.p (eB Ek.1.CX)]),(11,[.p (eI 4),.p (eI 0),.p (eS ([]:Bk)),.p (eL ag F3),.p (.val (.slice none 0 0))])]) ([(11,[.p (eI 4),.p (eI 0),.p (eS ([]:Bk)),.vec 71 5 0 ((F3++[Hx]).map ag),.p (.val (.slice none 0 0))]),(2,[.p (eL aL Dz.B'),.p (eL aO Dz.A')]),(4,[.p (eI 0),.p (eI 0),.p (eS ([]:Bk)),.p (.val (.slice none 0 0)),.p (.val (.slice none 0 0))]),(5,[.p (eI r2.AI),.p (eI r2.BY),.p (eS r2.CK),.p (eL ag r2.Ar),.p (eL eS r2.AT)]),(6,[.p (eI 5),.p (eI 0),.p (eS ([]:Bk)),.vec 78 5 0 (FD.map ag),.p (eL eS r2.AT)]),(8,[.p (eI ((lat r2.Ar i40).AI)),.p (eI ((lat r2.Ar i40).BY)),.p (eS ((lat r2.Ar i40).CK)),.p (eL ag ((lat r2.Ar i40).Ar)),.p (eL eS ((lat r2.Ar i40).AT))]),(9,[.p (eS Ek.1.By),.p (eI Ek.1.C7),.p (eI Ek.1.C8),.p (eL aL Ek.1.B'),.p (eB Ek.1.CX)]),(11,[.p (eI 4),.p (eI 0),.p (eS ([]:Bk)),.p (eL ag F3),.p (.val (.slice none 0 0))])]))⟩ Z Z Z ⟨Z,Z,Z,Z,Z,Z,Z,Z,Z,trivial⟩ (lt2 ⟨Z,Z,Z,Z,Z,Z,Z,Z,Z,trivial⟩ ⟨Z,Z,Z,Z,Z,Z,Z,Z,Z,trivial⟩) Z Z Z Z ?_);refine ai (λ _=>.ptr 11 3) Z Z Z (bq Z Z Y) (lt2 Z Z) (ah Z (af [(11,_)] ⟨.inl Z,trivial⟩ (λ sl Dy K hK=>ae Z (au Z Z Z Z Z Z Z Z (Dy _ _ Z) hK)) (af [(11,_)] ⟨.inl Z,trivial⟩ (λ sl Dy K hK=>ae Z (au Z Z Z Z Z Z Z Z (Dy _ _ Z) hK)) aj))) (ai (by3 (.vec 71 5 0 (F3.map ag)) (.p (eL ag F3)) (.p (eL ag F3))) Z Z Z (bq Z Z Y) (lt2 Z Z) (ah Z (ah Z (af [(60,_)] ⟨.inr ⟨0,_,Z,Z,Z⟩,trivial⟩ (λ sl Dy K hK=>ae Z (bh Z Z Z Z Z (Dy _ _ Z) Z Z hK)) aj))) ?_);refine ai (λ _=>.ptr 9 3) Z Z Z (bq Z Z Y) (lt2 Z Z) (ah Z (af [(9,_)] ⟨.inl Z,trivial⟩ (λ sl Dy K hK=>ae Z (au Z Z Z Z Z Z Z Z (Dy _ _ Z) hK)) (af [(9,_)] ⟨.inl Z,trivial⟩ (λ sl Dy K hK=>ae Z (au Z Z Z Z Z Z Z Z (Dy _ _ Z) hK)) aj))) (ai (λ _=>.p (eL aL Ek.1.B')) Z Z Z (bq Z Z Y) (lt2 Z Z) (ah Z (af [(62,_)] ⟨.inr ⟨2,_,Z,Z,Z⟩,trivial⟩ (λ sl Dy K hK=>ae Z (bh Z Z Z Z Z (Dy _ _ Z) Z Z hK)) (af [(62,_)] ⟨.inr ⟨2,_,Z,Z,Z⟩,trivial⟩ (λ sl Dy K hK=>ae Z (bh Z Z Z Z Z (Dy _ _ Z) Z Z hK)) aj))) ?_);refine ai (λ _=>.ptr 8 3) Z Z Z (bq Z Z Y) (lt2 Z Z) (ah Z (af [(8,_)] ⟨.inl Z,trivial⟩ (λ sl Dy K hK=>ae Z (au Z Z Z Z Z Z Z Z (Dy _ _ Z) hK)) (af [(8,_)] ⟨.inl Z,trivial⟩ (λ sl Dy K hK=>ae Z (au Z Z Z Z Z Z Z Z (Dy _ _ Z) hK)) aj))) (ai (λ _=>.p (eL ag ((lat r2.Ar i40).Ar))) Z Z Z (bq Z Z Y) (lt2 Z Z) (ah Z (af [(64,_)] ⟨.inr ⟨4,_,Z,Z,Z⟩,trivial⟩ (λ sl Dy K hK=>ae Z (bh Z Z Z Z Z (Dy _ _ Z) Z Z hK)) (af [(64,_)] ⟨.inr ⟨4,_,Z,Z,Z⟩,trivial⟩ (λ sl Dy K hK=>ae Z (bh Z Z Z Z Z (Dy _ _ Z) Z Z hK)) aj))) ?_);refine ai (λ _=>.p (eI k58)) Z Z Z (bq Z Z Y) (lt2 Z Z) (ah Z (af [(12,_)] ⟨.inl Z,trivial⟩ (λ sl Dy K hK=>ae Z (bo Z Z Z (Dy _ _ Z) hK)) (af [(12,_)] ⟨.inl Z,trivial⟩ (λ sl Dy K hK=>ae Z (bo Z Z Z (Dy _ _ Z) hK)) aj))) (ai (λ _=>.rptr (aa.cs (lat ((lat r2.Ar i40).Ar) k58))) Z Z Z (bq Z Z Y) (lt2 Z Z) (ah Z (af [(65,_),(66,_)] ⟨.inr ⟨5,_,Z,Z,Z⟩,.inr ⟨6,_,Z,Z,Z⟩,trivial⟩ (λ sl Dy K hK=>ae Z (dV (f:=ag) (l:=(lat r2.Ar i40).Ar) aa.cs Z Z Z Z Z Z (Dy _ _ Z) Z (Dy _ _ Z) IH aa.CM Y hK)) (af [(65,_),(66,_)] ⟨.inr ⟨5,_,Z,Z,Z⟩,.inr ⟨6,_,Z,Z,Z⟩,trivial⟩ (λ sl Dy K hK=>ae Z (dV (f:=ag) (l:=(lat r2.Ar i40).Ar) aa.cs Z Z Z Z Z Z (Dy _ _ Z) Z (Dy _ _ Z) IH aa.CM Y hK)) aj))) ?_);refine ai (λ _=>.p (.agg (aa.cs (lat ((lat r2.Ar i40).Ar) k58)))) Z Z Z (bq Z Z Y) (lt2 Z Z) (ah Z (af [(67,_)] ⟨.inr ⟨7,_,Z,Z,Z⟩,trivial⟩ (λ sl Dy K hK=>ae Z (jR Z Z Z Z Z (Dy _ _ Z) Z hK)) (af [(67,_)] ⟨.inr ⟨7,_,Z,Z,Z⟩,trivial⟩ (λ sl Dy K hK=>ae Z (jR Z Z Z Z Z (Dy _ _ Z) Z hK)) aj))) (ai (λ _=>.p (.agg (aa.cs Hx))) Z Z Z (bq Z Z Y) (lt2 Z Z) (ah Z (ah Z (af [(63,_),(68,_)] ⟨.inr ⟨3,_,Z,Z,Z⟩,.inr ⟨8,_,Z,Z,Z⟩,trivial⟩ (λ sl Dy K hK=>ae Z (aI (mn _ Ek.1.B' (lat ((lat r2.Ar i40).Ar) k58) _ e63) Z Z Z (ap (Dy _ _ Z) (ap (Dy _ _ Z) aJ)) ⟨sr,sr,trivial⟩ Tryz.call66 Z hK)) aj))) ?_);refine ai (λ _=>.p (eL ag [Hx])) Z Z Z (bq Z Z Y) (lt2 Z Z) (ah Z (ah Z (af [(69,_)] ⟨.inr ⟨9,_,Z,Z,Z⟩,trivial⟩ (λ sl Dy K hK=>ae Z (bE ag [Hx] Z Z Z Z Z Z (ce (Dy _ _ Z) Z dU) Z Z Z Z Z Z (by first|rfl|(simp only [mv,py,aa.CQ]; done)|(simp only [mv,py,aa.CQ]; rfl)) hK)) aj))) (eF (λ _=>.vec 71 5 0 ((F3++[Hx]).map ag)) [(61,_),(70,_)] Z ⟨.inr ⟨1,_,Z,Z,Z⟩,.inr ⟨10,_,Z,Z,Z⟩,trivial⟩ Z Z (Go.Ab.cU Z Y) (lt2 (λ h=>absurd h (by decide)) Y) (λ sl Dy K hK=>ae Z (du ag F3 [Hx] Z Z Z Z Z Z Z Z (Dy _ _ Z) Z Z (Dy _ _ Z) Z (λ x=>congrArg List.length (aa.CM x)) Z Z Z Z HW hK)) ?_);refine ai (λ _=>.ptr 11 3) Z Z Z (bq Z Z Y) (lt2 Z Z) (ah Z (af [(11,_)] ⟨.inl Z,trivial⟩ (λ sl Dy K hK=>ae Z (au Z Z Z Z Z Z Z Z (Dy _ _ Z) hK)) (ah Z aj))) (cK [(71,_),(72,_)] Z ⟨.inr ⟨11,_,Z,Z,Z⟩,.inr ⟨12,_,Z,Z,Z⟩,trivial⟩ Z (λ sl Dy K hK=>ae Z (cR Z Z Z (Dy _ _ Z) (Dy _ _ Z) Z Z Z (ph Z) hK)) ?_);refine gg (nx 3 Z ?_);exact oA h3 Z Z λ J3 h3=>nx 2 Z (eX (k58+1,F3++[Hx]) h3 (gE Z Z))
     exact nx 2 Z (eXi _ (oi h3).symm (gE Z Z))
    exact nx 2 Z (eX _ (oi h2).symm (gE Z Z))
   refine nx 3 Z (fB [10,45,46,47] h3 Z (λ Ki h3=>?_) λ Ki h3=>?_)
   ·exact nx 5 Z (eX _ (oi h3).symm (gE Z Z))
   exact nx 5 Z (eX _ (oi h3).symm (gE Z Z))
  exact nx 2 Z (eXi _ (oi h1).symm (gE Z Z))
 exact nx 7 Z (mQ (oi h0) Z (sr))
def cI:Nat->Int->Option Bk|0,_=>none|n+1,Em=>(if 0<=Em then some (decide (Em<=9))else some false : Option Bool).bind λ t2=>if t2=true then ck (inR (48+Em))<|ck ((0:Int)<=IntKind.wrap .u8 (48+Em)/\IntKind.wrap .u8 (48+Em)<256)<|some [u8 (IntKind.wrap .u8 (48+Em))] else(if Em<0 then some (decide ((-10)<Em))else some false : Option Bool).bind λ t7=>if t7=true then ck (inR (0-Em))<|((cI n) (0-Em)).bind λ El=>ck (([45]:Bk).length+El.length<=9223372036854775807)<|some (([45]:Bk)++El)else if Em<0 then ck ((10:Int)≠0)<|((cI n) (IntKind.wrap .i64 (Em.tdiv 10))).bind λ G1=>ck ((10:Int)≠0)<|ck (inR (0-(Em.tmod 10)))<|((cI n) (0-(Em.tmod 10))).bind λ I6=>ck (G1.length+I6.length<=9223372036854775807)<|some (G1++I6)else ck ((10:Int)≠0)<|((cI n) (IntKind.wrap .i64 (Em.tdiv 10))).bind λ FX=>ck ((10:Int)≠0)<|((cI n) (Em.tmod 10)).bind λ D4=>ck (FX.length+D4.length<=9223372036854775807)<|some (FX++D4)
theorem qj (n:Nat):∀ (Em:Int) (r:Bk),cI n Em=some r->aB Tryz.prog 102 [eI Em] (·=.p (eS r)):=by
 induction n with
 | zero=>intro Em r h0; cases h0
 | succ n ih=>
 have D2:=ih;intro Em r h0;rw [cI] at h0;refine aR good Tryz.func102 Z Z Z λ w0=>mP (λ v:Bk=>.p (eS v)) ?_;refine nx 6 Z (bd h0 λ Ix h1 h0=>?_);refine kN Ix (λ Io=>⟨[(0,.p (eI Em)),(8,.p (eB Io))],[]⟩) ?_ ?_
 ·refine nx 1 Z (fB [8] h0 Z (λ c3 h0=>?_) λ c3 h0=>?_)
  ·refine nx 4 Z (oA h0 Z Z λ G5 h0=>?_);refine nx 1 Z (cc' h0 λ hk5 h0=>?_);refine mO Z (bE eU [u8 (IntKind.wrap .u8 (48+Em))] Z Z Z Z Z Z Z Z Z Z Z Z Z (congr (congrArg List.cons (yF hk5)) Z) ?_);refine mO Z (tg [u8 (IntKind.wrap .u8 (48+Em))] Z Z Z Z Z Z Z Z Z Z Z ?_);exact nx 3 Z (mQ (oi h0) Z (sr))
  refine nx 4 Z (bd h0 λ FC h1 h0=>?_);refine kN FC (λ Gu=>⟨[(0,.p (eI Em)),(19,.p (eB Gu))],[]⟩) ?_ ?_
  ·refine nx 1 Z (fB [19] h0 Z (λ c8 h0=>?_) λ c8 h0=>?_)
   ·refine nx 4 Z (cc' h0 λ HU h0=>?_);refine mO Z (zB Z Z Z Z HU ?_);refine bd h0 λ El Gt h0=>oK (D2 (0-Em) _ Gt) Z ⟨sr,trivial⟩ Tryz.call102 Z (oC h0 Z λ Fu h0=>?_);exact nx 3 Z (mQ (oi h0) Z (sr))
   refine nx 8 Z (fD [25] h0 Z (λ FI h0=>?_) λ FI h0=>?_)
   ·refine nx 4 Z (cc' h0 λ Fg h0=>?_);refine mO Z (sd Z Z Z Z Z Z Fg ?_);refine bd h0 λ G1 IV h0=>oK (D2 (IntKind.wrap .i64 (Em.tdiv 10)) _ IV) Z ⟨sr,trivial⟩ Tryz.call102 Z (nx 1 Z ?_);refine cc' h0 λ FS h0=>mO Z (sd Z Z Z Z Z Z FS ?_);refine cc' h0 λ Ff h0=>mO Z (zB Z Z Z Z Ff ?_);refine bd h0 λ I6 e20 h0=>oK (D2 (0-(Em.tmod 10)) _ e20) Z ⟨sr,trivial⟩ Tryz.call102 Z (oC h0 Z λ GN h0=>?_);exact nx 3 Z (mQ (oi h0) Z (sr))
   refine nx 5 Z (cc' h0 λ FR h0=>?_);refine mO Z (sd Z Z Z Z Z Z FR ?_);refine bd h0 λ FX IT h0=>oK (D2 (IntKind.wrap .i64 (Em.tdiv 10)) _ IT) Z ⟨sr,trivial⟩ Tryz.call102 Z (nx 1 Z ?_);refine cc' h0 λ FP h0=>mO Z (sd Z Z Z Z Z Z FP ?_);refine bd h0 λ D4 GT h0=>oK (D2 (Em.tmod 10) _ GT) Z ⟨sr,trivial⟩ Tryz.call102 Z (oC h0 Z λ H2 h0=>?_);exact nx 3 Z (mQ (oi h0) Z (sr))
  refine nx 4 Z (fD [15,16] h1 Z (λ c6 h1=>?_) λ c6 h1=>?_)
  ·exact nx 4 Z (eX _ (oi h1).symm (gE Z Z))
  exact nx 4 Z (eX _ (oi h1).symm (gE Z Z))
 refine nx 4 Z (fD [4,5] h1 Z (λ c1 h1=>?_) λ c1 h1=>?_)
 ·exact nx 4 Z (eX _ (oi h1).symm (gE Z Z))
 exact nx 4 Z (eX _ (oi h1).symm (gE Z Z))
def fU:Nat->Int->Option Bk|0,_=>none|n+1,DU=>ck ((16:Int)≠0)<|ck ((16:Int)≠0)<|ck (inR ((DU.tmod 16)+1))<|ck ((0:Int)<=DU.tmod 16/\DU.tmod 16<=(DU.tmod 16)+1/\(DU.tmod 16)+1<=(([48,49,50,51,52,53,54,55,56,57,97,98,99,100,101,102]:Bk).length:Int))<|if DU<16 then some (sub ([48,49,50,51,52,53,54,55,56,57,97,98,99,100,101,102]:Bk) (DU.tmod 16) ((DU.tmod 16)+1))else ck ((16:Int)≠0)<|((fU n) (IntKind.wrap .i64 (DU.tdiv 16))).bind λ r7=>ck (r7.length+(sub ([48,49,50,51,52,53,54,55,56,57,97,98,99,100,101,102]:Bk) (DU.tmod 16) ((DU.tmod 16)+1)).length<=9223372036854775807)<|some (r7++(sub ([48,49,50,51,52,53,54,55,56,57,97,98,99,100,101,102]:Bk) (DU.tmod 16) ((DU.tmod 16)+1)))
theorem qC (n:Nat):∀ (DU:Int) (r:Bk),fU n DU=some r->aB Tryz.prog 158 [eI DU] (·=.p (eS r)):=by
 induction n with
 | zero=>intro DU r h0; cases h0
 | succ n ih=>
 have EP:=ih;intro DU r h0;rw [fU] at h0;refine aR good Tryz.func158 Z Z Z λ w0=>mP (λ v:Bk=>.p (eS v)) ?_;refine nx 7 Z (cc' h0 λ FU h0=>?_);refine mO Z (sd Z Z Z Z Z Z FU ?_);refine nx 1 Z (cc' h0 λ EQ h0=>?_);refine mO Z (sd Z Z Z Z Z Z EQ ?_);refine oA h0 Z Z λ GK h0=>oP h0 Z Z Z λ G5 h0=>nx 8 Z (fD [11] h0 Z (λ c5 h0=>?_) λ c5 h0=>?_)
 ·exact nx 7 Z (mQ (oi h0) Z (sr))
 refine nx 5 Z (cc' h0 λ HE h0=>?_);refine mO Z (sd Z Z Z Z Z Z HE ?_);refine bd h0 λ r7 e8 h0=>oK (EP (IntKind.wrap .i64 (DU.tdiv 16)) _ e8) Z ⟨sr,trivial⟩ Tryz.call158 Z (nx 1 Z ?_);exact oC h0 Z λ HU h0=>nx 3 Z (mQ (oi h0) Z (sr))
def iy (n:Nat)(b_0:Int):Option Bk :=if b_0=10 then some ([92,110]:Bk)else if b_0=13 then some ([92,114]:Bk)else if b_0=9 then some ([92,116]:Bk)else if b_0=34 then some ([92,34]:Bk)else if b_0=92 then some ([92,92]:Bk)else(if b_0<32 then some true else some (decide (b_0=127)) : Option Bool).bind λ t7=>if t7=true then ck (inR (b_0))<|(fU n b_0).bind λ El=>ck (([92,117,123]:Bk).length+El.length<=9223372036854775807)<|ck ((([92,117,123]:Bk)++El).length+([125]:Bk).length<=9223372036854775807)<|some ((([92,117,123]:Bk)++El)++([125]:Bk))else ck ((0:Int)<=b_0/\b_0<256)<|some [u8 b_0]
theorem pK (n:Nat)(b_0:Int)(r:Bk)(h0:iy n b_0=some r):aB Tryz.prog 131 [eK .u8 b_0] (·=.p (eS r)):=by
 unfold iy at h0;refine aR good Tryz.func131 Z Z Z λ w0=>mP (λ v:Bk=>.p (eS v)) ?_;refine nx 15 Z (fD [4,5] h0 Z (λ c1 h0=>?_) λ c1 h0=>?_)
 ·exact nx 6 Z (mQ (oi h0) Z (sr))
 refine nx 6 Z (fD [6,7] h0 Z (λ c2 h0=>?_) λ c2 h0=>?_)
 ·exact nx 6 Z (mQ (oi h0) Z (sr))
 refine nx 6 Z (fD [8,9] h0 Z (λ c3 h0=>?_) λ c3 h0=>?_)
 ·exact nx 6 Z (mQ (oi h0) Z (sr))
 refine nx 6 Z (fD [10,11] h0 Z (λ c4 h0=>?_) λ c4 h0=>?_)
 ·exact nx 6 Z (mQ (oi h0) Z (sr))
 refine nx 6 Z (fD [12,13] h0 Z (λ c5 h0=>?_) λ c5 h0=>?_)
 ·exact nx 6 Z (mQ (oi h0) Z (sr))
 refine nx 4 Z (bd h0 λ Gr h1 h0=>?_);refine kN Gr (λ FJ=>⟨[(0,.p (eK .u8 b_0)),(19,.p (eB FJ))],[]⟩) ?_ ?_
 ·refine nx 1 Z (fB [19] h0 Z (λ c8 h0=>?_) λ c8 h0=>?_)
  ·refine nx 4 Z (cc' h0 λ HU h0=>?_);refine mO Z (ez Z Z Z Z Z Z Z Z (ic HU) ?_);refine bd h0 λ El Gt h0=>oK (qC _ b_0 _ Gt) Z ⟨sr,trivial⟩ Tryz.call158 Z (oC h0 Z λ Fu h0=>?_);exact oC h0 Z λ Gf h0=>nx 3 Z (mQ (oi h0) Z (sr))
  refine nx 5 Z (cc' h0 λ Fg h0=>?_);refine mO Z (bE eU [u8 b_0] Z Z Z Z Z Z Z Z Z Z Z Z Z (congr (congrArg List.cons (yF Fg)) Z) ?_);refine mO Z (tg [u8 b_0] Z Z Z Z Z Z Z Z Z Z Z ?_);exact nx 3 Z (mQ (oi h0) Z (sr))
 refine nx 4 Z (fD [15,16] h1 Z (λ c6 h1=>?_) λ c6 h1=>?_)
 ·exact nx 4 Z (eX _ (oi h1).symm (gE Z Z))
 exact nx 4 Z (eX _ (oi h1).symm (gE Z Z))
def fc (n:Nat)(Dz:Bk):Nat->Bk->Int->Option Bk|0,_,_=>none|m+1,Gz,i10=>if i10<(Dz.length:Int) then ck ((0:Int)<=i10/\i10<(Dz.length:Int))<|(iy n (byt Dz i10)).bind λ FH=>ck (Gz.length+FH.length<=9223372036854775807)<|ck (inR (i10+1))<|fc n Dz m (Gz++FH) (i10+1)else some Gz
def iU (n:Nat)(Dz:Bk):Option Bk :=(fc n Dz n ([34]:Bk) 0).bind λ Ex=>ck (Ex.length+([34]:Bk).length<=9223372036854775807)<|some (Ex++([34]:Bk))
theorem nz (n:Nat)(Dz:Bk)(r:Bk)(h0:iU n Dz=some r):aB Tryz.prog 103 [eS Dz] (·=.p (eS r)):=by
 unfold iU at h0;refine aR good Tryz.func103 Z Z Z λ w0=>mP (λ v:Bk=>.p (eS v)) ?_;refine nx 14 Z (bd h0 λ HB h1 h0=>?_);refine kE 0 HB (λ HJ=>⟨[(3,.p (eS HJ))],[]⟩) ?_ ?_
 ·refine nx 4 Z (oC h0 Z λ Ep h0=>?_);exact nx 3 Z (mQ (oi h0) Z (sr))
 refine lG (λ (Ia:Bk×Int)=>⟨[(0,.p (eS Dz)),(3,.p (eS Ia.1)),(4,.p (eI Ia.2))],[]⟩) (λ m (Ia:Bk×Int)=>fc n Dz m Ia.1 Ia.2) Y (([34]:Bk),0) h1 (gE rfl rfl) ?_;rintro m ⟨Gz,i10⟩ h1;replace h1:fc n Dz (m+1) Gz i10=some HB:=h1;rw [fc] at h1;refine nx 5 rfl (oLs rfl ?_);refine nx 2 rfl (fD [8] h1 rfl (λ Fp h1=>?_) λ Fp h1=>?_)
 ·refine nx 8 Z (oI h1 Z λ Fu h1=>?_);refine bd h1 λ FH IW h1=>oK (pK _ (byt Dz i10) _ IW) Z ⟨sr,trivial⟩ Tryz.call131 Z (oC h1 Z λ E8 h1=>?_);refine nx 4 Z (oA h1 Z Z λ E3 h1=>?_);exact nx 2 Z (eX (Gz++FH,i10+1) h1 (gE Z Z))
 exact nx 2 Z (eXi _ (oi h1).symm (gE Z Z))
def dK (n:Nat)(Ew:aa->Int->Option Bk)(DC:aa)(D1:Int):Nat->Bk->Int->Option Bk|0,_,_=>none|m+1,s34,i35=>if i35<(DC.Ar.length:Int) then(if 0<i35 then ck (s34.length+([44,32]:Bk).length<=9223372036854775807)<|some (s34++([44,32]:Bk))else some s34 : Option Bk).bind λ s39=>((if DC.AI=5 then some (decide (i35<(DC.AT.length:Int)))else some false : Option Bool).bind λ t41=>if t41=true then ck ((0:Int)<=i35/\i35<(DC.AT.length:Int))<|(iU n (lat DC.AT i35)).bind λ H6=>ck (s39.length+H6.length<=9223372036854775807)<|ck ((s39++H6).length+([58,32]:Bk).length<=9223372036854775807)<|some ((s39++H6)++([58,32]:Bk))else some s39 : Option Bk).bind λ s48=>ck ((0:Int)<=i35/\i35<(DC.Ar.length:Int))<|ck (inR (D1+1))<|(Ew (lat DC.Ar i35) (D1+1)).bind λ Fy=>ck (s48.length+Fy.length<=9223372036854775807)<|ck (inR (i35+1))<|dK n Ew DC D1 m (s48++Fy) (i35+1)else some s34
def eM:Nat->aa->Int->Option Bk|0,_,_=>none|n+1,DC,D1=>if DC.AI=0 then some ([110,117,108,108]:Bk)else if DC.AI=1 then if DC.BY=1 then some ([116,114,117,101]:Bk)else some ([102,97,108,115,101]:Bk)else if DC.AI=2 then(cI n DC.BY).bind λ r5=>some r5 else if DC.AI=3 then(iU n DC.CK).bind λ r8=>some r8 else(if DC.AI=6 then some true else some (decide (32<D1)) : Option Bool).bind λ Ec=>if Ec=true then some ([40,117,110,107,110,111,119,110,41]:Bk)else(dK n (eM n) DC D1 n ([]:Bk) 0).bind λ s57=>if DC.AI=4 then ck (([91]:Bk).length+s57.length<=9223372036854775807)<|ck ((([91]:Bk)++s57).length+([93]:Bk).length<=9223372036854775807)<|some ((([91]:Bk)++s57)++([93]:Bk))else ck (([123]:Bk).length+s57.length<=9223372036854775807)<|ck ((([123]:Bk)++s57).length+([125]:Bk).length<=9223372036854775807)<|some ((([123]:Bk)++s57)++([125]:Bk))
theorem qF (n:Nat):∀ (DC:aa) (D1:Int) (r:Bk),eM n DC D1=some r->aB Tryz.prog 68 [.agg (aa.cs DC),eI D1] (·=.p (eS r)):=by
 induction n with
 | zero=>intro DC D1 r h0; cases h0
 | succ n ih=>
 have EO:=ih;intro DC D1 r h0;rw [eM] at h0;refine aR good Tryz.func68 Z Z Z λ w0=>mP (λ v:Bk=>.p (eS v)) ?_;refine nx 12 Z (fD [9] h0 Z (λ c1 h0=>?_) λ c1 h0=>?_)
 ·exact nx 6 Z (mQ (oi h0) Z (sr))
 refine nx 9 Z (fD [12] h0 Z (λ c2 h0=>?_) λ c2 h0=>?_)
 ·refine nx 8 Z (fD [15] h0 Z (λ c3 h0=>?_) λ c3 h0=>?_)
  ·exact nx 6 Z (mQ (oi h0) Z (sr))
  exact nx 7 Z (mQ (oi h0) Z (sr))
 refine nx 9 Z (fD [18] h0 Z (λ c4 h0=>?_) λ c4 h0=>?_)
 ·refine nx 5 Z (bd h0 λ r5 e6 h0=>?_);refine oK (qj _ DC.BY _ e6) Z ⟨sr,trivial⟩ Tryz.call102 Z (nx 3 Z ?_);exact mQ (oi h0) Z (sr)
 refine nx 9 Z (fD [24] h0 Z (λ c7 h0=>?_) λ c7 h0=>?_)
 ·refine nx 5 Z (bd h0 λ r8 e9 h0=>?_);refine oK (nz _ DC.CK _ e9) Z ⟨sr,trivial⟩ Tryz.call103 Z (nx 3 Z ?_);exact mQ (oi h0) Z (sr)
 refine nx 4 Z (bd h0 λ o68 h1 h0=>?_);refine kN o68 (λ v69=>⟨[(1,.p (eI D1)),(2,.ptr 2 0),(34,.p (eB v69))],[(2,(aa.cs DC).map .p)]⟩) ?_ ?_
 ·refine nx 1 Z (fB [34] h0 Z (λ F4 h0=>?_) λ F4 h0=>?_)
  ·exact nx 6 Z (mQ (oi h0) Z (sr))
  refine nx 12 Z (bd h0 λ o70 h1 h0=>?_);refine kE 0 o70 (λ v71=>⟨[(2,.ptr 2 0),(5,.p (eS v71))],[(2,(aa.cs DC).map .p)]⟩) ?_ ?_
  ·refine nx 8 Z (fD [77] h0 Z (λ c58 h0=>?_) λ c58 h0=>?_)
   ·refine nx 4 Z (oC h0 Z λ IJ h0=>?_);exact oC h0 Z λ II h0=>nx 3 Z (mQ (oi h0) Z (sr))
   refine nx 5 Z (oC h0 Z λ IH h0=>?_);exact oC h0 Z λ J5 h0=>nx 3 Z (mQ (oi h0) Z (sr))
  refine lG (λ (Jv:Bk×Int)=>⟨[(1,.p (eI D1)),(2,.ptr 2 0),(5,.p (eS Jv.1)),(6,.p (eI Jv.2))],[(2,(aa.cs DC).map .p)]⟩) (λ m (Jv:Bk×Int)=>dK n (eM n) DC D1 m Jv.1 Jv.2) Y (([]:Bk),0) h1 (gE rfl rfl) ?_;rintro m ⟨s34,i35⟩ h1;replace h1:dK n (eM n) DC D1 (m+1) s34 i35=some o70:=h1;rw [dK] at h1;refine nx 6 rfl (oLl (f:=ag) rfl rfl ?_);refine nx 2 rfl (fD [39] h1 rfl (λ GW h1=>?_) λ GW h1=>?_)
  ·refine nx 5 Z (bd h1 λ o73 h2 h1=>?_);refine kN o73 (λ v74=>⟨[(1,.p (eI D1)),(2,.ptr 2 0),(5,.p (eS v74)),(6,.p (eI i35))],[(2,(aa.cs DC).map .p)]⟩) ?_ ?_
   ·refine nx 2 Z (bd h1 λ o75 h2 h1=>?_);refine kN o75 (λ v76=>⟨[(1,.p (eI D1)),(2,.ptr 2 0),(5,.p (eS v76)),(6,.p (eI i35))],[(2,(aa.cs DC).map .p)]⟩) ?_ ?_
    ·refine nx 6 Z (oE h1 aa.CM Z Z Y λ IL h1=>?_);refine nx 2 Z (oA h1 Z Z λ IK h1=>?_);refine bd h1 λ Fy J' h1=>oK (EO (lat DC.Ar i35) (D1+1) _ J') Z ⟨sr,sr,trivial⟩ Tryz.call68 Z (oC h1 Z λ F8 h1=>?_);refine nx 4 Z (oA h1 Z Z λ hk54 h1=>?_);exact nx 2 Z (eX (o75++Fy,i35+1) h1 (gE Z Z))
    refine nx 1 Z (bd h2 λ o77 h3 h2=>?_);refine kN o77 (λ v78=>⟨[(1,.p (eI D1)),(2,.ptr 2 0),(5,.p (eS o73)),(6,.p (eI i35)),(55,.p (eB v78))],[(2,(aa.cs DC).map .p)]⟩) ?_ ?_
    ·refine nx 1 Z (fB [55] h2 Z (λ IX h2=>?_) λ IX h2=>?_)
     ·refine nx 6 Z (oE h2 Y Z Z Y λ F' h2=>?_);refine nx 1 Z (bd h2 λ H6 e45 h2=>?_);refine oK (nz _ (lat DC.AT i35) _ e45) Z ⟨sr,trivial⟩ Tryz.call103 Z (oC h2 Z λ Ho h2=>?_);exact oC h2 Z λ F9 h2=>nx 2 Z (eX _ (oi h2).symm (gE Z Z))
     exact nx 2 Z (eX _ (oi h2).symm (gE Z Z))
    refine nx 5 Z (fD [48,49] h3 Z (λ c40 h3=>?_) λ c40 h3=>?_)
    ·refine nx 3 Z (oLl (f:=eS) Z Z ?_);exact nx 3 Z (eX _ (oi h3).symm (gE Z Z))
    exact nx 7 Z (eX _ (oi h3).symm (gE Z Z))
   refine nx 5 Z (fD [43] h2 Z (λ Jg h2=>?_) λ Jg h2=>?_)
   ·refine nx 3 Z (oC h2 Z λ GI h2=>?_);exact nx 2 Z (eX _ (oi h2).symm (gE Z Z))
   exact nx 2 Z (eX _ (oi h2).symm (gE Z Z))
  exact nx 2 Z (eXi _ (oi h1).symm (gE Z Z))
 refine nx 5 Z (fD [30,31] h1 Z (λ Fq h1=>?_) λ Fq h1=>?_)
 ·exact nx 4 Z (eX _ (oi h1).symm (gE Z Z))
 exact nx 4 Z (eX _ (oi h1).symm (gE Z Z))
def fQ (n:Nat)(DC:aa):Option Bk :=(eM n DC 0).bind λ r1=>some r1
theorem ki (n:Nat)(DC:aa)(r:Bk)(h0:fQ n DC=some r):aB Tryz.prog 36 [.agg (aa.cs DC)] (·=.p (eS r)):=by
 unfold fQ at h0;refine aR good Tryz.func36 Z Z Z λ w0=>mP (λ v:Bk=>.p (eS v)) ?_;refine nx 8 Z (bd h0 λ r1 e2 h0=>?_);refine oK (qF _ DC 0 _ e2) Z ⟨sr,sr,trivial⟩ Tryz.call68 Z (nx 3 Z ?_);exact mQ (oi h0) Z (sr)
def jb (n:Nat)(Dz:am):Option (List Bk) :=(fw n Dz).bind λ r1=>some r1.CL
theorem mx (n:Nat)(Dz:am)(r:(List Bk))(h0:jb n Dz=some r):aB Tryz.prog 33 [.agg (am.cs Dz)] (·=.p (eL eS r)):=by
 unfold jb at h0;refine aR good Tryz.func33 Z Z Z λ w0=>mP (λ v:(List Bk)=>.p (eL eS v)) ?_;refine nx 8 Z (bd h0 λ r1 e2 h0=>?_);refine oK (nR _ Dz _ e2) Z ⟨sr,trivial⟩ Tryz.call56 Z (nx 4 Z ?_);exact mQ (oi h0) Z (sr)
def dr (n:Nat)(before_1:aa)(after_2:aa)(r1:(List Bk)):Nat->(List Bk)->Int->Option (List Bk)|0,_,_=>none|m+1,Ex,i20=>if i20<(r1.length:Int) then(ck ((0:Int)<=i20/\i20<(r1.length:Int))<|(gY n before_1 (lat r1 i20)).bind λ FX=>ck ((0:Int)<=i20/\i20<(r1.length:Int))<|(gY n after_2 (lat r1 i20)).bind λ D4=>(jv n FX D4).bind λ Fh=>if Fh=true then ck ((0:Int)<=i20/\i20<(r1.length:Int))<|ck ((Ex.length+[lat r1 i20].length)*16<=140737488355328)<|some (Ex++[lat r1 i20])else some Ex : Option (List Bk)).bind λ Hj=>ck (inR (i20+1))<|dr n before_1 after_2 r1 m Hj (i20+1)else some Ex
def ix (n:Nat)(Dz:am)(before_1:aa)(after_2:aa):Option (List Bk) :=(jb n Dz).bind λ r1=>(dr n before_1 after_2 r1 n [] 0).bind λ Hi=>some Hi
theorem pr (n:Nat)(Dz:am)(before_1:aa)(after_2:aa)(r:(List Bk))(h0:ix n Dz before_1 after_2=some r):aB Tryz.prog 64 [.agg (am.cs Dz),.agg (aa.cs before_1),.agg (aa.cs after_2)] (·=.p (eL eS r)):=by
 unfold ix at h0;refine aR good Tryz.func64 Z Z Z λ w0=>mP (λ v:(List Bk)=>.p (eL eS v)) ?_;refine nx 10 Z (bd h0 λ r1 e2 h0=>?_);refine oK (mx _ Dz _ e2) Z ⟨sr,trivial⟩ Tryz.call33 Z (nx 12 Z ?_);refine bd h0 λ o40 h1 h0=>kE 0 o40 (λ v41=>⟨[(8,.vec 37 1 0 (v41.map eS))],[]⟩) ?_ ?_
 ·exact nx 7 Z (mQ (oi h0) Z (AV.sub_vec _ _ _ _))
 refine lG (λ (F0:(List Bk)×Int)=>⟨[(4,.ptr 4 0),(5,.ptr 5 0),(7,.p (eL eS r1)),(8,.vec 37 1 0 (F0.1.map eS)),(9,.p (eI F0.2))],[(4,(aa.cs before_1).map .p),(5,(aa.cs after_2).map .p)]⟩) (λ m (F0:(List Bk)×Int)=>dr n before_1 after_2 r1 m F0.1 F0.2) Y ([],0) h1 (b7 (gk ⟨er rfl,er rfl,er rfl,⟨_,rfl,AV.sub_nilvec _ _ _⟩,er rfl,trivial⟩ ⟨⟨_,rfl,⟨sr,sr,sr,sr,sr,trivial⟩⟩,⟨_,rfl,⟨sr,sr,sr,sr,sr,trivial⟩⟩,trivial⟩)) ?_;rintro m ⟨Ex,i20⟩ h1;replace h1:dr n before_1 after_2 r1 (m+1) Ex i20=some o40:=h1;rw [dr] at h1;refine nx 5 rfl (oLl (f:=eS) rfl rfl ?_);refine nx 2 rfl (fD [15] h1 rfl (λ Hv h1=>?_) λ Hv h1=>?_)
 ·refine nx 3 Z (bd h1 λ Iw h2 h1=>?_);refine kN Iw (λ v44=>⟨[(4,.ptr 4 0),(5,.ptr 5 0),(7,.p (eL eS r1)),(8,.vec 37 1 0 (v44.map eS)),(9,.p (eI i20))],[(4,(aa.cs before_1).map .p),(5,(aa.cs after_2).map .p)]⟩) ?_ ?_
  ·refine nx 3 Z (oA h1 Z Z λ Hq h1=>?_);exact nx 2 Z (eX (Iw,i20+1) h1 (gE Z Z))
  refine nx 2 Z (cc' h2 λ FR h2=>?_);refine bd h2 λ FX IT h2=>cc' h2 λ FP h2=>bd h2 λ D4 GT h2=>bd h2 λ Fh IS h2=>mD [(4,.ptr 4 0),(5,.ptr 5 0),(7,.p (eL eS r1)),(8,.vec 37 1 0 (Ex.map eS)),(9,.p (eI i20))] Z ⟨Z,Z,Z,Z,Z,trivial⟩ Z (dR 3 Z ?_);refine dq (.rptr [eS (lat r1 i20)]) [19,20] Z (λ _ e _ q=>ae Z (dV (f:=eS) (l:=r1) (λ x=>[eS x]) Z Z Z Z Z Z (e _ _ Z) Z (e _ _ Z) FR Y Y q)) Z (dR 1 Z ?_);refine dq (.p (.agg (aa.cs FX))) [18,22] Z (λ _ e _ q=>ae Z (aI (iX _ before_1 (lat r1 i20) _ IT) Z Z Z (ap (e _ _ Z) (ap (e _ _ Z) aJ)) ⟨sr,sr,trivial⟩ Tryz.call35 Z q)) Z (dR 3 Z ?_);refine dq (.rptr [eS (lat r1 i20)]) [25,26] Z (λ _ e _ q=>ae Z (dV (f:=eS) (l:=r1) (λ x=>[eS x]) Z Z Z Z Z Z (e _ _ Z) Z (e _ _ Z) FP Y Y q)) Z (dR 1 Z ?_);refine dq (.p (.agg (aa.cs D4))) [24,28] Z (λ _ e _ q=>ae Z (aI (iX _ after_2 (lat r1 i20) _ GT) Z Z Z (ap (e _ _ Z) (ap (e _ _ Z) aJ)) ⟨sr,sr,trivial⟩ Tryz.call35 Z q)) Z (dq (.p (eB Fh)) [23,29] Z (λ _ e _ q=>ae Z (aI (qv _ FX D4 _ IS) Z Z Z (ap (e _ _ Z) (ap (e _ _ Z) aJ)) ⟨sr,sr,trivial⟩ Tryz.call49 Z q)) Z ?_);refine dE Z (nx 1 Z ?_);refine fB [30] h2 Z (λ Gm h2=>?_) λ Gm h2=>?_
  ·refine nx 5 Z (oE h2 Y Z Z Y λ FO h2=>?_);refine nx 1 Z (mO Z (bE eS [lat r1 i20] Z Z Z Z Z Z Z Z Z Z Z Z Z Z ?_));refine cc' h2 λ Gd h2=>mO Z (du eS Ex [lat r1 i20] Z Z Z Z Z Z Z Z Z Z Z Z Z Y Z Z Z Z Gd ?_);exact nx 2 Z (eX _ (oi h2).symm (gE Z Z))
  exact nx 2 Z (eX _ (oi h2).symm (gE Z Z))
 exact nx 2 Z (eXi _ (oi h1).symm (gE Z Z))
def fk (l_0:List Bk)(s_1:Bk):Nat->Int->Option (Unit⊕Bool)|0,_=>none|m+1,i6=>if i6<(l_0.length:Int) then ck ((0:Int)<=i6/\i6<(l_0.length:Int))<|if lat l_0 i6=s_1 then some (.inr true)else ck (inR (i6+1))<|fk l_0 s_1 m (i6+1)else some (.inl ())
def lP (n:Nat)(l_0:List Bk)(s_1:Bk):Option Bool :=jn (fk l_0 s_1 n 0) λ _q12=>some false
theorem um (n:Nat)(l_0:List Bk)(s_1:Bk)(r:Bool)(h0:lP n l_0 s_1=some r):aB Tryz.prog 65 [eL eS l_0,eS s_1] (·=.p (eB r)):=by
 unfold lP at h0;refine aR good Tryz.func65 Z Z Z λ w0=>mP (λ v:Bool=>.p (eB v)) ?_;refine nx 10 rfl ?_;obtain ⟨Ii,h1,Eg,hR0⟩:=fj h0;refine kEx 0 (λ G7:Unit=>Ii=.inl G7) (λ G7=>⟨[],[]⟩) (λ G7 hv=>?_) ?_
 ·have h0:=Eg _ hv;exact nx 6 Z (mQ (oi h0) Z (sr))
 refine lG (λ (Gq:Int)=>⟨[(0,.p (eL eS l_0)),(1,.p (eS s_1)),(5,.p (eI Gq))],[]⟩) (λ m (Gq:Int)=>fk l_0 s_1 m Gq) Y 0 h1 (gE rfl rfl) ?_;rintro m i6 h1;replace h1:fk l_0 s_1 (m+1) i6=some Ii:=h1;rw [fk] at h1;refine nx 5 rfl (oLl (f:=eS) rfl rfl ?_);refine nx 2 rfl (fD [9] h1 rfl (λ c7 h1=>?_) λ c7 h1=>?_)
 ·refine nx 8 Z (oE h1 Y Z Z Y λ Jd h1=>?_);refine nx 2 Z (oS Z Z ?_);refine nx 1 Z (fD [17] h1 Z (λ c9 h1=>?_) λ c9 h1=>?_)
  ·exact nx 6 Z (mQ (hR0 _ (oi h1).symm) Z (sr))
  refine nx 4 Z (oA h1 Z Z λ Fv h1=>?_);exact nx 2 Z (eX (i6+1) h1 (gE Z Z))
 exact nx 2 Z (eXi _ (oi h1).symm (gE Z Z))
def co (n:Nat)(marked_3:List Bk)(r1:(List Bk))(r3:aa)(r5:aa):Nat->(List Bk)->Int->Option (List Bk)|0,_,_=>none|m+1,EI,i35=>if i35<(r1.length:Int) then ck ((0:Int)<=i35/\i35<(r1.length:Int))<|ck (([32,32,32,32]:Bk).length+(lat r1 i35).length<=9223372036854775807)<|ck ((([32,32,32,32]:Bk)++(lat r1 i35)).length+([32,61,32]:Bk).length<=9223372036854775807)<|ck ((0:Int)<=i35/\i35<(r1.length:Int))<|(gY n r3 (lat r1 i35)).bind λ FK=>(fQ n FK).bind λ F7=>ck (((([32,32,32,32]:Bk)++(lat r1 i35))++([32,61,32]:Bk)).length+F7.length<=9223372036854775807)<|ck ((((([32,32,32,32]:Bk)++(lat r1 i35))++([32,61,32]:Bk))++F7).length+([32,45,62,32]:Bk).length<=9223372036854775807)<|ck ((0:Int)<=i35/\i35<(r1.length:Int))<|(gY n r5 (lat r1 i35)).bind λ Fc=>(fQ n Fc).bind λ Gw=>ck (((((([32,32,32,32]:Bk)++(lat r1 i35))++([32,61,32]:Bk))++F7)++([32,45,62,32]:Bk)).length+Gw.length<=9223372036854775807)<|(ck ((0:Int)<=i35/\i35<(r1.length:Int))<|(lP n marked_3 (lat r1 i35)).bind λ Fx=>if Fx=true then ck ((((((([32,32,32,32]:Bk)++(lat r1 i35))++([32,61,32]:Bk))++F7)++([32,45,62,32]:Bk))++Gw).length+([32,40,110,101,119,32,111,98,106,101,99,116,41]:Bk).length<=9223372036854775807)<|some ((((((([32,32,32,32]:Bk)++(lat r1 i35))++([32,61,32]:Bk))++F7)++([32,45,62,32]:Bk))++Gw)++([32,40,110,101,119,32,111,98,106,101,99,116,41]:Bk))else some (((((([32,32,32,32]:Bk)++(lat r1 i35))++([32,61,32]:Bk))++F7)++([32,45,62,32]:Bk))++Gw) : Option Bk).bind λ x58=>ck ((EI.length+[x58].length)*16<=140737488355328)<|ck (inR (i35+1))<|co n marked_3 r1 r3 r5 m (EI++[x58]) (i35+1)else some EI
def fg (n:Nat)(Dz:am)(before_1:aa)(after_2:aa)(marked_3:List Bk):Option (List Bk) :=(ix n Dz before_1 after_2).bind λ r1=>(iL n Dz before_1).bind λ r3=>(iL n Dz after_2).bind λ r5=>(co n marked_3 r1 r3 r5 n [] 0).bind λ JC=>some JC
theorem mJ (n:Nat)(Dz:am)(before_1:aa)(after_2:aa)(marked_3:List Bk)(r:(List Bk))(h0:fg n Dz before_1 after_2 marked_3=some r):aB Tryz.prog 32 [.agg (am.cs Dz),.agg (aa.cs before_1),.agg (aa.cs after_2),eL eS marked_3] (·=.p (eL eS r)):=by
 unfold fg at h0;refine aR good Tryz.func32 Z Z Z λ w0=>mP (λ v:(List Bk)=>.p (eL eS v)) ?_;refine nx 12 Z (bd h0 λ r1 e2 h0=>?_);refine oK (pr _ Dz before_1 after_2 _ e2) Z ⟨sr,sr,sr,trivial⟩ Tryz.call64 Z (nx 3 Z ?_);refine bd h0 λ r3 e4 h0=>bd h0 λ r5 e6 h0=>mG (gE (t:=⟨[(3,.p (eL eS marked_3)),(4,.ptr 4 0),(5,.ptr 5 0),(6,.ptr 6 0),(9,.p (eL eS r1))],[(4,(am.cs Dz).map .p),(5,(aa.cs before_1).map .p),(6,(aa.cs after_2).map .p)]⟩) Z Z) (mSS ⟨4,[6,7,8,9],(by5 (.some λ i=>Nat.beq i 10) (.some λ i=>Nat.beq i 11) .none .none .none),(λ _=>[(3,.p (eL eS marked_3)),(4,.ptr 4 0),(5,.ptr 5 0),(6,.ptr 6 0),(9,.p (eL eS r1))]),(by5 ([(4,[.p (eL aL Dz.B'),.p (eL aO Dz.A')]),(5,[.p (eI before_1.AI),.p (eI before_1.BY),.p (eS before_1.CK),.p (eL ag before_1.Ar),.p (eL eS before_1.AT)]),(6,[.p (eI after_2.AI),.p (eI after_2.BY),.p (eS after_2.CK),.p (eL ag after_2.Ar),.p (eL eS after_2.AT)])]) ([(10,[.p (eI 0),.p (eI 0),.p (eS ([]:Bk)),.p (.val (.slice none 0 0)),.p (.val (.slice none 0 0))]),(4,[.p (eL aL Dz.B'),.p (eL aO Dz.A')]),(5,[.p (eI before_1.AI),.p (eI before_1.BY),.p (eS before_1.CK),.p (eL ag before_1.Ar),.p (eL eS before_1.AT)]),(6,[.p (eI after_2.AI),.p (eI after_2.BY),.p (eS after_2.CK),.p (eL ag after_2.Ar),.p (eL eS after_2.AT)])]) ([(11,[.p (eI 0),.p (eI 0),.p (eS ([]:Bk)),.p (.val (.slice none 0 0)),.p (.val (.slice none 0 0))]),(10,[.p (eI 0),.p (eI 0),.p (eS ([]:Bk)),.p (.val (.slice none 0 0)),.p (.val (.slice none 0 0))]),(4,[.p (eL aL Dz.B'),.p (eL aO Dz.A')]),(5,[.p (eI before_1.AI),.p (eI before_1.BY),.p (eS before_1.CK),.p (eL ag before_1.Ar),.p (eL eS before_1.AT)]),(6,[.p (eI after_2.AI),.p (eI after_2.BY),.p (eS after_2.CK),.p (eL ag after_2.Ar),.p (eL eS after_2.AT)])]) ([(10,[.p (eI r3.AI),.p (eI r3.BY),.p (eS r3.CK),.p (eL ag r3.Ar),.p (eL eS r3.AT)]),(11,[.p (eI 0),.p (eI 0),.p (eS ([]:Bk)),.p (.val (.slice none 0 0)),.p (.val (.slice none 0 0))]),(10,[.p (eI 0),.p (eI 0),.p (eS ([]:Bk)),.p (.val (.slice none 0 0)),.p (.val (.slice none 0 0))]),(4,[.p (eL aL Dz.B'),.p (eL aO Dz.A')]),(5,[.p (eI before_1.AI),.p (eI before_1.BY),.p (eS before_1.CK),.p (eL ag before_1.Ar),.p (eL eS before_1.AT)]),(6,[.p (eI after_2.AI),.p (eI after_2.BY),.p (eS after_2.CK),.p (eL ag after_2.Ar),.p (eL eS after_2.AT)])]) ([(11,[.p (eI r5.AI),.p (eI r5.BY),.p (eS r5.CK),.p (eL ag r5.Ar),.p (eL eS r5.AT)]),(10,[.p (eI r3.AI),.p (eI r3.BY),.p (eS r3.CK),.p (eL ag r3.Ar),.p (eL eS r3.AT)]),(11,[.p (eI 0),.p (eI 0),.p (eS ([]:Bk)),.p (.val (.slice none 0 0)),.p (.val (.slice none 0 0))]),(10,[.p (eI 0),.p (eI 0),.p (eS ([]:Bk)),.p (.val (.slice none 0 0)),.p (.val (.slice none 0 0))]),(4,[.p (eL aL Dz.B'),.p (eL aO Dz.A')]),(5,[.p (eI before_1.AI),.p (eI before_1.BY),.p (eS before_1.CK),.p (eL ag before_1.Ar),.p (eL eS before_1.AT)]),(6,[.p (eI after_2.AI),.p (eI after_2.BY),.p (eS after_2.CK),.p (eL ag after_2.Ar),.p (eL eS after_2.AT)])]))⟩ ⟨4,[7,6,8,9],(by5 (.some λ i=>Nat.beq i 11) (.some λ i=>Nat.beq i 10) .none .none .none),(λ _=>[(3,.p (eL eS marked_3)),(4,.ptr 4 0),(5,.ptr 5 0),(6,.ptr 6 0),(9,.p (eL eS r1))]),(by5 ([(4,[.p (eL aL Dz.B'),.p (eL aO Dz.A')]),(5,[.p (eI before_1.AI),.p (eI before_1.BY),.p (eS before_1.CK),.p (eL ag before_1.Ar),.p (eL eS before_1.AT)]),(6,[.p (eI after_2.AI),.p (eI after_2.BY),.p (eS after_2.CK),.p (eL ag after_2.Ar),.p (eL eS after_2.AT)])]) ([(11,[.p (eI 0),.p (eI 0),.p (eS ([]:Bk)),.p (.val (.slice none 0 0)),.p (.val (.slice none 0 0))]),(4,[.p (eL aL Dz.B'),.p (eL aO Dz.A')]),(5,[.p (eI before_1.AI),.p (eI before_1.BY),.p (eS before_1.CK),.p (eL ag before_1.Ar),.p (eL eS before_1.AT)]),(6,[.p (eI after_2.AI),.p (eI after_2.BY),.p (eS after_2.CK),.p (eL ag after_2.Ar),.p (eL eS after_2.AT)])]) ([(10,[.p (eI 0),.p (eI 0),.p (eS ([]:Bk)),.p (.val (.slice none 0 0)),.p (.val (.slice none 0 0))]),(11,[.p (eI 0),.p (eI 0),.p (eS ([]:Bk)),.p (.val (.slice none 0 0)),.p (.val (.slice none 0 0))]),(4,[.p (eL aL Dz.B'),.p (eL aO Dz.A')]),(5,[.p (eI before_1.AI),.p (eI before_1.BY),.p (eS before_1.CK),.p (eL ag before_1.Ar),.p (eL eS before_1.AT)]),(6,[.p (eI after_2.AI),.p (eI after_2.BY),.p (eS after_2.CK),.p (eL ag after_2.Ar),.p (eL eS after_2.AT)])]) ([(10,[.p (eI r3.AI),.p (eI r3.BY),.p (eS r3.CK),.p (eL ag r3.Ar),.p (eL eS r3.AT)]),(10,[.p (eI 0),.p (eI 0),.p (eS ([]:Bk)),.p (.val (.slice none 0 0)),.p (.val (.slice none 0 0))]),(11,[.p (eI 0),.p (eI 0),.p (eS ([]:Bk)),.p (.val (.slice none 0 0)),.p (.val (.slice none 0 0))]),(4,[.p (eL aL Dz.B'),.p (eL aO Dz.A')]),(5,[.p (eI before_1.AI),.p (eI before_1.BY),.p (eS before_1.CK),.p (eL ag before_1.Ar),.p (eL eS before_1.AT)]),(6,[.p (eI after_2.AI),.p (eI after_2.BY),.p (eS after_2.CK),.p (eL ag after_2.Ar),.p (eL eS after_2.AT)])]) ([(11,[.p (eI r5.AI),.p (eI r5.BY),.p (eS r5.CK),.p (eL ag r5.Ar),.p (eL eS r5.AT)]),(10,[.p (eI r3.AI),.p (eI r3.BY),.p (eS r3.CK),.p (eL ag r3.Ar),.p (eL eS r3.AT)]),(10,[.p (eI 0),.p (eI 0),.p (eS ([]:Bk)),.p (.val (.slice none 0 0)),.p (.val (.slice none 0 0))]),(11,[.p (eI 0),.p (eI 0),.p (eS ([]:Bk)),.p (.val (.slice none 0 0)),.p (.val (.slice none 0 0))]),(4,[.p (eL aL Dz.B'),.p (eL aO Dz.A')]),(5,[.p (eI before_1.AI),.p (eI before_1.BY),.p (eS before_1.CK),.p (eL ag before_1.Ar),.p (eL eS before_1.AT)]),(6,[.p (eI after_2.AI),.p (eI after_2.BY),.p (eS after_2.CK),.p (eL ag after_2.Ar),.p (eL eS after_2.AT)])]))⟩ Z Z Z Z Z Z Z ⟨Z,Z,Z,Z,Z,trivial⟩ Z (lt4 ⟨Z,Z,Z,Z,Z,trivial⟩ ⟨Z,Z,Z,Z,Z,trivial⟩ ⟨Z,Z,Z,Z,Z,trivial⟩ ⟨Z,Z,Z,Z,Z,trivial⟩) (lt4 ⟨Z,Z,Z,Z,Z,trivial⟩ ⟨Z,Z,Z,Z,Z,trivial⟩ ⟨Z,Z,Z,Z,Z,trivial⟩ ⟨Z,Z,Z,Z,Z,trivial⟩) Z Z Z Z Z ?_);refine ai (λ _=>.p (.agg (am.cs Dz))) Z Z Z (kz Z Z Z Z Y) (lt4 Z Z Z Z) (ah Z (ah Z (af [(4,_)] ⟨.inl Z,trivial⟩ (λ sl Dy K hK=>ae Z (aC Z Z Z Z Z (Dy _ _ Z) Z Z Z hK)) (af [(4,_)] ⟨.inl Z,trivial⟩ (λ sl Dy K hK=>ae Z (aC Z Z Z Z Z (Dy _ _ Z) Z Z Z hK)) (af [(4,_)] ⟨.inl Z,trivial⟩ (λ sl Dy K hK=>ae Z (aC Z Z Z Z Z (Dy _ _ Z) Z Z Z hK)) aj))))) (ai (λ _=>.p (.agg (aa.cs before_1))) Z Z Z (kz Z Z Z Z Y) (lt4 Z Z Z Z) (ah Z (ah Z (af [(5,_)] ⟨.inl Z,trivial⟩ (λ sl Dy K hK=>ae Z (aC Z Z Z Z Z (Dy _ _ Z) Z Z Z hK)) (af [(5,_)] ⟨.inl Z,trivial⟩ (λ sl Dy K hK=>ae Z (aC Z Z Z Z Z (Dy _ _ Z) Z Z Z hK)) (af [(5,_)] ⟨.inl Z,trivial⟩ (λ sl Dy K hK=>ae Z (aC Z Z Z Z Z (Dy _ _ Z) Z Z Z hK)) aj))))) ?_);refine ai (λ _=>.p (.agg (aa.cs r3))) Z Z Z (kz Z Z Z Z Y) (lt4 Z Z Z Z) (ah Z (ah Z (af [(19,_),(20,_)] ⟨.inr ⟨0,_,Z,Z,Z⟩,.inr ⟨1,_,Z,Z,Z⟩,trivial⟩ (λ sl Dy K hK=>ae Z (aI (cN _ Dz before_1 _ e4) Z Z Z (ap (Dy _ _ Z) (ap (Dy _ _ Z) aJ)) ⟨sr,sr,trivial⟩ Tryz.call34 Z hK)) (af [(19,_),(20,_)] ⟨.inr ⟨0,_,Z,Z,Z⟩,.inr ⟨1,_,Z,Z,Z⟩,trivial⟩ (λ sl Dy K hK=>ae Z (aI (cN _ Dz before_1 _ e4) Z Z Z (ap (Dy _ _ Z) (ap (Dy _ _ Z) aJ)) ⟨sr,sr,trivial⟩ Tryz.call34 Z hK)) (af [(19,_),(20,_)] ⟨.inr ⟨0,_,Z,Z,Z⟩,.inr ⟨1,_,Z,Z,Z⟩,trivial⟩ (λ sl Dy K hK=>ae Z (aI (cN _ Dz before_1 _ e4) Z Z Z (ap (Dy _ _ Z) (ap (Dy _ _ Z) aJ)) ⟨sr,sr,trivial⟩ Tryz.call34 Z hK)) aj))))) (ai (λ _=>.p (.agg (am.cs Dz))) Z Z Z (kz Z Z Z Z Y) (lt4 Z Z Z Z) (ah Z (af [(4,_)] ⟨.inl Z,trivial⟩ (λ sl Dy K hK=>ae Z (aC Z Z Z Z Z (Dy _ _ Z) Z Z Z hK)) (af [(4,_)] ⟨.inl Z,trivial⟩ (λ sl Dy K hK=>ae Z (aC Z Z Z Z Z (Dy _ _ Z) Z Z Z hK)) (af [(4,_)] ⟨.inl Z,trivial⟩ (λ sl Dy K hK=>ae Z (aC Z Z Z Z Z (Dy _ _ Z) Z Z Z hK)) (af [(4,_)] ⟨.inl Z,trivial⟩ (λ sl Dy K hK=>ae Z (aC Z Z Z Z Z (Dy _ _ Z) Z Z Z hK)) aj))))) ?_);refine ai (λ _=>.p (.agg (aa.cs after_2))) Z Z Z (kz Z Z Z Z Y) (lt4 Z Z Z Z) (ah Z (af [(6,_)] ⟨.inl Z,trivial⟩ (λ sl Dy K hK=>ae Z (aC Z Z Z Z Z (Dy _ _ Z) Z Z Z hK)) (af [(6,_)] ⟨.inl Z,trivial⟩ (λ sl Dy K hK=>ae Z (aC Z Z Z Z Z (Dy _ _ Z) Z Z Z hK)) (af [(6,_)] ⟨.inl Z,trivial⟩ (λ sl Dy K hK=>ae Z (aC Z Z Z Z Z (Dy _ _ Z) Z Z Z hK)) (af [(6,_)] ⟨.inl Z,trivial⟩ (λ sl Dy K hK=>ae Z (aC Z Z Z Z Z (Dy _ _ Z) Z Z Z hK)) aj))))) (ai (λ _=>.p (.agg (aa.cs r5))) Z Z Z (kz Z Z Z Z Y) (lt4 Z Z Z Z) (ah Z (ah Z (af [(22,_),(23,_)] ⟨.inr ⟨3,_,Z,Z,Z⟩,.inr ⟨4,_,Z,Z,Z⟩,trivial⟩ (λ sl Dy K hK=>ae Z (aI (cN _ Dz after_2 _ e6) Z Z Z (ap (Dy _ _ Z) (ap (Dy _ _ Z) aJ)) ⟨sr,sr,trivial⟩ Tryz.call34 Z hK)) (af [(22,_),(23,_)] ⟨.inr ⟨3,_,Z,Z,Z⟩,.inr ⟨4,_,Z,Z,Z⟩,trivial⟩ (λ sl Dy K hK=>ae Z (aI (cN _ Dz after_2 _ e6) Z Z Z (ap (Dy _ _ Z) (ap (Dy _ _ Z) aJ)) ⟨sr,sr,trivial⟩ Tryz.call34 Z hK)) (af [(22,_),(23,_)] ⟨.inr ⟨3,_,Z,Z,Z⟩,.inr ⟨4,_,Z,Z,Z⟩,trivial⟩ (λ sl Dy K hK=>ae Z (aI (cN _ Dz after_2 _ e6) Z Z Z (ap (Dy _ _ Z) (ap (Dy _ _ Z) aJ)) ⟨sr,sr,trivial⟩ Tryz.call34 Z hK)) aj))))) ?_);refine eF (λ _=>.ptr 10 0) [] Z trivial Z Z (pd Z Z Z Y) (lt4 (λ h=>absurd h (by decide)) Y Y Y) (λ sl Dy K hK=>ae Z (g7 Z Z Z Z Z hK)) (eF (λ _=>.ptr 11 0) [] Z trivial Z Z (bq Z Z Y) (lt4 (λ h=>absurd h (by decide)) (λ h=>absurd h (by decide)) Y Y) (λ sl Dy K hK=>ae Z (g7 Z Z Z Z Z hK)) ?_);refine cK [(10,_),(21,_)] Z ⟨.inr ⟨6,_,Z,Z,Z⟩,.inr ⟨2,_,Z,Z,Z⟩,trivial⟩ Z (λ sl Dy K hK=>ae Z (cR Z Z Z (Dy _ _ Z) (Dy _ _ Z) Z Z Z (ph Z) hK)) (cK [(11,_),(24,_)] Z ⟨.inr ⟨7,_,Z,Z,Z⟩,.inr ⟨5,_,Z,Z,Z⟩,trivial⟩ Z (λ sl Dy K hK=>ae Z (cR Z Z Z (Dy _ _ Z) (Dy _ _ Z) Z Z Z (ph Z) hK)) ?_);refine yJ (ai (λ _=>.p (.agg (am.cs Dz))) Z Z Z (kz Z Z Z Z Y) (lt4 Z Z Z Z) (ah Z (ah Z (af [(4,_)] ⟨.inl Z,trivial⟩ (λ sl Dy K hK=>ae Z (aC Z Z Z Z Z (Dy _ _ Z) Z Z Z hK)) (af [(4,_)] ⟨.inl Z,trivial⟩ (λ sl Dy K hK=>ae Z (aC Z Z Z Z Z (Dy _ _ Z) Z Z Z hK)) (af [(4,_)] ⟨.inl Z,trivial⟩ (λ sl Dy K hK=>ae Z (aC Z Z Z Z Z (Dy _ _ Z) Z Z Z hK)) aj))))) (ai (λ _=>.p (.agg (aa.cs before_1))) Z Z Z (kz Z Z Z Z Y) (lt4 Z Z Z Z) (ah Z (ah Z (af [(5,_)] ⟨.inl Z,trivial⟩ (λ sl Dy K hK=>ae Z (aC Z Z Z Z Z (Dy _ _ Z) Z Z Z hK)) (af [(5,_)] ⟨.inl Z,trivial⟩ (λ sl Dy K hK=>ae Z (aC Z Z Z Z Z (Dy _ _ Z) Z Z Z hK)) (af [(5,_)] ⟨.inl Z,trivial⟩ (λ sl Dy K hK=>ae Z (aC Z Z Z Z Z (Dy _ _ Z) Z Z Z hK)) aj))))) (ai (λ _=>.p (.agg (aa.cs r3))) Z Z Z (kz Z Z Z Z Y) (lt4 Z Z Z Z) (ah Z (ah Z (af [(19,_),(20,_)] ⟨.inr ⟨0,_,Z,Z,Z⟩,.inr ⟨1,_,Z,Z,Z⟩,trivial⟩ (λ sl Dy K hK=>ae Z (aI (cN _ Dz before_1 _ e4) Z Z Z (ap (Dy _ _ Z) (ap (Dy _ _ Z) aJ)) ⟨sr,sr,trivial⟩ Tryz.call34 Z hK)) (af [(19,_),(20,_)] ⟨.inr ⟨0,_,Z,Z,Z⟩,.inr ⟨1,_,Z,Z,Z⟩,trivial⟩ (λ sl Dy K hK=>ae Z (aI (cN _ Dz before_1 _ e4) Z Z Z (ap (Dy _ _ Z) (ap (Dy _ _ Z) aJ)) ⟨sr,sr,trivial⟩ Tryz.call34 Z hK)) (af [(19,_),(20,_)] ⟨.inr ⟨0,_,Z,Z,Z⟩,.inr ⟨1,_,Z,Z,Z⟩,trivial⟩ (λ sl Dy K hK=>ae Z (aI (cN _ Dz before_1 _ e4) Z Z Z (ap (Dy _ _ Z) (ap (Dy _ _ Z) aJ)) ⟨sr,sr,trivial⟩ Tryz.call34 Z hK)) aj))))) (ai (λ _=>.p (.agg (am.cs Dz))) Z Z Z (kz Z Z Z Z Y) (lt4 Z Z Z Z) (ah Z (af [(4,_)] ⟨.inl Z,trivial⟩ (λ sl Dy K hK=>ae Z (aC Z Z Z Z Z (Dy _ _ Z) Z Z Z hK)) (af [(4,_)] ⟨.inl Z,trivial⟩ (λ sl Dy K hK=>ae Z (aC Z Z Z Z Z (Dy _ _ Z) Z Z Z hK)) (af [(4,_)] ⟨.inl Z,trivial⟩ (λ sl Dy K hK=>ae Z (aC Z Z Z Z Z (Dy _ _ Z) Z Z Z hK)) (af [(4,_)] ⟨.inl Z,trivial⟩ (λ sl Dy K hK=>ae Z (aC Z Z Z Z Z (Dy _ _ Z) Z Z Z hK)) aj))))) (ai (λ _=>.p (.agg (aa.cs after_2))) Z Z Z (kz Z Z Z Z Y) (lt4 Z Z Z Z) (ah Z (af [(6,_)] ⟨.inl Z,trivial⟩ (λ sl Dy K hK=>ae Z (aC Z Z Z Z Z (Dy _ _ Z) Z Z Z hK)) (af [(6,_)] ⟨.inl Z,trivial⟩ (λ sl Dy K hK=>ae Z (aC Z Z Z Z Z (Dy _ _ Z) Z Z Z hK)) (af [(6,_)] ⟨.inl Z,trivial⟩ (λ sl Dy K hK=>ae Z (aC Z Z Z Z Z (Dy _ _ Z) Z Z Z hK)) (af [(6,_)] ⟨.inl Z,trivial⟩ (λ sl Dy K hK=>ae Z (aC Z Z Z Z Z (Dy _ _ Z) Z Z Z hK)) aj))))) (ai (λ _=>.p (.agg (aa.cs r5))) Z Z Z (kz Z Z Z Z Y) (lt4 Z Z Z Z) (ah Z (ah Z (af [(22,_),(23,_)] ⟨.inr ⟨3,_,Z,Z,Z⟩,.inr ⟨4,_,Z,Z,Z⟩,trivial⟩ (λ sl Dy K hK=>ae Z (aI (cN _ Dz after_2 _ e6) Z Z Z (ap (Dy _ _ Z) (ap (Dy _ _ Z) aJ)) ⟨sr,sr,trivial⟩ Tryz.call34 Z hK)) (af [(22,_),(23,_)] ⟨.inr ⟨3,_,Z,Z,Z⟩,.inr ⟨4,_,Z,Z,Z⟩,trivial⟩ (λ sl Dy K hK=>ae Z (aI (cN _ Dz after_2 _ e6) Z Z Z (ap (Dy _ _ Z) (ap (Dy _ _ Z) aJ)) ⟨sr,sr,trivial⟩ Tryz.call34 Z hK)) (af [(22,_),(23,_)] ⟨.inr ⟨3,_,Z,Z,Z⟩,.inr ⟨4,_,Z,Z,Z⟩,trivial⟩ (λ sl Dy K hK=>ae Z (aI (cN _ Dz after_2 _ e6) Z Z Z (ap (Dy _ _ Z) (ap (Dy _ _ Z) aJ)) ⟨sr,sr,trivial⟩ Tryz.call34 Z hK)) aj))))) (eF (λ _=>.ptr 10 0) [] Z trivial Z Z (bq Z Z Y) (lt4 (λ h=>absurd h (by decide)) (λ h=>absurd h (by decide)) Y Y) (λ sl Dy K hK=>ae Z (g7 Z Z Z Z Z hK)) (eF (λ _=>.ptr 11 0) [] Z trivial Z Z (pd Z Z Z Y) (lt4 (λ h=>absurd h (by decide)) Y Y Y) (λ sl Dy K hK=>ae Z (g7 Z Z Z Z Z hK)) (cK [(10,_),(21,_)] Z ⟨.inr ⟨6,_,Z,Z,Z⟩,.inr ⟨2,_,Z,Z,Z⟩,trivial⟩ Z (λ sl Dy K hK=>ae Z (cR Z Z Z (Dy _ _ Z) (Dy _ _ Z) Z Z Z (ph Z) hK)) (cK [(11,_),(24,_)] Z ⟨.inr ⟨7,_,Z,Z,Z⟩,.inr ⟨5,_,Z,Z,Z⟩,trivial⟩ Z (λ sl Dy K hK=>ae Z (cR Z Z Z (Dy _ _ Z) (Dy _ _ Z) Z Z Z (ph Z) hK)) (yS Z ⟨Z,Z,Z,Z,Z,Z,Z,trivial⟩ ⟨⟨Z,Z,.inl Z⟩,⟨⟨Z,Z,.inl Z⟩,⟨⟨Z,Z,.inr Z⟩,⟨⟨Z,Z,.inr Z⟩,⟨⟨Z,Z,.inr Z⟩,⟨⟨Z,Z,.inr Z⟩,⟨⟨Z,Z,.inr Z⟩,⟨⟨Z,Z,.inr Z⟩,trivial⟩⟩⟩⟩⟩⟩⟩⟩))))))))))) (nx 11 Z ?_);refine bd h0 λ HQ h1 h0=>kE 0 HQ (λ Il=>⟨[(12,.vec 65 1 0 (Il.map eS))],[]⟩) ?_ ?_
 ·exact nx 7 Z (mQ (oi h0) Z (AV.sub_vec _ _ _ _))
 refine lG (λ (Jw:(List Bk)×Int)=>⟨[(3,.p (eL eS marked_3)),(9,.p (eL eS r1)),(10,.ptr 10 0),(11,.ptr 11 0),(12,.vec 65 1 0 (Jw.1.map eS)),(13,.p (eI Jw.2))],[(10,(aa.cs r3).map .p),(11,(aa.cs r5).map .p)]⟩) (λ m (Jw:(List Bk)×Int)=>co n marked_3 r1 r3 r5 m Jw.1 Jw.2) Y ([],0) h1 (b7 (gk ⟨er rfl,er rfl,er rfl,er rfl,⟨_,rfl,AV.sub_nilvec _ _ _⟩,er rfl,trivial⟩ ⟨⟨_,rfl,⟨sr,sr,sr,sr,sr,trivial⟩⟩,⟨_,rfl,⟨sr,sr,sr,sr,sr,trivial⟩⟩,trivial⟩)) ?_;rintro m ⟨EI,i35⟩ h1;replace h1:co n marked_3 r1 r3 r5 (m+1) EI i35=some HQ:=h1;rw [co] at h1;refine nx 5 rfl (oLl (f:=eS) rfl rfl ?_);refine nx 2 rfl (fD [28] h1 rfl (λ GW h1=>?_) λ GW h1=>?_)
 ·refine nx 5 Z (cc' h1 λ Gb h1=>?_);refine cc' h1 λ GI h1=>cc' h1 λ FN h1=>cc' h1 λ Ga h1=>bd h1 λ FK e42 h1=>bd h1 λ F7 e44 h1=>cc' h1 λ GH h1=>cc' h1 λ Ho h1=>cc' h1 λ F9 h1=>bd h1 λ Fc Je h1=>bd h1 λ Gw e51 h1=>cc' h1 λ HY h1=>mD [(3,.p (eL eS marked_3)),(9,.p (eL eS r1)),(10,.ptr 10 0),(11,.ptr 11 0),(12,.vec 65 1 0 (EI.map eS)),(13,.p (eI i35))] Z ⟨Z,Z,Z,Z,Z,Z,trivial⟩ Z ?_;refine dR 2 Z (dq (.rptr [eS (lat r1 i35)]) [31,32] Z (λ _ e _ q=>ae Z (dV (f:=eS) (l:=r1) (λ x=>[eS x]) Z Z Z Z Z Z (e _ _ Z) Z (e _ _ Z) Gb Y Y q)) Z ?_);refine dR 1 Z (dq (.p (eS (([32,32,32,32]:Bk)++(lat r1 i35)))) [34] Z (λ _ e _ q=>ae Z (bC Z Z Z Z (e _ _ Z) GI q)) Z ?_);refine dq (.p (eS ((([32,32,32,32]:Bk)++(lat r1 i35))++([32,61,32]:Bk)))) [35] Z (λ _ e _ q=>ae Z (bC Z Z Z (e _ _ Z) Z FN q)) Z (dR 3 Z ?_);refine dq (.rptr [eS (lat r1 i35)]) [38,39] Z (λ _ e _ q=>ae Z (dV (f:=eS) (l:=r1) (λ x=>[eS x]) Z Z Z Z Z Z (e _ _ Z) Z (e _ _ Z) Ga Y Y q)) Z (dR 1 Z ?_);refine dq (.p (.agg (aa.cs FK))) [37,41] Z (λ _ e _ q=>ae Z (aI (iX _ r3 (lat r1 i35) _ e42) Z Z Z (ap (e _ _ Z) (ap (e _ _ Z) aJ)) ⟨sr,sr,trivial⟩ Tryz.call35 Z q)) Z (dq (.p (eS F7)) [42] Z (λ _ e _ q=>ae Z (aI (ki _ FK _ e44) Z Z Z (ap (e _ _ Z) aJ) ⟨sr,trivial⟩ Tryz.call36 Z q)) Z ?_);refine dq (.p (eS (((([32,32,32,32]:Bk)++(lat r1 i35))++([32,61,32]:Bk))++F7))) [36,43] Z (λ _ e _ q=>ae Z (bC Z Z Z (e _ _ Z) (e _ _ Z) GH q)) Z (dq (.p (eS ((((([32,32,32,32]:Bk)++(lat r1 i35))++([32,61,32]:Bk))++F7)++([32,45,62,32]:Bk)))) [44] Z (λ _ e _ q=>ae Z (bC Z Z Z (e _ _ Z) Z Ho q)) Z ?_);refine dR 3 Z (dq (.rptr [eS (lat r1 i35)]) [47,48] Z (λ _ e _ q=>ae Z (dV (f:=eS) (l:=r1) (λ x=>[eS x]) Z Z Z Z Z Z (e _ _ Z) Z (e _ _ Z) F9 Y Y q)) Z ?_);refine dR 1 Z (dq (.p (.agg (aa.cs Fc))) [46,50] Z (λ _ e _ q=>ae Z (aI (iX _ r5 (lat r1 i35) _ Je) Z Z Z (ap (e _ _ Z) (ap (e _ _ Z) aJ)) ⟨sr,sr,trivial⟩ Tryz.call35 Z q)) Z ?_);refine dq (.p (eS Gw)) [51] Z (λ _ e _ q=>ae Z (aI (ki _ Fc _ e51) Z Z Z (ap (e _ _ Z) aJ) ⟨sr,trivial⟩ Tryz.call36 Z q)) Z (dq (.p (eS (((((([32,32,32,32]:Bk)++(lat r1 i35))++([32,61,32]:Bk))++F7)++([32,45,62,32]:Bk))++Gw))) [45,52] Z (λ _ e _ q=>ae Z (bC Z Z Z (e _ _ Z) (e _ _ Z) HY q)) Z ?_);refine dR 1 Z (dE Z ?_);refine nx 2 Z (bd h1 λ HP h2 h1=>?_);refine kN HP (λ v70=>⟨[(3,.p (eL eS marked_3)),(9,.p (eL eS r1)),(10,.ptr 10 0),(11,.ptr 11 0),(12,.vec 65 1 0 (EI.map eS)),(13,.p (eI i35)),(14,.p (eS v70))],[(10,(aa.cs r3).map .p),(11,(aa.cs r5).map .p)]⟩) ?_ ?_
  ·refine nx 4 Z (mO Z (bE eS [HP] Z Z Z Z Z Z Z Z Z Z Z Z Z Z ?_));refine cc' h1 λ IJ h1=>mO Z (du eS EI [HP] Z Z Z Z Z Z Z Z Z Z Z Z Z Y Z Z Z Z IJ ?_);refine nx 4 Z (oA h1 Z Z λ II h1=>?_);exact nx 2 Z (eX (EI++[HP],i35+1) h1 (gE Z Z))
  refine nx 5 Z (oE h2 Y Z Z Y λ F8 h2=>?_);refine nx 1 Z (bd h2 λ Fx J9 h2=>?_);refine oK (um _ marked_3 (lat r1 i35) _ J9) Z ⟨sr,sr,trivial⟩ Tryz.call65 Z (nx 1 Z ?_);refine mG (gE (t:=⟨[(3,.p (eL eS marked_3)),(9,.p (eL eS r1)),(10,.ptr 10 0),(11,.ptr 11 0),(12,.vec 65 1 0 (EI.map eS)),(13,.p (eI i35)),(14,.p (eS (((((([32,32,32,32]:Bk)++(lat r1 i35))++([32,61,32]:Bk))++F7)++([32,45,62,32]:Bk))++Gw))),(59,.p (eB Fx))],[(10,(aa.cs r3).map .p),(11,(aa.cs r5).map .p)]⟩) Z Z) (fB [59] h2 Z (λ Kh h2=>?_) λ Kh h2=>?_)
  ·refine nx 3 Z (oC h2 Z λ HX h2=>?_);exact nx 2 Z (eX _ (oi h2).symm (gE Z Z))
  exact nx 2 Z (eX _ (oi h2).symm (gE Z Z))
 exact nx 2 Z (eXi _ (oi h1).symm (gE Z Z))
def dm (n:Nat)(Eb:(List Bk))(D4:aa):Nat->(List Bk)->Int->Option (List Bk)|0,_,_=>none|m+1,Ef,i45=>if i45<(Eb.length:Int) then(ck ((0:Int)<=i45/\i45<(Eb.length:Int))<|(gY n D4 (lat Eb i45)).bind λ Fc=>if Fc.AI=0 then some Ef else ck ((0:Int)<=i45/\i45<(Eb.length:Int))<|ck (([32,32,32,32]:Bk).length+(lat Eb i45).length<=9223372036854775807)<|ck ((([32,32,32,32]:Bk)++(lat Eb i45)).length+([32,61,32]:Bk).length<=9223372036854775807)<|(fQ n Fc).bind λ Fx=>ck (((([32,32,32,32]:Bk)++(lat Eb i45))++([32,61,32]:Bk)).length+Fx.length<=9223372036854775807)<|ck ((Ef.length+([((([32,32,32,32]:Bk)++(lat Eb i45))++([32,61,32]:Bk))++Fx]).length)*16<=140737488355328)<|some (Ef++([((([32,32,32,32]:Bk)++(lat Eb i45))++([32,61,32]:Bk))++Fx])) : Option (List Bk)).bind λ JE=>ck (inR (i45+1))<|dm n Eb D4 m JE (i45+1)else some Ef
def jk (n:Nat)(DU:av)(s_1:am):Option (List Bk) :=(kM DU).bind λ r1=>if r1=([]:Bk) then some [] else(kM DU).bind λ r4=>ck (r4.length+([32]:Bk).length<=9223372036854775807)<|(nK DU.CZ DU.C1).bind λ r7=>ck ((r4++([32]:Bk)).length+r7.length<=9223372036854775807)<|ck (((r4++([32]:Bk))++r7).length+([58,32]:Bk).length<=9223372036854775807)<|(kt DU.C').bind λ Fi=>ck ((((r4++([32]:Bk))++r7)++([58,32]:Bk)).length+Fi.length<=9223372036854775807)<|(if DU.Dk=true then ck (((((r4++([32]:Bk))++r7)++([58,32]:Bk))++Fi).length+([44,32,105,109,112,111,114,116,101,100]:Bk).length<=9223372036854775807)<|some (((((r4++([32]:Bk))++r7)++([58,32]:Bk))++Fi)++([44,32,105,109,112,111,114,116,101,100]:Bk))else some ((((r4++([32]:Bk))++r7)++([58,32]:Bk))++Fi) : Option Bk).bind λ first16=>(if DU.CW=2 then some true else some (decide (DU.CW=3)) : Option Bool).bind λ Fb=>if Fb=true then(fg n s_1 DU.CS DU.CR DU.CX).bind λ Gp=>ck (([first16].length+Gp.length)*16<=140737488355328)<|some ([first16]++Gp)else if DU.CW=4 then some [first16] else(jb n s_1).bind λ Eb=>(iL n s_1 DU.CR).bind λ D4=>(dm n Eb D4 n [first16] 0).bind λ JD=>some JD
theorem ml (n:Nat)(DU:av)(s_1:am)(r:(List Bk))(h0:jk n DU s_1=some r):aB Tryz.prog 14 [.agg (av.cs DU),.agg (am.cs s_1)] (·=.p (eL eS r)):=by
 unfold jk at h0;refine aR good Tryz.func14 Z Z Z λ w0=>mP (λ v:(List Bk)=>.p (eL eS v)) ?_;refine nx 10 Z (bd h0 λ r1 e2 h0=>?_);refine oK (nS DU _ e2) Z ⟨sr,trivial⟩ Tryz.call30 Z (oS Z Z ?_);refine nx 1 Z (fD [13] h0 Z (λ c3 h0=>?_) λ c3 h0=>?_)
 ·exact nx 6 Z (mQ (oi h0) Z (jz _))
 refine nx 3 Z (bd h0 λ r4 e5 h0=>?_);refine cc' h0 λ HE h0=>bd h0 λ r7 e8 h0=>cc' h0 λ HU h0=>cc' h0 λ Fv h0=>bd h0 λ Fi GU h0=>cc' h0 λ Gf h0=>mD [(2,.ptr 2 0),(3,.ptr 3 0)] Z ⟨Z,Z,trivial⟩ Z (dR 1 Z ?_);refine dq (.p (eS r4)) [14] Z (λ _ e _ q=>ae Z (aI (nS DU _ e5) Z Z Z (ap (e _ _ Z) aJ) ⟨sr,trivial⟩ Tryz.call30 Z q)) Z (dq (.p (eS (r4++([32]:Bk)))) [15] Z (λ _ e _ q=>ae Z (bC Z Z Z (e _ _ Z) Z HE q)) Z ?_);refine dR 4 Z (dq (.p (eS r7)) [18,20] Z (λ _ e _ q=>ae Z (aI (us DU.CZ DU.C1 _ e8) Z Z Z (ap (e _ _ Z) (ap (e _ _ Z) aJ)) ⟨sr,sr,trivial⟩ Tryz.call31 Z q)) Z ?_);refine dq (.p (eS ((r4++([32]:Bk))++r7))) [16,21] Z (λ _ e _ q=>ae Z (bC Z Z Z (e _ _ Z) (e _ _ Z) HU q)) Z (dq (.p (eS (((r4++([32]:Bk))++r7)++([58,32]:Bk)))) [22] Z (λ _ e _ q=>ae Z (bC Z Z Z (e _ _ Z) Z Fv q)) Z ?_);refine dR 2 Z (dq (.p (eS Fi)) [25] Z (λ _ e _ q=>ae Z (aI (qn DU.C' _ GU) Z Z Z (ap (e _ _ Z) aJ) ⟨sr,trivial⟩ Tryz.call8 Z q)) Z ?_);refine dq (.p (eS ((((r4++([32]:Bk))++r7)++([58,32]:Bk))++Fi))) [23,26] Z (λ _ e _ q=>ae Z (bC Z Z Z (e _ _ Z) (e _ _ Z) Gf q)) Z (dR 1 Z ?_);refine dE Z (nx 2 Z ?_);refine bd h0 λ JK h1 h0=>kN JK (λ v68=>⟨[(2,.ptr 2 0),(3,.ptr 3 0),(5,.p (eS v68))],[(2,(av.cs DU).map .p),(3,(am.cs s_1).map .p)]⟩) ?_ ?_
 ·refine nx 4 Z (mO Z (rR eS [JK] Z Z Z Z Z Z Z Z Z Z Z Z Z Z Z Z Z ?_));refine nx 4 Z (bd h0 λ HP h1 h0=>?_);refine kN HP (λ v70=>⟨[(2,.ptr 2 0),(3,.ptr 3 0),(6,.vec 33 1 0 ([JK].map eS)),(41,.p (eB v70))],[(2,(av.cs DU).map .p),(3,(am.cs s_1).map .p)]⟩) ?_ ?_
  ·refine nx 1 Z (fB [41] h0 Z (λ FW h0=>?_) λ FW h0=>?_)
   ·refine nx 11 Z (bd h0 λ Gp Ke h0=>?_);refine oK (mJ _ s_1 DU.CS DU.CR DU.CX _ Ke) Z ⟨sr,sr,sr,sr,trivial⟩ Tryz.call32 Z (cc' h0 λ FR h0=>?_);refine mO Z (du eS [JK] Gp Z Z Z Z Z Z Z Z Z Z Z Z Z Y Z Z Z Z FR ?_);exact nx 3 Z (mQ (oi h0) Z (AV.sub_vec _ _ _ _))
   refine nx 9 Z (fD [54] h0 Z (λ FB h0=>?_) λ FB h0=>?_)
   ·exact nx 7 Z (mQ (oi h0) Z (AV.sub_vec _ _ _ _))
   refine nx 5 Z (bd h0 λ Eb Kc h0=>?_);refine oK (mx _ s_1 _ Kc) Z ⟨sr,trivial⟩ Tryz.call33 Z (nx 7 Z ?_);refine bd h0 λ D4 GT h0=>oK (cN _ s_1 DU.CR _ GT) Z ⟨sr,sr,trivial⟩ Tryz.call34 Z (nx 9 Z ?_);refine bd h0 λ o71 h1 h0=>kE 0 o71 (λ v72=>⟨[(6,.vec 88 1 0 (v72.map eS))],[]⟩) ?_ ?_
   ·exact nx 7 Z (mQ (oi h0) Z (AV.sub_vec _ _ _ _))
   refine lG (λ (Ju:(List Bk)×Int)=>⟨[(6,.vec 88 1 0 (Ju.1.map eS)),(7,.p (eL eS Eb)),(8,.ptr 8 0),(9,.p (eI Ju.2))],[(8,(aa.cs D4).map .p)]⟩) (λ m (Ju:(List Bk)×Int)=>dm n Eb D4 m Ju.1 Ju.2) Y ([JK],0) h1 (bj (bI 33 88 rfl rfl rfl rfl rfl) (gE rfl rfl)) ?_;rintro m ⟨Ef,i45⟩ h1;replace h1:dm n Eb D4 (m+1) Ef i45=some o71:=h1;rw [dm] at h1;refine nx 5 rfl (oLl (f:=eS) rfl rfl ?_);refine nx 2 rfl (fD [65] h1 rfl (λ c46 h1=>?_) λ c46 h1=>?_)
   ·refine nx 3 Z (bd h1 λ Ic h2 h1=>?_);refine kN Ic (λ v75=>⟨[(6,.vec 88 1 0 (v75.map eS)),(7,.p (eL eS Eb)),(8,.ptr 8 0),(9,.p (eI i45))],[(8,(aa.cs D4).map .p)]⟩) ?_ ?_
    ·refine nx 3 Z (oA h1 Z Z λ IJ h1=>?_);exact nx 2 Z (eX (Ic,i45+1) h1 (gE Z Z))
    refine nx 2 Z (cc' h2 λ F9 h2=>?_);refine bd h2 λ Fc Je h2=>mG (gE (t:=⟨[(6,.vec 88 1 0 (Ef.map eS)),(7,.p (eL eS Eb)),(8,.ptr 8 0),(9,.p (eI i45))],[(8,(aa.cs D4).map .p)]⟩) Z Z) (mS ⟨2,[6,7],(by3 (.some λ i=>Nat.beq i 10) .none .none),(λ _=>[(6,.vec 88 1 0 (Ef.map eS)),(7,.p (eL eS Eb)),(8,.ptr 8 0),(9,.p (eI i45))]),(by3 ([(8,[.p (eI D4.AI),.p (eI D4.BY),.p (eS D4.CK),.p (eL ag D4.Ar),.p (eL eS D4.AT)])]) ([(10,[.p (eI 0),.p (eI 0),.p (eS ([]:Bk)),.p (.val (.slice none 0 0)),.p (.val (.slice none 0 0))]),(8,[.p (eI D4.AI),.p (eI D4.BY),.p (eS D4.CK),.p (eL ag D4.Ar),.p (eL eS D4.AT)])]) ([(10,[.p (eI Fc.AI),.p (eI Fc.BY),.p (eS Fc.CK),.p (eL ag Fc.Ar),.p (eL eS Fc.AT)]),(10,[.p (eI 0),.p (eI 0),.p (eS ([]:Bk)),.p (.val (.slice none 0 0)),.p (.val (.slice none 0 0))]),(8,[.p (eI D4.AI),.p (eI D4.BY),.p (eS D4.CK),.p (eL ag D4.Ar),.p (eL eS D4.AT)])]))⟩ Z Z Z ⟨Z,Z,Z,Z,trivial⟩ (lt2 ⟨Z,Z,Z,Z,trivial⟩ ⟨Z,Z,Z,Z,trivial⟩) Z Z Z Z ?_);refine ai (λ _=>.p (.agg (aa.cs D4))) Z Z Z (bq Z Z Y) (lt2 Z Z) (ah Z (af [(8,_)] ⟨.inl Z,trivial⟩ (λ sl Dy K hK=>ae Z (aC Z Z Z Z Z (Dy _ _ Z) Z Z Z hK)) (af [(8,_)] ⟨.inl Z,trivial⟩ (λ sl Dy K hK=>ae Z (aC Z Z Z Z Z (Dy _ _ Z) Z Z Z hK)) aj))) (ai (λ _=>.p (eL eS Eb)) Z Z Z (bq Z Z Y) (lt2 Z Z) (ah Z (af [(7,_)] ⟨.inl Z,trivial⟩ (λ sl Dy K hK=>ae Z (bo Z Z Z (Dy _ _ Z) hK)) (af [(7,_)] ⟨.inl Z,trivial⟩ (λ sl Dy K hK=>ae Z (bo Z Z Z (Dy _ _ Z) hK)) aj))) ?_);refine ai (λ _=>.p (eI i45)) Z Z Z (bq Z Z Y) (lt2 Z Z) (ah Z (af [(9,_)] ⟨.inl Z,trivial⟩ (λ sl Dy K hK=>ae Z (bo Z Z Z (Dy _ _ Z) hK)) (af [(9,_)] ⟨.inl Z,trivial⟩ (λ sl Dy K hK=>ae Z (bo Z Z Z (Dy _ _ Z) hK)) aj))) (ai (λ _=>.rptr [eS (lat Eb i45)]) Z Z Z (bq Z Z Y) (lt2 Z Z) (ah Z (af [(69,_),(70,_)] ⟨.inr ⟨1,_,Z,Z,Z⟩,.inr ⟨2,_,Z,Z,Z⟩,trivial⟩ (λ sl Dy K hK=>ae Z (dV (f:=eS) (l:=Eb) (λ x=>[eS x]) Z Z Z Z Z Z (Dy _ _ Z) Z (Dy _ _ Z) F9 Y Y hK)) (af [(69,_),(70,_)] ⟨.inr ⟨1,_,Z,Z,Z⟩,.inr ⟨2,_,Z,Z,Z⟩,trivial⟩ (λ sl Dy K hK=>ae Z (dV (f:=eS) (l:=Eb) (λ x=>[eS x]) Z Z Z Z Z Z (Dy _ _ Z) Z (Dy _ _ Z) F9 Y Y hK)) aj))) ?_);refine ai (λ _=>.p (eS (lat Eb i45))) Z Z Z (bq Z Z Y) (lt2 Z Z) (ah Z (af [(71,_)] ⟨.inr ⟨3,_,Z,Z,Z⟩,trivial⟩ (λ sl Dy K hK=>ae Z (eA Z Z Z Z Z (Dy _ _ Z) Z hK)) (af [(71,_)] ⟨.inr ⟨3,_,Z,Z,Z⟩,trivial⟩ (λ sl Dy K hK=>ae Z (eA Z Z Z Z Z (Dy _ _ Z) Z hK)) aj))) (ai (λ _=>.p (.agg (aa.cs Fc))) Z Z Z (bq Z Z Y) (lt2 Z Z) (ah Z (af [(68,_),(72,_)] ⟨.inr ⟨0,_,Z,Z,Z⟩,.inr ⟨4,_,Z,Z,Z⟩,trivial⟩ (λ sl Dy K hK=>ae Z (aI (iX _ D4 (lat Eb i45) _ Je) Z Z Z (ap (Dy _ _ Z) (ap (Dy _ _ Z) aJ)) ⟨sr,sr,trivial⟩ Tryz.call35 Z hK)) (af [(68,_),(72,_)] ⟨.inr ⟨0,_,Z,Z,Z⟩,.inr ⟨4,_,Z,Z,Z⟩,trivial⟩ (λ sl Dy K hK=>ae Z (aI (iX _ D4 (lat Eb i45) _ Je) Z Z Z (ap (Dy _ _ Z) (ap (Dy _ _ Z) aJ)) ⟨sr,sr,trivial⟩ Tryz.call35 Z hK)) aj))) ?_);refine eF (λ _=>.ptr 10 0) [] Z trivial Z Z (Go.Ab.cU Z Y) (lt2 (λ h=>absurd h (by decide)) Y) (λ sl Dy K hK=>ae Z (g7 Z Z Z Z Z hK)) (cK [(10,_),(73,_)] Z ⟨.inr ⟨6,_,Z,Z,Z⟩,.inr ⟨5,_,Z,Z,Z⟩,trivial⟩ Z (λ sl Dy K hK=>ae Z (cR Z Z Z (Dy _ _ Z) (Dy _ _ Z) Z Z Z (ph Z) hK)) ?_);refine gg (nx 7 Z ?_);refine fN [76] h2 Z (λ c50 h2=>?_) λ c50 h2=>?_
    ·exact nx 2 Z (eX _ (oi h2).symm (gE Z Z))
    refine nx 1 Z (cc' h2 λ J7 h2=>?_);refine cc' h2 λ HY h2=>cc' h2 λ F8 h2=>bd h2 λ Fx J9 h2=>cc' h2 λ J6 h2=>cc' h2 λ HX h2=>mG (gE (t:=⟨[(6,.vec 88 1 0 (Ef.map eS)),(7,.p (eL eS Eb)),(8,.ptr 8 0),(9,.p (eI i45)),(10,.ptr 10 0)],[(8,(aa.cs D4).map .p),(10,(aa.cs Fc).map .p)]⟩) Z Z) (mS ⟨2,[11,12],(by3 (.some λ i=>Nat.beq i 88||Nat.beq i 88) .none .none),(by3 [(6,.vec 88 1 0 (Ef.map eS)),(7,.p (eL eS Eb)),(8,.ptr 8 0),(9,.p (eI i45)),(10,.ptr 10 0)] [(6,.p (eL eS Ef)),(7,.p (eL eS Eb)),(8,.ptr 8 0),(9,.p (eI i45)),(10,.ptr 10 0)] [(7,.p (eL eS Eb)),(8,.ptr 8 0),(9,.p (eI i45)),(10,.ptr 10 0)]),(λ _=>[(8,[.p (eI D4.AI),.p (eI D4.BY),.p (eS D4.CK),.p (eL ag D4.Ar),.p (eL eS D4.AT)]),(10,[.p (eI Fc.AI),.p (eI Fc.BY),.p (eS Fc.CK),.p (eL ag Fc.Ar),.p (eL eS Fc.AT)])])⟩ Z Z Z ⟨Z,Z,Z,Z,Z,trivial⟩ (lt2 ⟨Z,Z,Z,Z,Z,trivial⟩ ⟨Z,Z,Z,Z,trivial⟩) Z Z Z Z ?_);refine ai (by3 (.vec 88 1 0 (Ef.map eS)) (.p (eL eS Ef)) (.p (eL eS Ef))) Z Z Z (bq Z Z Y) (lt2 Z Z) (ah Z (ah Z (af [(6,_)] ⟨.inl Z,trivial⟩ (λ sl Dy K hK=>ae Z (bo Z Z Z (Dy _ _ Z) hK)) aj))) (ai (λ _=>.p (eL eS Eb)) Z Z Z (bq Z Z Y) (lt2 Z Z) (ah Z (af [(7,_)] ⟨.inl Z,trivial⟩ (λ sl Dy K hK=>ae Z (bo Z Z Z (Dy _ _ Z) hK)) (af [(7,_)] ⟨.inl Z,trivial⟩ (λ sl Dy K hK=>ae Z (bo Z Z Z (Dy _ _ Z) hK)) aj))) ?_);refine ai (λ _=>.p (eI i45)) Z Z Z (bq Z Z Y) (lt2 Z Z) (ah Z (af [(9,_)] ⟨.inl Z,trivial⟩ (λ sl Dy K hK=>ae Z (bo Z Z Z (Dy _ _ Z) hK)) (af [(9,_)] ⟨.inl Z,trivial⟩ (λ sl Dy K hK=>ae Z (bo Z Z Z (Dy _ _ Z) hK)) aj))) (ai (λ _=>.rptr [eS (lat Eb i45)]) Z Z Z (bq Z Z Y) (lt2 Z Z) (ah Z (af [(78,_),(79,_)] ⟨.inr ⟨1,_,Z,Z,Z⟩,.inr ⟨2,_,Z,Z,Z⟩,trivial⟩ (λ sl Dy K hK=>ae Z (dV (f:=eS) (l:=Eb) (λ x=>[eS x]) Z Z Z Z Z Z (Dy _ _ Z) Z (Dy _ _ Z) J7 Y Y hK)) (af [(78,_),(79,_)] ⟨.inr ⟨1,_,Z,Z,Z⟩,.inr ⟨2,_,Z,Z,Z⟩,trivial⟩ (λ sl Dy K hK=>ae Z (dV (f:=eS) (l:=Eb) (λ x=>[eS x]) Z Z Z Z Z Z (Dy _ _ Z) Z (Dy _ _ Z) J7 Y Y hK)) aj))) ?_);refine ai (λ _=>.p (eS (lat Eb i45))) Z Z Z (bq Z Z Y) (lt2 Z Z) (ah Z (af [(80,_)] ⟨.inr ⟨3,_,Z,Z,Z⟩,trivial⟩ (λ sl Dy K hK=>ae Z (eA Z Z Z Z Z (Dy _ _ Z) Z hK)) (af [(80,_)] ⟨.inr ⟨3,_,Z,Z,Z⟩,trivial⟩ (λ sl Dy K hK=>ae Z (eA Z Z Z Z Z (Dy _ _ Z) Z hK)) aj))) (ai (λ _=>.p (eS (([32,32,32,32]:Bk)++(lat Eb i45)))) Z Z Z (bq Z Z Y) (lt2 Z Z) (ah Z (af [(81,_)] ⟨.inr ⟨4,_,Z,Z,Z⟩,trivial⟩ (λ sl Dy K hK=>ae Z (bC Z Z Z Z (Dy _ _ Z) HY hK)) (af [(81,_)] ⟨.inr ⟨4,_,Z,Z,Z⟩,trivial⟩ (λ sl Dy K hK=>ae Z (bC Z Z Z Z (Dy _ _ Z) HY hK)) aj))) ?_);refine ai (λ _=>.p (eS ((([32,32,32,32]:Bk)++(lat Eb i45))++([32,61,32]:Bk)))) Z Z Z (bq Z Z Y) (lt2 Z Z) (ah Z (af [(82,_)] ⟨.inr ⟨5,_,Z,Z,Z⟩,trivial⟩ (λ sl Dy K hK=>ae Z (bC Z Z Z (Dy _ _ Z) Z F8 hK)) (af [(82,_)] ⟨.inr ⟨5,_,Z,Z,Z⟩,trivial⟩ (λ sl Dy K hK=>ae Z (bC Z Z Z (Dy _ _ Z) Z F8 hK)) aj))) (ai (λ _=>.p (.agg (aa.cs Fc))) Z Z Z (bq Z Z Y) (lt2 Z Z) (ah Z (af [(10,_)] ⟨.inl Z,trivial⟩ (λ sl Dy K hK=>ae Z (aC Z Z Z Z Z (Dy _ _ Z) Z Z Z hK)) (af [(10,_)] ⟨.inl Z,trivial⟩ (λ sl Dy K hK=>ae Z (aC Z Z Z Z Z (Dy _ _ Z) Z Z Z hK)) aj))) ?_);refine ai (λ _=>.p (eS Fx)) Z Z Z (bq Z Z Y) (lt2 Z Z) (ah Z (ah Z (af [(84,_)] ⟨.inr ⟨7,_,Z,Z,Z⟩,trivial⟩ (λ sl Dy K hK=>ae Z (aI (ki _ Fc _ J9) Z Z Z (ap (Dy _ _ Z) aJ) ⟨sr,trivial⟩ Tryz.call36 Z hK)) aj))) (ai (λ _=>.p (eS (((([32,32,32,32]:Bk)++(lat Eb i45))++([32,61,32]:Bk))++Fx))) Z Z Z (bq Z Z Y) (lt2 Z Z) (ah Z (af [(83,_),(85,_)] ⟨.inr ⟨6,_,Z,Z,Z⟩,.inr ⟨8,_,Z,Z,Z⟩,trivial⟩ (λ sl Dy K hK=>ae Z (bC Z Z Z (Dy _ _ Z) (Dy _ _ Z) J6 hK)) (af [(83,_),(85,_)] ⟨.inr ⟨6,_,Z,Z,Z⟩,.inr ⟨8,_,Z,Z,Z⟩,trivial⟩ (λ sl Dy K hK=>ae Z (bC Z Z Z (Dy _ _ Z) (Dy _ _ Z) J6 hK)) aj))) ?_);refine ai (λ _=>.p (eL eS ([((([32,32,32,32]:Bk)++(lat Eb i45))++([32,61,32]:Bk))++Fx]))) Z Z Z (bq Z Z Y) (lt2 Z Z) (ah Z (ah Z (af [(86,_)] ⟨.inr ⟨9,_,Z,Z,Z⟩,trivial⟩ (λ sl Dy K hK=>ae Z (bE eS [((([32,32,32,32]:Bk)++(lat Eb i45))++([32,61,32]:Bk))++Fx] Z Z Z Z Z Z (ce (Dy _ _ Z) Z dU) Z Z Z Z Z Z Z hK)) aj))) (eF (λ _=>.vec 88 1 0 ((Ef++([((([32,32,32,32]:Bk)++(lat Eb i45))++([32,61,32]:Bk))++Fx])).map eS)) [(77,_),(87,_)] Z ⟨.inr ⟨0,_,Z,Z,Z⟩,.inr ⟨10,_,Z,Z,Z⟩,trivial⟩ Z Z (Go.Ab.cU Z Y) (lt2 (λ h=>absurd h (by decide)) Y) (λ sl Dy K hK=>ae Z (du eS Ef ([((([32,32,32,32]:Bk)++(lat Eb i45))++([32,61,32]:Bk))++Fx]) Z Z Z Z Z Z Z Z (Dy _ _ Z) Z Z (Dy _ _ Z) Z Y Z Z Z Z HX hK)) ?_);refine eF (λ _=>.vec 88 1 0 ((Ef++([((([32,32,32,32]:Bk)++(lat Eb i45))++([32,61,32]:Bk))++Fx])).map eS)) [(88,_)] Z ⟨.inr ⟨11,_,Z,Z,Z⟩,trivial⟩ Z Z Y (lt2 (λ h=>absurd h (by decide)) (λ h=>absurd h (by decide))) (λ sl Dy K hK=>ae Z (cF Z Z Z (Dy _ _ Z) hK)) (gg ?_);exact nx 1 Z (eX _ (oi h2).symm (gE Z Z))
   exact nx 2 Z (eXi _ (oi h1).symm (gE Z Z))
  refine nx 5 Z (fD [36,37] h1 Z (λ FE h1=>?_) λ FE h1=>?_)
  ·exact nx 5 Z (eX _ (oi h1).symm (gE Z Z))
  exact nx 5 Z (eX _ (oi h1).symm (gE Z Z))
 refine nx 5 Z (fB [29] h1 Z (λ FF h1=>?_) λ FF h1=>?_)
 ·refine nx 3 Z (oC h1 Z λ E8 h1=>?_);exact nx 2 Z (eX _ (oi h1).symm (gE Z Z))
 exact nx 2 Z (eX _ (oi h1).symm (gE Z Z))
def fO (n:Nat)(DU:av)(s_1:am):Option Bool :=((jp n DU).bind λ r1=>if (!r1)=true then some true else(jD n s_1).bind λ r4=>some (!r4) : Option Bool).bind λ t6=>if t6=true then(g9 n).bind λ r8=>some r8 else((eQ n DU s_1).bind λ El=>(jk n DU s_1).bind λ HM=>(j8 n El HM).bind λ H7=>if H7=true then(g9 n).bind λ G0=>some G0 else some false : Option Bool).bind λ Jo=>some Jo
theorem lD (n:Nat)(DU:av)(s_1:am)(r:Bool)(h0:fO n DU s_1=some r):aB Tryz.prog 4 [.agg (av.cs DU),.agg (am.cs s_1)] (·=.p (eB r)):=by
 unfold fO at h0;refine aR good Tryz.func4 Z Z Z λ w0=>mP (λ v:Bool=>.p (eB v)) ?_;refine nx 8 Z (bd h0 λ HB h1 h0=>?_);refine kN HB (λ HJ=>⟨[(2,.ptr 2 0),(3,.ptr 3 0),(12,.p (eB HJ))],[(2,(av.cs DU).map .p),(3,(am.cs s_1).map .p)]⟩) ?_ ?_
 ·refine nx 1 Z (fB [12] h0 Z (λ c7 h0=>?_) λ c7 h0=>?_)
  ·refine nx 3 Z (bd h0 λ r8 e9 h0=>?_);refine oK (mE _  _ e9) Z trivial Tryz.call9 Z (nx 3 Z ?_);exact mQ (oi h0) Z (sr)
  refine nx 3 Z (bd h0 λ Iy h1 h0=>?_);refine kN Iy (λ Ip=>⟨[(4,.p (eB Ip))],[]⟩) ?_ ?_
  ·exact nx 2 Z (mQ (oi h0) Z (sr))
  refine bd h1 λ El Gt h1=>bd h1 λ HM e13 h1=>bd h1 λ H7 e15 h1=>fB (p:=H7) [] h1 Z (λ GX h1=>?_) λ GX h1=>?_
  ·refine bd h1 λ G0 Kf h1=>mD [(2,.ptr 2 0),(3,.ptr 3 0)] Z ⟨Z,Z,trivial⟩ Z (dR 2 Z ?_);refine dq (.p (eL eS El)) [14,15] Z (λ _ e _ q=>ae Z (aI (fS _ DU s_1 _ Gt) Z Z Z (ap (e _ _ Z) (ap (e _ _ Z) aJ)) ⟨sr,sr,trivial⟩ Tryz.call13 Z q)) Z (dR 2 Z ?_);refine dq (.p (eL eS HM)) [17,18] Z (λ _ e _ q=>ae Z (aI (ml _ DU s_1 _ e13) Z Z Z (ap (e _ _ Z) (ap (e _ _ Z) aJ)) ⟨sr,sr,trivial⟩ Tryz.call14 Z q)) Z (dq (.p (eB H7)) [16,19] Z (λ _ e _ q=>ae Z (aI (nD _ El HM _ e15) Z Z Z (ap (e _ _ Z) (ap (e _ _ Z) aJ)) ⟨sr,sr,trivial⟩ Tryz.call12 Z q)) Z ?_);refine dL (GX) Z (dq (.p (eB G0)) [21] Z (λ _ e _ q=>fI (aI (mE _  _ Kf) Z Z Z aJ trivial Tryz.call9 Z q) Z Z (e _ _ Z) (rfl)) Z ?_);refine dR 2 Z (dE Z ?_);exact nx 1 Z (eX _ (oi h1).symm (gE Z Z))
  refine mD [(2,.ptr 2 0),(3,.ptr 3 0)] Z ⟨Z,Z,trivial⟩ Z (dR 2 Z ?_);refine dq (.p (eL eS El)) [14,15] Z (λ _ e _ q=>ae Z (aI (fS _ DU s_1 _ Gt) Z Z Z (ap (e _ _ Z) (ap (e _ _ Z) aJ)) ⟨sr,sr,trivial⟩ Tryz.call13 Z q)) Z (dR 2 Z ?_);refine dq (.p (eL eS HM)) [17,18] Z (λ _ e _ q=>ae Z (aI (ml _ DU s_1 _ e13) Z Z Z (ap (e _ _ Z) (ap (e _ _ Z) aJ)) ⟨sr,sr,trivial⟩ Tryz.call14 Z q)) Z (dq (.p (eB H7)) [16,19] Z (λ _ e _ q=>ae Z (aI (nD _ El HM _ e15) Z Z Z (ap (e _ _ Z) (ap (e _ _ Z) aJ)) ⟨sr,sr,trivial⟩ Tryz.call12 Z q)) Z ?_);refine dL (GX) Z (dR 3 Z ?_);refine dE Z (nx 1 Z ?_);exact eX _ (oi h1).symm (gE Z Z)
 refine nx 2 Z (bd h1 λ r1 e2 h1=>?_);refine oK (qh _ DU _ e2) Z ⟨sr,trivial⟩ Tryz.call10 Z (nx 2 Z ?_);refine fB [7,8] h1 Z (λ c3 h1=>?_) λ c3 h1=>?_
 ·exact nx 5 Z (eX _ (oi h1).symm (gE Z Z))
 refine nx 1 Z (bd h1 λ r4 e5 h1=>?_);refine oK (qq _ s_1 _ e5) Z ⟨sr,trivial⟩ Tryz.call11 Z (nx 3 Z ?_);exact eX _ (oi h1).symm (gE Z Z)
end Go.Ab.R06
end
section
namespace Go.Ab.R06
open Go.Ab Go.Ab.RB Go.Lib
theorem ou:∀ (k u:Nat),u<10^(k+1)->u<=9007199254740992->Ev2 (λ n _=>cI n (u:Int)) (·=decDigits u):=by
 intro k
 induction k with
 | zero=>
  intro u h _;have h:u<10:=by simpa using h
  refine d8 ?_;simp only [cI];have hw:IntKind.wrap .u8 (48+(u:Int))=((48+u:Nat):Int):=by rw [Br]; omega
  rw [hw];refine ax true (aV O (ac (by simp; omega))) (aV rfl (al (aM O O) (al O (ac ?_))));rw [decDigits,dif_pos h]
  rfl
 | succ k ih=>
  intro u h hm;refine d8 ?_;simp only [cI];have hw:u<10->IntKind.wrap .u8 (48+(u:Int))=((48+u:Nat):Int):=λ _=>by rw [Br]; omega
  by_cases h10:u<10
  ·rw [hw h10];refine ax true (aV O (ac (by simp; omega))) (aV rfl (al (aM O O) (al O (ac ?_))));rw [decDigits,dif_pos h10]
   rfl
  ·have hd:IntKind.wrap .i64 ((u:Int).tdiv 10)=((u / 10:Nat):Int):=by
    have:(u:Int).tdiv 10=((u / 10:Nat):Int):=by
     rw [Int.tdiv_eq_ediv_of_nonneg O]; omega
    rw [this];simp [IntKind.wrap,IntKind.bits,IntKind.signed];omega
   have hmod:(u:Int).tmod 10=((u%10:Nat):Int):=by
    rw [Int.tmod_eq_emod_of_nonneg O]; omega
   refine ax false (aV O (ac (by simp; omega))) (aU G ?_);refine ax false (aU O (ac Z)) (aU G (aU O (al (by decide) ?_)));rw [hd,hmod];have i1:=ih (u / 10) (by rw [Nat.pow_succ] at h; omega) O;have i2:=ih (u%10) (by have:10^1<=10^(k+1):=Nat.pow_le_pow_right (by decide) O; omega) O;have e2:decDigits (u%10)=[UInt8.ofNat (48+u%10)]:=by rw [decDigits,dif_pos O]
   have hl:(decDigits (u / 10)).length<=u / 10+1:=by
    have:∀ n v:Nat,v<n->(decDigits v).length<=v+1:=by
     intro n
     induction n with
     | zero=>intro v h; omega
     | succ n ihn=>
      intro v hv;rw [decDigits];split
      ·simp
      ·have:=ihn (v / 10) O;rw [bt]; simp; omega
    exact this (u / 10+1) _ O
   refine ax _ i1 (al (by decide) (ax _ i2 (al ?_ (ac ?_))))
   ·rw [e2]; simp only [bx,d4]; omega
   ·conv=>rhs; rw [decDigits,dif_neg h10]
    rw [e2]
theorem Ak {v:Int}(h0:0<=v)(h1:v<=oo):Ev2 (λ n _=>cI n v) (·=itoa v):=by
 obtain ⟨u,rfl⟩:∃ u:Nat,v=u:=⟨v.toNat,by omega⟩
 have e:itoa (u:Int)=decDigits u:=by unfold itoa; rw [if_neg O]; simp
 rw [e];have:u<=9007199254740992:=by unfold oo at h1; omega
 exact ou 15 u O this
theorem vX (u:Nat)(h:u<256):Ev2 (λ n _=>fU n (u:Int)) (·=fT u):=by
 have one:∀ v:Nat,v<16->Ev2 (λ n _=>fU n (v:Int)) (·=[hexDigit v]):=by
  intro v hv;refine d8 ?_;simp only [fU];have hm:(v:Int).tmod 16=(v:Int):=by rw [Int.tmod_eq_emod_of_nonneg O]; omega
  rw [hm];refine al (by decide) (al (by decide) (al (aM O O) (al (by simp; omega) (aV O (ac ?_)))));exact w9 ⟨v,hv⟩
 by_cases h1:u<16
 ·have e:fT u=[hexDigit u]:=if_pos h1;rw [e]; exact one u h1
 ·have e:fT u=[hexDigit (u / 16),hexDigit (u%16)]:=if_neg h1;rw [e];refine d8 ?_;simp only [fU];have hm:(u:Int).tmod 16=((u%16:Nat):Int):=by rw [Int.tmod_eq_emod_of_nonneg O]; omega
  have hd:IntKind.wrap .i64 ((u:Int).tdiv 16)=((u / 16:Nat):Int):=by
   have:(u:Int).tdiv 16=((u / 16:Nat):Int):=by rw [Int.tdiv_eq_ediv_of_nonneg O]; omega
   rw [this];simp [IntKind.wrap,IntKind.bits,IntKind.signed];omega
  rw [hm,hd];have es:sub ([48,49,50,51,52,53,54,55,56,57,97,98,99,100,101,102]:Bk) ((u%16:Nat):Int) (((u%16:Nat):Int)+1)=[hexDigit (u%16)]:=w9 ⟨u%16,by omega⟩;rw [es];refine al (by decide) (al (by decide) (al (aM O O) (al (by simp; omega) (aU O (al (by decide) (ax _ (one _ O) (al G (ac rfl))))))))
theorem Bn (b:UInt8):Ev2 (λ n _=>iy n (b.toNat:Int)) (·=kC b):=by
 have hb:=b.toNat_lt;simp only [iy];refine ar (λ h=>ac (Bw O).symm) (λ h1=>ar (λ h=>ac (Bv O).symm) (λ h2=>ar (λ h=>ac (BD O).symm) (λ h3=>ar (λ h=>ac ?_) (λ h4=>ar (λ h=>ac ?_) (λ h5=>?_)))))
 ·have e:b=34:=(BB (n:=34) (by decide)).1 O;rw [e]; rfl
 ·have e:b=92:=(BB (n:=92) (by decide)).1 O;rw [e]; rfl
 ·refine ax (decide (b.toNat<32\/b.toNat=127)) ?_ ?_
  ·by_cases h:b.toNat<32
   ·exact aV O (ac (by simp [h]))
   ·exact aU O (ac (eqB (by rw [decide_eq_true_eq,decide_eq_true_eq]; omega)))
  ·by_cases h6:b.toNat<32\/b.toNat=127
   ·rw [Bt O O O h6];have hl:=mA b.toNat;exact aV (by simp [h6]) (al (aM O O) (ax _ (vX b.toNat O) (al (by simp only [bx,d4]; omega) (al (by simp only [bt,bx,d4]; omega) (ac rfl)))))
   ·rw [Bp O O  h6];refine aU (by simp only [decide_eq_true_eq]; exact h6) (al O (ac ?_));rw [Aa]
theorem xZ (s:Bk)(hs:s.length<=1000000000):∀ (k i:Nat) (f:Bk),i+k=s.length->f.length<=6*i+1->Ev2 (λ n m=>fc n s m f (i:Int)) (·=f++(s.drop i).flatMap kC):=by
 intro k
 induction k with
 | zero=>
  intro i f hi hf;refine bD ?_;simp only [fc];refine aU O (ac ?_);rw [List.drop_of_length_le O]; simp
 | succ k ih=>
  intro i f hi hf;refine bD ?_;simp only [fc];refine aV O (al O ?_);have hb:byt s i=((s.getD i 0).toNat:Int):=oD s i;rw [hb]
  have hd:s.drop i=s.getD i 0::s.drop (i+1):=by
   rw [List.getD_eq_getElem?_getD,List.getElem?_eq_getElem O,ro];exact List.drop_eq_getElem_cons O
  rw [hd,List.flatMap_cons];have he:=rO (s.getD i 0);generalize s.getD i 0=b at he ⊢;refine ax _ (Bn b) (al O (al (aM O O) ?_));have:=ih (i+1) (f++kC b) O (by rw [bt]; omega);rw [Int.natCast_add,Int.natCast_one] at this;simpa using this
theorem tE (s:Bk)(hs:s.length<=1000000000):Ev2 (λ n _=>iU n s) (·=nw s):=by
 simp only [iU];have hf:=rA s;have l:=xZ s hs s.length 0 [34] O G;rw [List.drop_zero] at l;refine ax _ (bp l) (al (by simp only [bt,bx,d4]; omega) (ac ?_));simp [nw]
theorem wO (u:Nat)(h0:1<=u)(h1:u<=9007199254740992):Ev2 (λ n _=>cI n (-(u:Int))) (·=45::decDigits u):=by
 have hl:=qM 19 u O;refine d8 ?_;simp only [cI];refine ax false (aU O (ac Z)) (aU G ?_);by_cases h10:u<10
 ·refine ax true (aV O (ac (by simp; omega))) (aV Z (al (aM O O) ?_));have e:(0:Int) - -(u:Int)=(u:Int):=by omega
  rw [e];exact ax _ (ou 15 u O h1) (al (by simp only [bx,d4]; omega) (ac rfl))
 ·refine ax false (aV O (ac (by simp; omega))) (aU G (aV O (al (by decide) ?_)))
  have hd:IntKind.wrap .i64 ((-(u:Int)).tdiv 10)=-((u / 10:Nat):Int):=by
   have:(-(u:Int)).tdiv 10=-((u / 10:Nat):Int):=by
    rw [Int.neg_tdiv,Int.tdiv_eq_ediv_of_nonneg O]; omega
   rw [this];simp [IntKind.wrap,IntKind.bits,IntKind.signed];omega
  have hm:(-(u:Int)).tmod 10=-((u%10:Nat):Int):=by
   rw [Int.neg_tmod,Int.tmod_eq_emod_of_nonneg O]; omega
  rw [hd,hm];have e:(0:Int) - -((u%10:Nat):Int)=((u%10:Nat):Int):=by omega
  rw [e];have ih:=wO (u / 10) O O;have h2:=qM 19 (u / 10) O;have e2:decDigits (u%10)=[UInt8.ofNat (48+u%10)]:=by rw [decDigits,dif_pos O]
  refine ax _ ih (al (by decide) (al (aM O O) (ax _ (ou 15 (u%10) O O) (al (by rw [e2]; simp only [bx,d4]; omega) (ac ?_)))))
  conv=>rhs; rw [decDigits,dif_neg h10]
  rw [e2]
  rfl
 termination_by u
 decreasing_by omega
theorem Aq {v:Int}(h0:-oo<=v)(h1:v<=oo):Ev2 (λ n _=>cI n v) (·=itoa v):=by
 by_cases h:0<=v
 ·exact Ak h h1
 ·obtain ⟨u,rfl⟩:∃ u:Nat,v=-(u:Int):=⟨v.natAbs,by omega⟩
  unfold oo at h0;have e:itoa (-(u:Int))=45::decDigits u:=by unfold itoa; rw [if_pos O]; simp
  rw [e];exact wO u O O
def DV:Nat->aa->Prop|0,_=>False|k+1,v=>∀ x∈v.Ar,DV k x
theorem xQ {v:aa}(hb:aa.Bd v):∀ (k:Nat) (level before:Int),level+k=33->k<=33->0<=before->before<=4096->Ev2 (λ n _=>dl n v level before) (λ r=>0<=r.2/\r.2<=4096/\(r.1=0->DV k v)):=by
 have hb0:=hb
 induction hb with
 | @mk x bKind bNum bStr bItems eItems bKeys eKeys ih=>
  intro k level before h1 h2 h3 h4;have hl:=bItems;unfold a8 at hl;refine d8 ?_;simp only [dl];refine ar (λ _=>ac ⟨h3,h4,λ q=>absurd (Int.ofNat.inj q) (by decide)⟩) (λ h5=>ar (λ _=>ac ⟨h3,h4,λ q=>absurd (Int.ofNat.inj q) (by decide)⟩) (λ h6=>?_));refine aK _ (u6 hb0) (λ r hr=>ar (λ h0=>?_) (λ h0=>ac ⟨h3,h4,λ q=>absurd q h0⟩));refine al (aM O O) ?_;obtain ⟨k,rfl⟩:∃ j,k=j+1:=⟨k-1,by omega⟩
  refine li (bp (f:=λ n m=>cn (dl n) x level m (before+1) 0) ?_);refine cr (λ n m i (c:Int)=>cn (dl n) x level m c i) x.Ar.length (λ i c=>0<=c/\c<=4096/\∀ j:Nat,j<i->DV k (lat x.Ar (j:Int))) (λ i c hi hc kk=>?_) (λ c hc=>?_) (before+1) ⟨by omega,by omega,λ j hj=>by omega⟩
  ·simp only [cn];refine aV O (al O (al (aM O O) (aK _ (ih _ (Go.Ab.bK O) (eItems _ (Go.Ab.bK O)) k (level+1) c O O  hc.1 hc.2.1) (λ q hq=>ar (λ hq0=>al (aM O O) (kk _ ⟨hq.1,hq.2.1,λ j hj=>?_⟩)) (λ hq0=>ac ⟨hq.1,hq.2.1,λ z=>absurd z hq0⟩)))));rcases Nat.lt_or_ge j i with h7|h7
   ·exact hc.2.2 j h7
   ·obtain rfl:j=i:=by omega
    exact hq.2.2 hq0
  ·simp only [cn];refine aU O (ac (ac ⟨hc.1,hc.2.1,λ _ y hy=>?_⟩));obtain ⟨j,hj,rfl⟩:=List.getElem_of_mem hy;rw [<- cZ x.Ar j hj];exact hc.2.2 j hj
theorem xE {v:aa}(hb:aa.Bd v):Ev2 (λ n _=>et n v) (λ r=>r=0->DV 32 v):=by
 simp only [et];exact aK _ (xQ hb 32 1 0 (by decide) (by decide) (by decide) (by decide)) (λ r hr=>ac hr.2.2)
theorem AN {j:Nat}{x:aa}(h:DV j x):DV j ye:=by
 cases j with
 | zero=>exact h
 | succ j=>intro y hy; cases hy
theorem zc {v w x:aa}{q:Bk}{k:Nat}(h:cG v q=some x)(hw:∀ j,DV j x->DV j w)(hv:DV k v):DV k (od v q w):=by
 cases k with
 | zero=>exact hv
 | succ k=>
  intro y hy
  have hm:x∈v.Ar:=by
   unfold cG at h;split at h
   ·exact nB _ _ _ _ h
   ·cases h
  rcases rt _ _ _ _ _ hy with hy|rfl
  ·exact hv y hy
  ·exact hw k (hv x hm)
theorem wd:∀ (l:List az) {v:aa} {k:Nat},DV k v->DV k (jh v l)
 | [],_,_,h=>h
 | a::l,v,k,h=>by
  refine wd l (v:=ju v a) ?_;unfold ju;split
  ·rename_i hs;obtain ⟨x,hx,_⟩:=pC hs.2;exact zc hx (λ j hj=>AN hj) h
  ·exact h
theorem Bg {l:List az}{v:aa}{k:Nat}(h:DV k v):DV k (jI l v):=by
 unfold jI;split
 ·exact wd l h
 ·exact h
theorem yH {l:List az}{v:aa}{k:Nat}(h:DV k v):DV k (o0 v (v.Ar.map (jI l))):=by
 cases k with
 | zero=>exact h
 | succ k=>
  intro y hy;obtain ⟨z,hz,rfl⟩:=List.mem_map.1 hy;exact Bg (h z hz)
theorem uO:∀ (l:List aD) {v:aa} {k:Nat},DV k v->DV k (l.foldl eH v)
 | [],_,_,h=>h
 | n::l,v,k,h=>by
  refine uO l (v:=eH v n) ?_;unfold eH;split
  ·rename_i x hx;split
   ·exact zc hx (λ j hj=>yH hj) h
   ·exact h
  ·exact h
theorem AA {s:am}{v:aa}{k:Nat}(h:DV k v):DV k (eJ s v):=by
 unfold eJ;split
 ·exact uO _ (wd _ h)
 ·exact h
theorem Cq {v:aa}{k:Nat}(h:DV (k+2) v)(q:Bk):DV (k+1) (ofP v q):=by
 unfold ofP
 cases hx:cG v q with
 | none=>intro y hy; cases hy
 | some x=>
  unfold cG at hx;split at hx
  ·exact h x (nB _ _ _ _ hx)
  ·cases hx
theorem nE (k:Int)(ks:List Bk):∀ (l:List aa) (i:Nat) (x:aa),iO k ks i (l++[x])=iO k ks i l++((if 0<i+l.length then [44,32] else [])++lu k ks (i+l.length)++l9 x)
 | [],i,x=>by simp only [List.nil_append,iO,List.append_nil,d4,Nat.add_zero]
 | y::r,i,x=>by
  simp only [List.cons_append,iO,nE k ks r,bx,List.append_assoc];rw [show i+1+r.length=i+(r.length+1) by omega]
theorem mz {v:aa}(h:VV v):∀ (l:List aa) (i:Nat),(∀ x∈l,x∈v.Ar)->(iO v.AI v.AT i l).length<=50000*bR l
 | [],_,_=>by simp [iO]
 | x::r,i,hm=>by
  have a1:=fM (h.item (hm x List.mem_cons_self));have a2:=mz h r (i+1) (λ y hy=>hm y (List.mem_cons_of_mem _ hy));have a3:=lM h i;have a4:(if 0<i then ([44,32]:Bk) else []).length<=2:=by split <;> simp
  simp only [iO,bR,bt];omega
theorem qb:∀ l r:List aa,bR (l++r)=bR l+bR r
 | [],r=>by simp [bR]
 | x::l,r=>by simp only [List.cons_append,bR,qb l r]; omega
theorem AY:∀ (N:Nat) (v:aa),SizeOf.sizeOf v<N->VV v->∀ (k:Nat) (depth:Int),DV k v->0<=depth->depth+k<=33->bW v<=100000->Ev2 (λ n _=>eM n v depth) (·=l9 v):=by
 intro N
 induction N with
 | zero=>intro v h; omega
 | succ N ih=>
  intro v hN h k depth hd d0 dk hn;have hnode:=h.1.node;have hil:=h.il;have DW:=hnode.s
  obtain ⟨k,rfl⟩:∃ j,k=j+1:=by
   cases k with
   | zero=>exact hd.elim
   | succ j=>exact ⟨j,Z⟩
  refine d8 ?_;simp only [eM];have leaf:v.AI≠4->v.AI≠5->l9 v=kR v:=λ a b=>by rw [oY,if_pos (by rw [hnode.its a b]; rfl)]
  refine ar (λ k0=>?_) (λ k0=>ar (λ k1=>?_) (λ k1=>ar (λ k2=>?_) (λ k2=>ar (λ k3=>?_) (λ k3=>?_))))
  ·rw [leaf O O];unfold kR;simp only [k0];exact ac rfl
  ·rw [leaf O O];unfold kR;rw [if_pos k1];exact ar (λ a=>ac (by rw [if_pos a])) (λ a=>ac (by rw [if_neg a]))
  ·rw [leaf O O];unfold kR;rw [if_neg k1,if_pos k2];exact ax _ (Aq (hnode.nm k2).1 (hnode.nm k2).2) (ac rfl)
  ·rw [leaf O O];unfold kR;rw [if_neg k1,if_neg k2,if_pos k3];exact ax _ (tE _ O) (ac rfl)
  ·refine ax (decide (v.AI=6)) (ar (λ a=>ac (by simp [a])) (λ a=>ac ?_)) (ar (λ a=>?_) (λ a=>?_))
   ·rw [decide_eq_false a,decide_eq_false O]
   ·have a:=of_decide_eq_true a;rw [leaf O O];unfold kR;rw [if_neg k1,if_neg k2,if_neg k3,if_neg O,if_neg O,if_pos a];exact ac Z
   ·have a:¬ v.AI=6:=λ z=>a (decide_eq_true z);have hrg:=hnode.rg;have hL:=mz h v.Ar 0 (λ _ hx=>hx);have hnl:=fL v;refine ax (iO v.AI v.AT 0 v.Ar) (bp (f:=λ n m=>dK n (eM n) v depth m [] 0) ?_) ?_
    ·refine cr (λ n m i (f:Bk)=>dK n (eM n) v depth m f i) v.Ar.length (λ i f=>f=iO v.AI v.AT 0 (v.Ar.take i)) (λ i f hi hf kk=>?_) (λ f hf=>?_) [] Z
     ·subst hf;have hm:lat v.Ar (i:Int)∈v.Ar:=Go.Ab.bK O;have hx:=h.item hm;have DG:=oU hm;have hnx:=lY hm;have c1:=mz h (v.Ar.take i) 0 (λ x hx=>List.mem_of_mem_take hx);have c2:=fM hx;have c3:=lM h i
      have c4:bR (v.Ar.take i)<=bR v.Ar:=by
       have:=qb (v.Ar.take i) (v.Ar.drop i);rw [List.take_append_drop] at this;omega
      have hsn:=nE v.AI v.AT (v.Ar.take i) 0 (lat v.Ar (i:Int));rw [<- di _ hi,qr,show min i v.Ar.length=i by omega,th] at hsn;have kk1:=kk _ hsn.symm;have c5:((if 0<i then ([44,32]:Bk) else []).length)<=2:=by split <;> simp
      simp only [dK];generalize hq:(if 0<i then ([44,32]:Bk) else [])=sp at c5 hsn kk1;generalize iO v.AI v.AT 0 (v.Ar.take i)=g at c1 hsn kk1;refine aV O (ax (g++sp) ?_ (ax (g++sp++lu v.AI v.AT i) ?_ ?_))
      ·refine ar (λ q=>?_) (λ q=>ac ?_)
       ·rw [if_pos O] at hq;subst hq;exact al (by simp only [bx,d4]; omega) (ac rfl)
       ·rw [if_neg O] at hq;subst hq;simp
      ·unfold lu at c3 ⊢;refine ax (decide (v.AI=5/\i<v.AT.length)) (ar (λ a=>ac (by simp [a])) (λ a=>ac (by simp [a]))) (ar (λ a=>?_) (λ a=>?_))
       ·have a:=of_decide_eq_true a;have e1:=(hnode.txt _ (Go.Ab.bK (l:=v.AT) (i:=(i:Int)) O)).1;have e2:=mc (lat v.AT (i:Int));rw [if_pos a];refine al O (ax _ (tE _ O) (al (by simp only [bt]; omega) (al (by simp only [bt,bx,d4]; omega) (ac ?_))));simp only [List.append_assoc]
       ·rw [if_neg (λ z=>a (decide_eq_true z)),List.append_nil];exact ac rfl
      ·refine al O (al (aM O O) (ax _ (ih _ O hx k (depth+1) (hd _ hm) O O O) (al (by simp only [bt]; omega) (al (aM O O) ?_))));rw [List.append_assoc,List.append_assoc];rw [List.append_assoc] at kk1;exact kk1
     ·subst hf;simp only [dK];exact aU O (ac (by rw [List.take_length]))
    ·rw [oY]
     have hemp:v.Ar.isEmpty=true->iO v.AI v.AT 0 v.Ar=[]:=λ z=>by
      have:v.Ar=[]:=by simpa using z
      rw [this]; rfl
     have h45:v.AI=4\/v.AI=5:=by omega
     refine ar (λ b=>al (by simp only [bx,d4]; omega) (al (by simp only [bt,bx,d4]; omega) (ac ?_))) (λ b=>al (by simp only [bx,d4]; omega) (al (by simp only [bt,bx,d4]; omega) (ac ?_)))
     ·split
      ·rename_i z;rw [hemp z];unfold kR;rw [if_neg k1,if_neg k2,if_neg k3,if_pos b]
       rfl
      ·rw [if_neg O,if_neg O]
     ·have b5:v.AI=5:=by omega
      split
      ·rename_i z;rw [hemp z];unfold kR;rw [if_neg k1,if_neg k2,if_neg k3,if_neg b,if_pos b5]
       rfl
      ·simp only []
theorem uH {v:aa}(h:VV v){k:Nat}(hd:DV k v)(hk:k<=33)(hn:bW v<=100000):Ev2 (λ n _=>fQ n v) (·=l9 v):=by
 simp only [fQ];exact ax _ (AY _ v (Nat.lt_succ_self _) h k 0 hd (by decide) O hn) (ac rfl)
def lJ:List az->Bk->Bool|[],_=>false|a::r,q=>if a.By=q then a.C0 else lJ r q
def wT (l:List az):Prop:=l.Pairwise λ a b=>a.By≠b.By
theorem rZ:∀ {l:List az} {q:Bk},(∀ a∈l,a.By≠q)->lJ l q=false
 | [],_,_=>rfl
 | a::l,q,h=>by
  simp only [lJ];rw [if_neg (h a List.mem_cons_self)];exact rZ λ b hb=>h b (List.mem_cons_of_mem _ hb)
def o3 (l:List az)(q:Bk)(x:aa):aa:=if lJ l q=true/\x.AI≠0 then ye else x
theorem xk:∀ {l:List az},wT l->∀ (v:aa) (q:Bk),cG (jh v l) q=(cG v q).map (o3 l q)
 | [],_,v,q=>by
  show cG v q=_
  cases cG v q with
  | none=>rfl
  | some x=>simp [o3,lJ]
 | a::l,hd,v,q=>by
  have hd2:=List.pairwise_cons.1 hd;show cG (jh (ju v a) l) q=_;rw [xk hd2.2];by_cases e:a.By=q
  ·have hs:lJ l q=false:=rZ λ b hb=>λ z=>hd2.1 b hb (e.trans z.symm);have h1:∀ x,o3 l q x=x:=λ x=>by unfold o3; rw [hs]; simp
   have h2:∀ x,o3 (a::l) q x=if a.C0=true/\x.AI≠0 then ye else x:=λ x=>by unfold o3; simp only [lJ,if_pos e]
   rw [show o3 l q=id from funext h1,Option.map_id_fun,id];unfold ju;rw [e]
   cases hx:cG v q with
   | none=>simp [seen,hx]
   | some x=>
    simp only [Option.map_some,h2];by_cases hc:a.C0=true/\x.AI≠0
    ·rw [if_pos ⟨hc.1,by simpa [seen] using hc.2⟩,if_pos hc,oW _ hx]
    ·rw [if_neg (λ z=>hc ⟨z.1,by simpa [seen] using z.2⟩),if_neg hc,hx]
  ·have h1:cG (ju v a) q=cG v q:=by
    unfold ju;split
    ·exact rC _ (λ z=>e z.symm)
    ·rfl
   have h2:o3 (a::l) q=o3 l q:=funext λ x=>by unfold o3; simp only [lJ,if_neg e]
   rw [h1,h2]
structure nj (v w:aa):Prop where
 k:w.AI=v.AI
 n:w.BY=v.BY
 s:w.CK=v.CK
 ks:w.AT=v.AT
 l:w.Ar.length=v.Ar.length
theorem nj.trans {u v w:aa}(h:nj u v)(h':nj v w):nj u w:=⟨h'.k.trans h.k,h'.n.trans h.n,h'.s.trans h.s,h'.ks.trans h.ks,h'.l.trans h.l⟩
theorem uy (v w:aa)(q:Bk):nj v (od v q w):=⟨Z,Z,Z,Z,mH _ _ _ _⟩
theorem lR (v:aa):nj v v:=⟨Z,Z,Z,Z,Z⟩
theorem rQ:∀ (l:List az) (v:aa),nj v (jh v l)
 | [],v=>lR v
 | a::l,v=>by
  refine nj.trans ?_ (rQ l (ju v a));unfold ju;split
  ·exact uy _ _ _
  ·exact lR v
theorem qO:∀ (l:List aD) (v:aa),nj v (l.foldl eH v)
 | [],v=>lR v
 | n::l,v=>by
  refine nj.trans ?_ (qO l (eH v n));unfold eH;split
  ·split
   ·exact uy _ _ _
   ·exact lR v
  ·exact lR v
theorem zE {v:aa}(h:VV v)(h5:v.AI=5){i:Nat}(hi:i<v.Ar.length):cG v (lat v.AT (i:Int))=some (lat v.Ar (i:Int)):=by
 have hl:=h.1.node.len h5;have:=(uo v.AT v.Ar (uh h.1.node.inc) hl i O u3).1;unfold cG;rw [if_pos h5,cZ v.AT i O,this,cZ v.Ar i hi,List.getElem?_eq_getElem]
theorem y6 {v w:aa}(h:VV v)(hw:VV w)(h5:v.AI=5)(hs:nj v w){F:Bk->aa->aa}(hF:∀ q,cG w q=(cG v q).map (F q)){i:Nat}(hi:i<v.Ar.length):lat w.Ar (i:Int)=F (lat v.AT (i:Int)) (lat v.Ar (i:Int)):=by
 have e1:=zE h h5 hi;have e2:=zE hw (hs.k.trans h5) (i:=i) (by rw [hs.l]; exact hi);rw [hs.ks,hF,e1] at e2;exact (Option.some.inj e2).symm
theorem uw {l:List az}(hl:l.length<=64)(q:Bk):Ev2 (λ n _=>gq n l q) (λ r=>(if r.2=true then r.1.C0 else false)=lJ l q/\(r.2=false->∀ a∈l,a.By≠q)):=by
 simp only [gq];refine li (bp (f:=λ _ m=>cQ l q m 0) ?_);refine cr (λ _ m i (_:Unit)=>cQ l q m i) l.length (λ i _=>lJ l q=lJ (l.drop i) q/\∀ a∈l.take i,a.By≠q) (λ i s hi hI k=>?_) (λ s hI=>?_) () ⟨by simp,by simp⟩
 ·simp only [cQ];have hd:l.drop i=lat l (i:Int)::l.drop (i+1):=dX l hi;rw [hd] at hI;simp only [lJ] at hI;refine aV O (al O (ar (λ e=>al O (ac ⟨?_,λ z=>by cases z⟩)) (λ e=>al (aM O O) (k () ⟨?_,λ a ha=>?_⟩))))
  ·rw [hI.1,if_pos e]; rfl
  ·rw [hI.1,if_neg e]
  ·rw [di l hi] at ha;rcases sm.1 ha with ha|ha
   ·exact hI.2 a ha
   ·rw [List.mem_singleton.1 ha]; exact e
 ·simp only [cQ];refine aU O (ac (ac ⟨?_,λ _=>?_⟩))
  ·rw [hI.1,List.drop_length]; rfl
  ·rw [List.take_length] at hI; exact hI.2
theorem xh {v:aa}(h:VV v){l:List az}(hl:l.length<=64)(hd:wT l):Ev2 (λ n _=>hH n l v) (·=jI l v):=by
 have hil:=h.2.bItems;unfold a8 at hil;simp only [hH];unfold jI;refine ar (λ h5=>?_) (λ h5=>ac (by rw [if_neg h5]));rw [if_pos h5];have hw:=h.hid l;have hs:=rQ l v;have E4:∀ {i:Nat},i<v.Ar.length->lat (jh v l).Ar (i:Int)=o3 l (lat v.AT (i:Int)) (lat v.Ar (i:Int)):=λ {i} hi=>y6 h hw h5 hs (xk hd v) hi;have DD:=h.1.node.len h5;have hz:=h.1.node.z h5;generalize jh v l=w at hw hs E4;refine ax w.Ar (bp (f:=λ n m=>dJ n l v m 0 []) ?_) (ac ?_)
 ·refine cr (λ n m i (f:List aa)=>dJ n l v m i f) v.Ar.length (λ i f=>f=w.Ar.take i) (λ i f hi hf k=>?_) (λ f hf=>?_) [] Z
  ·subst hf;have hiw:i<w.Ar.length:=by rw [hs.l]; exact hi
   have kk:=k (w.Ar.take i++[o3 l (lat v.AT (i:Int)) (lat v.Ar (i:Int))]) (by rw [di _ hiw,E4 hi]);simp only [dJ];refine aV O (al O (al O (aK _ (uw hl _) (λ r hr=>?_))));generalize hx:lat v.Ar (i:Int)=x at kk;generalize lat v.AT (i:Int)=q at kk hr;refine ax (five (o3 l q x)) (ax (decide (lJ l q=true/\x.AI≠0)) ?_ ?_) ?_
   ·rw [<- hr.1];refine ar (λ a=>ar (λ b=>ac ?_) (λ b=>ac ?_)) (λ a=>ac ?_)
    ·simp [a,b]
    ·simp [a,b]
    ·simp [a]
   ·unfold o3;refine ar (λ a=>ac ?_) (λ a=>ac ?_)
    ·rw [if_pos (of_decide_eq_true a)]; rfl
    ·rw [if_neg (λ z=>a (decide_eq_true z))]
   ·refine al (by rw [qr,ur]; omega) (al (aM O O) ?_);simp only [mkV];exact kk
  ·subst hf;simp only [dJ];exact aU O (ac (List.take_of_length_le (by rw [hs.l]; exact n7 _)))
 ·rw [<- hs.ks];have e1:(5:Int)=w.AI:=by rw [hs.k,h5]
  have e2:(0:Int)=w.BY:=by rw [hs.n,hz.1]
  have e3:([]:Bk)=w.CK:=by rw [hs.s,hz.2]
  rw [e1,e2,e3];exact aa.eta w
def ko:List aD->Bk->Option aD|[],_=>none|a::r,q=>if a.By=q then some a else ko r q
theorem rP:∀ {l:List aD} {q:Bk},(∀ a∈l,a.By≠q)->ko l q=none
 | [],_,_=>rfl
 | a::l,q,h=>by
  simp only [ko];rw [if_neg (h a List.mem_cons_self)];exact rP λ b hb=>h b (List.mem_cons_of_mem _ hb)
theorem pm:∀ {l:List aD} {q:Bk} {n:aD},ko l q=some n->n∈l
 | [],_,_,h=>by cases h
 | a::l,q,n,h=>by
  simp only [ko] at h;split at h
  ·cases h; exact List.mem_cons_self
  ·exact List.mem_cons_of_mem _ (pm h)
def kW (l:List aD)(q:Bk)(x:aa):aa:=match ko l q with|some n=>if x.AI=4 then o0 x (x.Ar.map (jI n.B')) else x|none=>x
theorem s8:∀ {l:List aD},(l.Pairwise λ a b=>a.By≠b.By)->∀ (v:aa) (q:Bk),cG (l.foldl eH v) q=(cG v q).map (kW l q)
 | [],_,v,q=>by
  show cG v q=_
  cases cG v q with
  | none=>rfl
  | some x=>simp [kW,ko]
 | a::l,hd,v,q=>by
  have hd2:=List.pairwise_cons.1 hd;show cG (l.foldl eH (eH v a)) q=_;rw [s8 hd2.2];by_cases e:a.By=q
  ·have hs:ko l q=none:=rP λ b hb=>λ z=>hd2.1 b hb (e.trans z.symm);have h1:∀ x,kW l q x=x:=λ x=>by unfold kW; rw [hs]
   have h2:∀ x,kW (a::l) q x=if x.AI=4 then o0 x (x.Ar.map (jI a.B')) else x:=λ x=>by unfold kW; simp only [ko,if_pos e]
   rw [show kW l q=id from funext h1,Option.map_id_fun,id];unfold eH;rw [e]
   cases hx:cG v q with
   | none=>simp [hx]
   | some x=>
    simp only [Option.map_some,h2];by_cases hc:x.AI=4
    ·rw [if_pos hc,if_pos hc,oW _ hx]
    ·rw [if_neg hc,if_neg hc,hx]
  ·have h1:cG (eH v a) q=cG v q:=by
    unfold eH;split
    ·split
     ·exact rC _ (λ z=>e z.symm)
     ·rfl
    ·rfl
   have h2:kW (a::l) q=kW l q:=funext λ x=>by unfold kW; simp only [ko,if_neg e]
   rw [h1,h2]
theorem wF {s:am}(hl:s.A'.length<=64)(q:Bk):Ev2 (λ n _=>jG n s q) (λ r=>(r.2=true->ko s.A' q=some r.1)/\(r.2=false->ko s.A' q=none)):=by
 simp only [jG];refine li (bp (f:=λ _ m=>dN s q m 0) ?_);refine cr (λ _ m i (_:Unit)=>dN s q m i) s.A'.length (λ i _=>ko s.A' q=ko (s.A'.drop i) q) (λ i u hi hI k=>?_) (λ u hI=>?_) () G
 ·simp only [dN];have hd:s.A'.drop i=lat s.A' (i:Int)::s.A'.drop (i+1):=dX _ hi;rw [hd] at hI;simp only [ko] at hI;refine aV O (al O (ar (λ e=>al O (ac ⟨λ _=>?_,λ z=>by cases z⟩)) (λ e=>al (aM O O) (k () ?_))))
  ·rw [hI,if_pos e]
  ·rw [hI,if_neg e]
 ·simp only [dN];refine aU O (ac (ac ⟨λ z=>(by cases z),λ _=>?_⟩));rw [hI,List.drop_length]; rfl
structure GoodS (s:am):Prop where
 few:m8 s
 a:wT s.B'
 n:s.A'.Pairwise λ a b=>a.By≠b.By
 na:∀ x∈s.A',wT x.B'
theorem rz {s:am}(hs:GoodS s){v:aa}(h:WV v):Ev2 (λ n _=>iL n s v) (·=eJ s v):=by
 have hn:=hs.few.n;have ha:=hs.few.a.1;simp only [iL];unfold eJ;refine ar (λ h5=>?_) (λ h5=>ac (by rw [if_neg h5]));rw [if_pos h5]
 have hvv:VV v:=by
  rcases h with h|h
  ·exact h
  ·exact absurd h5 h.1
 have r1:=xh hvv (l:=s.B') O hs.a;unfold jI at r1;rw [if_pos h5] at r1;refine ax _ r1 ?_;have hu:=hvv.hid s.B';have hu5:(jh v s.B').AI=5:=(rQ _ _).k.trans h5;generalize jh v s.B'=u at hu hu5;have hil:=hu.2.bItems;unfold a8 at hil;have DD:=hu.1.node.len hu5;have hz:=hu.1.node.z hu5;have hw:=hu.foldN s.A';have hsm:=qO s.A' u;have E4:∀ {i:Nat},i<u.Ar.length->lat (s.A'.foldl eH u).Ar (i:Int)=kW s.A' (lat u.AT (i:Int)) (lat u.Ar (i:Int)):=λ {i} hi=>y6 hu hw hu5 hsm (s8 hs.n u) hi;generalize s.A'.foldl eH u=w at hw hsm E4;refine ax w.Ar (bp (f:=λ n m=>eP n s u m 0 []) ?_) (ac ?_)
 ·refine cr (λ n m i (f:List aa)=>eP n s u m i f) u.Ar.length (λ i f=>f=w.Ar.take i) (λ i f hi hf k=>?_) (λ f hf=>?_) [] Z
  ·subst hf;have hiw:i<w.Ar.length:=by rw [hsm.l]; exact hi
   have kk:=k (w.Ar.take i++[kW s.A' (lat u.AT (i:Int)) (lat u.Ar (i:Int))]) (by rw [di _ hiw,E4 hi]);have hx:VV (lat u.Ar (i:Int)):=hu.item (Go.Ab.bK O);simp only [eP];refine aV O (al O (al O (aK _ (wF O _) (λ r hr=>?_))));refine ax (five (kW s.A' (lat u.AT (i:Int)) (lat u.Ar (i:Int)))) (ax (r.2&&decide ((lat u.Ar (i:Int)).AI=4)) (ar (λ a=>ac (by simp [a])) (λ a=>ac (by simp [a]))) ?_) ?_
   ·refine ar (λ a=>?_) (λ a=>ac ?_)
    ·rw [Bool.and_eq_true,decide_eq_true_eq] at a;have DZ:=hr.1 a.1;have hna:=(hs.few.m _ (pm DZ)).1.1;have hda:=hs.na _ (pm DZ);unfold kW;rw [DZ];simp only [if_pos a.2];have hxl:=hx.2.bItems;unfold a8 at hxl;have hx4:=hx.1.node.z4 a.2;have hxk:=hx.1.node.kys O;refine ax ((lat u.Ar (i:Int)).Ar.map (jI r.1.B')) (bp (f:=λ n m=>eN n u (i:Int) r m 0 []) ?_) (ac ?_)
     ·refine cr (λ n m j (f:List aa)=>eN n u (i:Int) r m j f) (lat u.Ar (i:Int)).Ar.length (λ j f=>f=((lat u.Ar (i:Int)).Ar.take j).map (jI r.1.B')) (λ j f hj hf k2=>?_) (λ f hf=>?_) [] Z
      ·subst hf;simp only [eN];refine aV O (al O (ax _ (xh (hx.item (Go.Ab.bK O)) O hda) (al (by rw [cl,qr,ur]; omega) (al (aM O O) (k2 _ ?_)))));rw [di _ hj,List.map_append]; rfl
      ·subst hf;simp only [eN];exact aU O (ac (by rw [List.take_length]))
     ·show ((4:Int),(0:Int),([]:Bk),(lat u.Ar (i:Int)).Ar.map (jI r.1.B'),([]:List Bk))=((lat u.Ar (i:Int)).AI,(lat u.Ar (i:Int)).BY,(lat u.Ar (i:Int)).CK,(lat u.Ar (i:Int)).Ar.map (jI r.1.B'),(lat u.Ar (i:Int)).AT);rw [a.2,hx4.1,hx4.2,hxk]
    ·unfold kW
     cases DZ:ko s.A' (lat u.AT (i:Int)) with
     | none=>rfl
     | some n=>
      have h2:r.2=true:=by
       cases e:r.2 with
       | true=>rfl
       | false=>rw [hr.2 e] at DZ; cases DZ
      have h4:¬ (lat u.Ar (i:Int)).AI=4:=λ z=>a (by rw [h2,decide_eq_true z]; rfl);simp only [if_neg h4]
   ·refine al (by rw [qr,ur]; omega) (al (aM O O) ?_);simp only [mkV];exact kk
  ·subst hf;simp only [eP];exact aU O (ac (List.take_of_length_le (by rw [hsm.l]; exact n7 _)))
 ·rw [<- hsm.ks];have e1:(5:Int)=w.AI:=by rw [hsm.k,hu5]
  have e2:(0:Int)=w.BY:=by rw [hsm.n,hz.1]
  have e3:([]:Bk)=w.CK:=by rw [hsm.s,hz.2]
  rw [e1,e2,e3];exact aa.eta w
def Bl (a b:Bk):Prop:=Op.bytesLess a b=true
theorem Bl.ne {a b:Bk}(h:Bl a b):a≠b:=λ e=>by unfold Bl at h; rw [e,pt] at h; cases h
theorem Bl.tr {a b c:Bk}(h:Bl a b)(h':Bl b c):Bl a c:=w7 h h'
theorem Aj {α:Type} [Inhabited α] (f:α->Bk):∀ l:List α,(∀ j:Nat,j+1<l.length->Bl (f (lat l (j:Int))) (f (lat l ((j+1:Nat):Int))))->(l.map f).Pairwise Bl
 | [],_=>.nil
 | [a],_=>List.pairwise_singleton _ _
 | a::b::r,h=>by
  have ih:=Aj f (b::r) (λ j hj=>h (j+1) (by simp only [bx] at hj ⊢; omega));refine List.pairwise_cons.2 ⟨λ z hz=>?_,ih⟩;have h0:Bl (f a) (f b):=h 0 (by simp only [bx]; omega);rcases wr.1 hz with rfl|hz
  ·exact h0
  ·exact h0.tr ((List.pairwise_cons.1 ih).1 z hz)
theorem zK:∀ {a b:List Bk},a.Pairwise Bl->b.Pairwise Bl->(∀ x,x∈a↔x∈b)->a=b
 | [],[],_,_,_=>rfl
 | [],y::q,_,_,h=>absurd ((h y).2 List.mem_cons_self) G
 | x::r,[],_,_,h=>absurd ((h x).1 List.mem_cons_self) G
 | x::r,y::q,ha,hb,h=>by
  have ha2:=List.pairwise_cons.1 ha;have hb2:=List.pairwise_cons.1 hb
  have e:x=y:=by
   rcases wr.1 ((h x).1 List.mem_cons_self) with e|e
   ·exact e
   ·rcases wr.1 ((h y).2 List.mem_cons_self) with e2|e2
    ·exact e2.symm
    ·exact absurd Z ((hb2.1 x e).tr (ha2.1 y e2)).ne
  subst e;congr 1;refine zK ha2.2 hb2.2 (λ z=>⟨λ hz=>?_,λ hz=>?_⟩)
  ·rcases wr.1 ((h z).1 (List.mem_cons_of_mem _ hz)) with e|e
   ·exact absurd e.symm (ha2.1 z hz).ne
   ·exact e
  ·rcases wr.1 ((h z).2 (List.mem_cons_of_mem _ hz)) with e|e
   ·exact absurd e.symm (hb2.1 z hz).ne
   ·exact e
theorem Bu {l:List Bk}(h:l.Pairwise Bl){i j:Nat}(hij:i<j)(hj:j<l.length):Bl (lat l (i:Int)) (lat l (j:Int)):=by
 have:=List.pairwise_iff_getElem.1 h i j O hj hij;rw [cZ _ _ (show i<l.length by omega),cZ _ _ hj]; exact this
theorem Au {l:List Bk}(hl:l.length<=1000000000000000)(h:l.Pairwise Bl){x:Bk}(hx:x ∉ l):Ev2 (λ n _=>aT n l x) (λ r=>∃ t:Nat,r.1=t/\t<=l.length/\(∀ k:Nat,k<t->Bl (lat l (k:Int)) x)/\∀ k:Nat,t<=k->k<l.length->Bl x (lat l (k:Int))):=by
 simp only [aT]
 have loop:∀ (k i j:Nat),j-i<=k->i<=j->j<=l.length->(∀ k:Nat,k<i->Bl (lat l (k:Int)) x)->(∀ k:Nat,j<=k->k<l.length->Bl x (lat l (k:Int)))->Ev2 (λ _ m=>ay l x m (i:Int) (j:Int)) (λ r=>∃ t:Nat,r=t/\t<=l.length/\(∀ k:Nat,k<t->Bl (lat l (k:Int)) x)/\∀ k:Nat,t<=k->k<l.length->Bl x (lat l (k:Int))):=by
  intro k
  induction k with
  | zero=>
   intro i j hk h2 h3 a b;refine bD ?_;simp only [ay];exact aU O (ac ⟨i,rfl,by omega,a,λ k hk=>b k O⟩)
  | succ k ih=>
   intro i j hk h2 h3 a b;refine bD ?_;simp only [ay];rw [vT i j O];refine ar (λ hij=>?_) (λ hij=>ac ⟨i,rfl,by omega,a,λ k hk=>b k O⟩);by_cases hm:Op.bytesLess (lat l (((i+j) / 2:Nat):Int)) x=true
   ·refine ax ((((i+j) / 2+1:Nat):Int),(j:Int)) ?_ (ih _ j O O  h3 (λ k hk=>?_) b)
    ·refine al (aM O O) (al (by decide) (al (aM O O) (al O (ax _ (cu (nH _ _) Z) (aV hm (al (aM O O) (ac ?_)))))));rw [Int.natCast_add]; rfl
    ·rcases Nat.lt_or_ge k ((i+j) / 2) with h4|h4
     ·exact (Bu h h4 O).tr hm
     ·obtain rfl:k=(i+j) / 2:=by omega
      exact hm
   ·have DZ:¬ lat l (((i+j) / 2:Nat):Int)=x:=λ e=>hx (e ▸ Go.Ab.bK O)
    have hgt:Bl x (lat l (((i+j) / 2:Nat):Int)):=by
     rcases rJ (lat l (((i+j) / 2:Nat):Int)) x with z|z|z
     ·exact absurd z hm
     ·exact absurd z DZ
     ·exact z
    refine ax ((i:Int),(((i+j) / 2:Nat):Int)) ?_ (ih i _ O O O a (λ k hk EQ=>?_))
    ·exact al (aM O O) (al (by decide) (al (aM O O) (al O (ax _ (cu (nH _ _) Z) (aU hm (ac Z))))))
    ·rcases Nat.lt_or_ge ((i+j) / 2) k with h4|h4
     ·exact hgt.tr (Bu h h4 EQ)
     ·obtain rfl:k=(i+j) / 2:=by omega
      exact hgt
 refine aK _ (bp (f:=λ _ m=>ay l x m 0 (l.length:Int)) (loop l.length 0 l.length O O O (λ k hk=>by omega) (λ k hk EQ=>by omega))) (λ r hr=>?_);obtain ⟨t,rfl,h1,h2,h3⟩:=hr;have nn:∀ y:Bk,slices_isNaN_string y=some false:=λ y=>by unfold slices_isNaN_string; simp
 refine aK (λ _=>True) (ar (λ h=>al O (ar (λ h2=>ac trivial) (λ _=>al O (ax _ (cu (nn _) Z) (aU (by decide) (ac trivial)))))) (λ _=>ac trivial)) (λ b hb=>ac ⟨t,Z,h1,h2,h3⟩)
theorem AF {l:List Bk}(h:l.Pairwise Bl){t:Nat}{x:Bk}(ht:t<=l.length)(h1:∀ k:Nat,k<t->Bl (lat l (k:Int)) x)(h2:∀ k:Nat,t<=k->k<l.length->Bl x (lat l (k:Int))):(ip l t x).Pairwise Bl:=by
 unfold ip
 have hl:∀ y∈l.take t,Bl y x:=λ y hy=>by
  obtain ⟨j,hj,rfl⟩:=List.getElem_of_mem hy;rw [qr] at hj;rw [List.getElem_take,<- cZ l j O];exact h1 j O
 have hr:∀ y∈l.drop t,Bl x y:=λ y hy=>by
  obtain ⟨j,hj,rfl⟩:=List.getElem_of_mem hy;rw [List.length_drop] at hj;rw [List.getElem_drop,<- cZ l (t+j) O];exact h2 (t+j) O O
 refine List.pairwise_append.2 ⟨h.sublist (List.take_sublist _ _),List.pairwise_cons.2 ⟨hr,h.sublist (List.drop_sublist _ _)⟩,λ a ha b hb=>?_⟩;rcases wr.1 hb with rfl|hb
 ·exact hl a ha
 ·exact (hl a ha).tr (hr b hb)
theorem zM {α:Type}{l:List α}{i:Nat}{x y:α}:y∈ip l i x↔y∈l\/y=x:=by
 refine ⟨nq,λ h=>?_⟩;unfold ip;rcases h with h|h
 ·rw [<- List.take_append_drop i l] at h;rcases sm.1 h with h|h
  ·exact sm.2 (.inl h)
  ·exact sm.2 (.inr (List.mem_cons_of_mem _ h))
 ·exact sm.2 (.inr (h ▸ List.mem_cons_self))
structure v7 (s:am):Prop where
 a:(s.B'.map az.By).Pairwise Bl
 n:(s.A'.map aD.By).Pairwise Bl
 d:∀ y∈s.A',∀ x∈s.B',x.By≠y.By
 na:∀ y∈s.A',(y.B'.map az.By).Pairwise Bl
theorem v7.good {s:am}(h:v7 s)(hf:m8 s):GoodS s :=
 ⟨hf,(List.pairwise_map.1 h.a).imp Bl.ne,(List.pairwise_map.1 h.n).imp Bl.ne,λ x hx=>(List.pairwise_map.1 (h.na x hx)).imp Bl.ne⟩
def tV (s:am)(l:List Bk):Prop:=l.Pairwise Bl/\∀ x,x∈l↔x∈s.B'.map az.By\/x∈s.A'.map aD.By
theorem vz {s:am}(hs:m8 s)(hb:BdS s)(ho:v7 s):Ev2 (λ n _=>ff n s) (λ r=>tV s r.CL):=by
 have hn:=hs.n;have ha:=hs.a.1;simp only [ff];refine ax _ (nF O hb.a) ?_;refine aK (λ r=>tV s r.2) (bp (f:=λ n m=>cz n s m 0 (s.B'.map az.CO) (s.B'.map az.By)) ?_) (λ r hr=>ac hr);refine cr (λ n m i (t:List ak×List Bk)=>cz n s m i t.1 t.2) s.A'.length (λ i t=>t.1.length=t.2.length/\t.2.length=s.B'.length+i/\t.2.Pairwise Bl/\∀ x,x∈t.2↔x∈s.B'.map az.By\/x∈(s.A'.take i).map aD.By) (λ i t hi ht k=>?_) (λ t ht=>?_) (s.B'.map az.CO,s.B'.map az.By) ?_
 ·obtain ⟨h1,h2,h3,h4⟩:=ht;have hm:lat s.A' (i:Int)∈s.A':=Go.Ab.bK O;have FU:=(hs.m _ hm).1.1
  have hx:(lat s.A' (i:Int)).By ∉ t.2:=λ z=>by
   rcases (h4 _).1 z with z|z
   ·obtain ⟨a,ha,e⟩:=List.mem_map.1 z;exact ho.d _ hm a ha e
   ·obtain ⟨b,hb,e⟩:=List.mem_map.1 z;obtain ⟨j,hj,rfl⟩:=List.getElem_of_mem hb;rw [qr] at hj;have hp:=List.pairwise_iff_getElem.1 (List.pairwise_map.1 ho.n) j i O hi O;rw [List.getElem_take,cZ _ _ hi] at e;exact hp.ne e
  simp only [cz];refine aV O (al O (aK _ (Au O h3 hx) (λ r hr=>?_)));obtain ⟨j,hj,j1,j2,j3⟩:=hr;have hpw:=AF h3 j1 j2 j3;unfold cX;refine ax (ip t.2 j (lat s.A' (i:Int)).By) (al O (al rfl (al O (ac (by rw [hj]; rfl))))) ?_;refine ax _ (nF O (hb.n _ hm)) ?_;unfold ct;refine ax (ip t.1 j (ak.mk 4 [ak.mk 6 ((lat s.A' (i:Int)).B'.map az.CO) ((lat s.A' (i:Int)).B'.map az.By)] [])) (al O (al rfl (al O (ac (by rw [hj]; rfl))))) ?_;refine al (aM O O) (k (_,_) ⟨?_,?_,hpw,λ x=>?_⟩)
  ·show (ip t.1 j _).length=(ip t.2 j _).length;rw [iY (show j<=t.1.length by omega),iY j1,h1]
  ·show (ip t.2 j _).length=_;rw [iY j1]; omega
  ·show x∈ip t.2 j _↔_;rw [zM,h4,di _ hi,List.map_append,sm,or_assoc];simp only [mv,py,List.mem_singleton]
 ·obtain ⟨h1,h2,h3,h4⟩:=ht;simp only [cz];refine aU O (ac ⟨h3,λ x=>?_⟩);rw [List.take_length] at h4;exact h4 x
 ·exact ⟨by simp,by simp,ho.a,λ x=>by simp⟩
theorem u4 {s:am}(hs:m8 s)(ho:v7 s):Ev2 (λ n _=>fw n s) (λ r=>tV s r.CL):=by
 have hn:=hs.n;have ha:=hs.a.1;simp only [fw]
 let I:List ak×List Bk->Nat->Nat->Prop:=λ t i j=>t.1.length=i+j/\t.2.length=i+j/\t.2.Pairwise Bl/\(∀ x,x∈t.2↔x∈(s.B'.take i).map az.By\/x∈(s.A'.take j).map aD.By)/\(∀ y∈t.2,∀ k:Nat,i<=k->k<s.B'.length->Bl y (lat s.B' (k:Int)).By)/\∀ y∈t.2,∀ k:Nat,j<=k->k<s.A'.length->Bl y (lat s.A' (k:Int)).By
 have pa:∀ i k:Nat,i<k->k<s.B'.length->Bl (lat s.B' (i:Int)).By (lat s.B' (k:Int)).By:=λ i k h1 h2=>by
  have:=List.pairwise_iff_getElem.1 (List.pairwise_map.1 ho.a) i k O h2 h1;rw [cZ _ _ h2,cZ _ _ (show i<s.B'.length by omega)]; exact this
 have pn:∀ i k:Nat,i<k->k<s.A'.length->Bl (lat s.A' (i:Int)).By (lat s.A' (k:Int)).By:=λ i k h1 h2=>by
  have:=List.pairwise_iff_getElem.1 (List.pairwise_map.1 ho.n) i k O h2 h1;rw [cZ _ _ h2,cZ _ _ (show i<s.A'.length by omega)]; exact this
 refine aK (λ t=>I t s.B'.length s.A'.length) ?_ (λ t ht=>ac ⟨ht.2.2.1,λ x=>?_⟩)
 ·have loop:∀ (k i j:Nat) (t:List ak×List Bk),i<=s.B'.length->j<=s.A'.length->i+j+k=s.B'.length+s.A'.length->I t i j->Ev2 (λ n m=>bZ n s m (i:Int) (j:Int) t.1 t.2) (λ t=>I t s.B'.length s.A'.length):=by
   intro k
   induction k with
   | zero=>
    intro i j t hi hj hk hI;obtain rfl:i=s.B'.length:=by omega
    obtain rfl:j=s.A'.length:=by omega
    refine bD ?_;simp only [bZ];exact ax false (aU O (ac (decide_eq_false O))) (aU (by decide) (ac hI))
   | succ k ih=>
    intro i j t hi hj hk hI;obtain ⟨t1,t2⟩:=t;obtain ⟨i1,i2,i3,i4,i5,i6⟩:=hI;simp only at i1 i2 i3 i4 i5 i6;refine bD ?_;simp only [bZ];refine ax true (ar (λ _=>ac rfl) (λ _=>ac (decide_eq_true O))) (aV rfl ?_);refine ub ?_;refine aK (λ b=>(b=true->i<s.B'.length/\(j<s.A'.length->Bl (lat s.B' (i:Int)).By (lat s.A' (j:Int)).By))/\(b=false->j<s.A'.length/\(i<s.B'.length->Bl (lat s.A' (j:Int)).By (lat s.B' (i:Int)).By))) ?_ (λ b hb2=>ar (λ h=>?_) (λ h=>?_))
    ·refine ar (λ h=>ac ⟨λ _=>⟨by omega,λ z=>by omega⟩,λ q=>by cases q⟩) (λ h=>ar (λ h2=>al O (al O (ac ⟨λ z=>⟨by omega,λ _=>z⟩,λ z=>⟨by omega,λ z2=>?_⟩⟩))) (λ h2=>ac ⟨λ q=>(by cases q),λ _=>⟨by omega,λ z=>by omega⟩⟩));rcases rJ (lat s.B' (i:Int)).By (lat s.A' (j:Int)).By with q|q|q
     ·rw [q] at z; cases z
     ·exact absurd q (ho.d _ (Go.Ab.bK O) _ (Go.Ab.bK O))
     ·exact q
    ·obtain ⟨hi',hc⟩:=hb2.1 h;refine al O (al (by simp only [ur]; omega) (al O (al (by simp only [ur]; omega) (al (aM O O) (ac ?_)))));refine rb (P:=λ z=>Ev2 (λ n m=>bZ n s m z (j:Int) _ _) _) (ih (i+1) j (_,_) O hj O ⟨by simp only [bt,ur]; omega,by simp only [bt,ur]; omega,List.pairwise_append.2 ⟨i3,List.pairwise_singleton _ _,λ a ha b hb=>?_⟩,λ x=>?_,λ y hy k hk EQ=>?_,λ y hy k hk EQ=>?_⟩)
     ·rw [List.mem_singleton.1 hb]; exact i5 a ha i O hi'
     ·rw [di _ hi',List.map_append,sm,sm,i4];simp only [mv,py,List.mem_singleton];exact or_right_comm
     ·rcases sm.1 hy with hy|hy
      ·exact i5 y hy k O EQ
      ·rw [List.mem_singleton.1 hy]; exact pa i k O EQ
     ·rcases sm.1 hy with hy|hy
      ·exact i6 y hy k hk EQ
      ·rw [List.mem_singleton.1 hy];rcases Nat.lt_or_ge j k with z|z
       ·exact (hc O).tr (pn j k z EQ)
       ·obtain rfl:k=j:=by omega
        exact hc EQ
    ·obtain ⟨hj',hc⟩:=hb2.2 (by simpa using h);have hm:lat s.A' (j:Int)∈s.A':=Go.Ab.bK O;have FU:=(hs.m _ hm).1.1;refine al O (al (by simp only [ur]; omega) (al O (ax _ (qZ O) (al (by simp only [ur]; omega) (al (aM O O) (ac ?_))))));refine rb (P:=λ z=>Ev2 (λ n m=>bZ n s m (i:Int) z _ _) _) (ih i (j+1) (_,_) hi O O  ⟨by simp only [bt,ur]; omega,by simp only [bt,ur]; omega,List.pairwise_append.2 ⟨i3,List.pairwise_singleton _ _,λ a ha b hb=>?_⟩,λ x=>?_,λ y hy k hk EQ=>?_,λ y hy k hk EQ=>?_⟩)
     ·rw [List.mem_singleton.1 hb]; exact i6 a ha j O hj'
     ·rw [di _ hj',List.map_append,sm,sm,i4,or_assoc];simp only [mv,py,List.mem_singleton]
     ·rcases sm.1 hy with hy|hy
      ·exact i5 y hy k hk EQ
      ·rw [List.mem_singleton.1 hy];rcases Nat.lt_or_ge i k with z|z
       ·exact (hc O).tr (pa i k z EQ)
       ·obtain rfl:k=i:=by omega
        exact hc EQ
     ·rcases sm.1 hy with hy|hy
      ·exact i6 y hy k O EQ
      ·rw [List.mem_singleton.1 hy]; exact pn j k O EQ
  exact bp (f:=λ n m=>bZ n s m 0 0 [] []) (loop (s.B'.length+s.A'.length) 0 0 ([],[]) O O O ⟨rfl,rfl,.nil,λ x=>by simp,λ y hy=>by (cases hy),λ y hy=>by (cases hy)⟩)
 ·have:=ht.2.2.2.1 x;rw [List.take_length,List.take_length] at this;exact this
theorem y7 {a:az}(hb:ak.Bd a.CO)(x:Bk)(b:Bool):Ev2 (λ n _=>iH n a x b) (λ r=>r=0->b=false->Bl x a.By):=by
 simp only [iH];have z7:(7:Int)=0->b=false->Bl x a.By:=λ z=>absurd z (by decide);have z1:(1:Int)=0->b=false->Bl x a.By:=λ z=>absurd z (by decide);refine aK _ (o8 _) (λ _ _=>ar (λ _=>ac z7) (λ _=>aK (λ t=>t=false->b=false->Bl x a.By) (ar (λ _=>ac (λ q _=>?_)) (λ h=>ac (λ _ q=>absurd (by rw [q]; rfl) h))) (λ t ht=>ar (λ _=>ac z1) (λ h=>?_))))
 ·rw [Bool.or_eq_false_iff] at q;rcases rJ a.By x with z|z|z
  ·rw [z] at q; cases q.1
  ·exact absurd z (of_decide_eq_false q.2)
  ·exact z
 have ht:=ht (by simpa using h);refine aK _ (rK hb) (λ r _=>ar (λ _=>?_) (λ hr=>ac (λ z=>absurd z hr)));refine aK (λ _=>True) (ar (λ _=>ac trivial) (λ _=>ac trivial)) (λ _ _=>ar (λ _=>ac z1) (λ _=>aK (λ _=>True) (ar (λ _=>ar (λ _=>ac trivial) (λ _=>ac trivial)) (λ _=>ac trivial)) (λ _ _=>ar (λ _=>ac z1) (λ _=>ac (λ _=>ht)))))
theorem tb {l:List az}(hl:l.length<=64)(hb:∀ a∈l,ak.Bd a.CO)(c:Bool):Ev2 (λ n _=>gm n l c) (λ r=>r=0->(l.map az.By).Pairwise Bl):=by
 simp only [gm];refine li (bp (f:=λ n m=>cx n l c m [] 0) ?_);refine cr (λ n m i (s:Bk)=>cx n l c m s i) l.length (λ i s=>(0<i->s=(lat l ((i-1:Nat):Int)).By)/\∀ j:Nat,j+1<i->Bl (lat l (j:Int)).By (lat l ((j+1:Nat):Int)).By) (λ i s hi hI k=>?_) (λ s hI=>?_) [] ⟨λ z=>absurd z (by decide),λ j hj=>by omega⟩
 ·simp only [cx];refine aV O (al O (aK _ (y7 (hb _ (Go.Ab.bK O)) _ _) (λ r hr=>ar (λ h0=>?_) (λ h0=>ac (λ z=>absurd z h0)))));refine aK (λ _=>True) (ar (λ _=>al O (ar (λ _=>ac trivial) (λ _=>al O (ac trivial)))) (λ _=>ac trivial)) (λ _ _=>ar (λ _=>ac (λ z=>absurd z (by decide))) (λ _=>al O (al (aM O O) (k _ ⟨λ _=>rfl,λ j hj=>?_⟩))));rcases Nat.lt_or_ge (j+1) i with z|z
  ·exact hI.2 j z
  ·obtain rfl:i=j+1:=by omega
   have:=hr h0 (decide_eq_false O);rw [hI.1 O] at this;exact this
 ·simp only [cx];exact aU O (ac (ac (λ _=>Aj az.By l hI.2)))
theorem Al {s:am}(hs:m8 s)(hb:BdS s)(i:Nat)(hi:i<s.A'.length):Ev2 (λ n _=>iI n s (i:Int)) (λ r=>r=0->(0<i->Bl (lat s.A' ((i-1:Nat):Int)).By (lat s.A' (i:Int)).By)/\(∀ a∈s.B',a.By≠(lat s.A' (i:Int)).By)/\((lat s.A' (i:Int)).B'.map az.By).Pairwise Bl):=by
 have hn:=hs.n;have ha:=hs.a.1;have hm:lat s.A' (i:Int)∈s.A':=Go.Ab.bK O;simp only [iI];have no:∀ {k:Int} {Q:Prop},k≠0->(k=0->Q):=λ h z=>absurd z h;refine al O (aK _ (o8 _) (λ _ _=>ar (λ _=>ac (no (by decide))) (λ _=>aK (λ t=>t=false->0<i->Bl (lat s.A' ((i-1:Nat):Int)).By (lat s.A' (i:Int)).By) (ar (λ h=>al (aM O O) (al O (ac (λ q hi0=>?_)))) (λ h=>ac (λ _ q=>absurd q O))) (λ t ht=>ar (λ _=>ac (no (by decide))) (λ h=>?_)))))
 ·rw [show (i:Int)-1=((i-1:Nat):Int) by omega,Bool.or_eq_false_iff] at q;rcases rJ (lat s.A' (i:Int)).By (lat s.A' ((i-1:Nat):Int)).By with z|z|z
  ·rw [z] at q; cases q.1
  ·exact absurd z (of_decide_eq_false q.2)
  ·exact z
 have ht:=ht (by simpa using h);refine aK _ (uw O _) (λ r hr=>ar (λ _=>ac (no (by decide))) (λ h2=>?_));have h2:=hr.2 (by simpa using h2);refine aK (λ _=>True) (ar (λ _=>ac trivial) (λ _=>ar (λ _=>ac trivial) (λ _=>ac trivial))) (λ _ _=>ar (λ _=>ac (no (by decide))) (λ _=>ar (λ _=>ac (no (by decide))) (λ _=>?_)));exact aK _ (tb O (hb.n _ hm) _) (λ r hr=>ac (λ z=>⟨ht,h2,hr z⟩))
theorem xS {s:am}(hs:m8 s)(hb:BdS s):Ev2 (λ n _=>iV n s) (λ r=>r=0->v7 s):=by
 have hn:=hs.n;have ha:=hs.a.1;simp only [iV];have no:∀ {k:Int} {Q:Prop},k≠0->(k=0->Q):=λ h z=>absurd z h;refine aK (λ _=>True) (ar (λ _=>ac trivial) (λ _=>ac trivial)) (λ _ _=>ar (λ _=>ac (no (by decide))) (λ _=>aK _ (tb (l:=s.B') O hb.a _) (λ r4 h4=>ar (λ h0=>?_) (λ h0=>ac (no h0)))));have h4:=h4 h0;refine pg (I:=∀ j:Nat,j<s.A'.length->(0<j->Bl (lat s.A' ((j-1:Nat):Int)).By (lat s.A' (j:Int)).By)/\(∀ a∈s.B',a.By≠(lat s.A' (j:Int)).By)/\((lat s.A' (j:Int)).B'.map az.By).Pairwise Bl) (Q:=λ e=>e≠0) (bp (f:=λ n m=>eh n s m 0) ?_) (λ hI=>?_) (λ e he=>no he) (id:Nat->Nat)
 ·refine pJ (λ n m i=>eh n s m i) s.A'.length (λ i=>∀ j:Nat,j<i->(0<j->Bl (lat s.A' ((j-1:Nat):Int)).By (lat s.A' (j:Int)).By)/\(∀ a∈s.B',a.By≠(lat s.A' (j:Int)).By)/\((lat s.A' (j:Int)).B'.map az.By).Pairwise Bl) (λ e=>e≠0) (λ i hi hI P h1 h2=>?_) ?_ (λ j hj=>by omega)
  ·simp only [eh];refine aV O (aK _ (Al hs hb i hi) (λ r hr=>ar (λ h0=>al (aM O O) (h2 (λ j hj=>?_))) (λ h0=>ac (h1 _ h0))));rcases Nat.lt_or_ge j i with z|z
   ·exact hI j z
   ·obtain rfl:j=i:=by omega
    exact hr h0
  ·simp only [eh];exact aU O (ac rfl)
 ·have ok:v7 s:=by
   refine ⟨h4,Aj aD.By s.A' (λ j hj=>?_),λ y hy x hx=>?_,λ y hy=>?_⟩
   ·have:=(hI (j+1) hj).1 O;exact this
   ·obtain ⟨j,hj,rfl⟩:=List.getElem_of_mem hy;rw [<- cZ s.A' j hj]; exact (hI j hj).2.1 x hx
   ·obtain ⟨j,hj,rfl⟩:=List.getElem_of_mem hy;rw [<- cZ s.A' j hj]; exact (hI j hj).2.2
  refine aK _ (xl (l:=s.B') O _) (λ r _=>ar (λ _=>ac (no (by decide))) (λ _=>aK (λ _=>True) (ar (λ _=>ar (λ _=>ac trivial) (λ _=>ac trivial)) (λ _=>ac trivial)) (λ _ _=>ar (λ _=>ac (no (by decide))) (λ _=>?_))));exact aK _ (yA hs hb) (λ t ht=>aK _ (rK ht) (λ _ _=>ac (λ _=>ok)))
structure FM (v:aa):Prop where
 m:zu v
 d:∀ q,DV 31 (ofP v q)
theorem w5 {v:aa}(h:WV v)(hn:v.AI=5->bW v<=60)(hd:v.AI≠5\/DV 32 v)(s:am):FM (eJ s v):=by
 refine ⟨nG h hn s,λ q=>?_⟩;rcases hd with hd|hd
 ·have:cG (eJ s v) q=none:=lS (by unfold eJ; rw [if_neg hd]; exact hd) q;unfold ofP;rw [this];intro y hy; cases hy
 ·exact Cq (AA hd) q
theorem FM.fmt {m:aa}(h:FM m)(q:Bk):Ev2 (λ n _=>fQ n (ofP m q)) (·=l9 (ofP m q)) :=
 uH (k:=31) (h.m.1.of q) (h.d q) (by decide) (Nat.le_trans (h.m.2 q) (by decide))
theorem Ce (l:List Bk)(hl:l.length<=1000000)(q:Bk):Ev2 (λ n _=>lP n l q) (·=decide (q∈l)):=by
 simp only [lP];refine li (bp (f:=λ _ m=>fk l q m 0) ?_);refine cr (λ _ m i (_:Unit)=>fk l q m i) l.length (λ i _=>q ∉ l.take i) (λ i _ hi hI k=>?_) (λ _ hI=>?_) () G
 ·simp only [fk];refine aV O (al O (ar (λ h=>ac ?_) (λ h=>al (aM O O) (k () ?_))))
  ·have:q∈l:=h ▸ Go.Ab.bK O;simp [this]
  ·rw [di _ hi];intro hm;rcases sm.1 hm with hm|hm
   ·exact hI hm
   ·exact h (List.mem_singleton.1 hm).symm
 ·simp only [fk];refine aU O (ac (ac ?_));rw [List.take_length] at hI;simp [hI]
theorem uQ {s:am}{T:ak}(hT:Ev2 (λ n _=>fw n s) (·=T))(hn:T.CL.length<=1000){a b:aa}(ha:WV a)(hb:WV b):Ev2 (λ n _=>ix n s a b) (·=cW T.CL a b):=by
 simp only [ix,jb];refine ax T.CL (ax _ hT (ac rfl)) ?_;refine ax (cW T.CL a b) (bp (f:=λ n m=>dr n a b T.CL m [] 0) ?_) (ac rfl);refine cr (λ n m i (l:List Bk)=>dr n a b T.CL m l i) T.CL.length (λ i l=>l=cW (T.CL.take i) a b) (λ i l hi hl k=>?_) (λ l hl=>?_) [] rfl
 ·subst hl
  have DD:(cW (T.CL.take i) a b).length<=1000:=by
   have:=List.length_filter_le (λ q=>j6 (ofP a q) (ofP b q)) (T.CL.take i);rw [qr] at this;unfold cW; omega
  simp only [dr];refine aV O ?_;refine ax (cW (T.CL.take (i+1)) a b) ?_ (al (aM O O) (k _ rfl));refine al O (ax _ (rE ha _) (al O (ax _ (rE hb _) (ax _ (vQ (ha.of _).2 (hb.of _).2) ?_))));rw [di _ hi];unfold cW at DD ⊢;rw [List.filter_append];refine ar (λ h=>al O (al (by rw [ur]; omega) (ac ?_))) (λ h=>ac ?_)
  ·simp only [List.filter_cons,h,if_true,List.filter_nil]
  ·simp only [List.filter_cons,h,if_false,List.filter_nil,List.append_nil,Bool.false_eq_true]
 ·subst hl;simp only [dr];exact aU O (ac (by rw [List.take_length]))
theorem qB {s:am}(hs:GoodS s){T:ak}(hT:Ev2 (λ n _=>fw n s) (·=T))(hn:T.CL.length<=20)(hq:∀ x∈T.CL,x.length<=100){a b:aa}(ha:WV a)(hb:WV b)(hma:FM (eJ s a))(hmb:FM (eJ s b))(repl:List Bk)(hr:repl.length<=1000000) :
  Ev2 (λ n _=>fg n s a b repl) (·=(cW T.CL a b).map (ik repl (eJ s a) (eJ s b))):=by
 simp only [fg];refine ax _ (uQ hT O ha hb) (ax _ (rz hs ha) (ax _ (rz hs hb) ?_));have hcl:(cW T.CL a b).length<=20:=Nat.le_trans (List.length_filter_le _ _) hn;have hcq:∀ x∈cW T.CL a b,x.length<=100:=λ x hx=>hq x (List.mem_filter.1 hx).1;generalize cW T.CL a b=ch at hcl hcq;generalize eJ s a=p at hma;generalize eJ s b=r at hmb;refine ax (ch.map (ik repl p r)) (bp (f:=λ n k=>co n repl ch p r k [] 0) ?_) (ac rfl);refine cr (λ n k i (l:List Bk)=>co n repl ch p r k l i) ch.length (λ i l=>l=(ch.take i).map (ik repl p r)) (λ i l hi hl k=>?_) (λ l hl=>?_) [] rfl
 ·subst hl;have hq1:=hcq _ (Go.Ab.bK (l:=ch) (i:=(i:Int)) O);simp only [co]
  have e1:(ch.take (i+1)).map (ik repl p r)=(ch.take i).map (ik repl p r)++[ik repl p r (lat ch (i:Int))]:=by
   rw [di _ hi,List.map_append]; rfl
  have k1:=k _ e1.symm;have hl2:((ch.take i).map (ik repl p r)).length<=20:=by rw [cl,qr]; omega
  generalize (ch.take i).map (ik repl p r)=out at k1 hl2;generalize lat ch (i:Int)=q at hq1 k1;have f1:=fM (hma.m.1.of q);have f2:=fM (hmb.m.1.of q);have n1:=hma.m.2 q;have n2:=hmb.m.2 q;refine aV O (al O (al (by simp only [bx,d4]; omega) (al (by simp only [bt,bx,d4]; omega) (al O (ax _ (rE hma.m.1 q) (ax _ (hma.fmt q) ?_))))));refine al (by simp only [bt,bx,d4]; omega) (al (by simp only [bt,bx,d4]; omega) (al O (ax _ (rE hmb.m.1 q) (ax _ (hmb.fmt q) (al (by simp only [bt,bx,d4]; omega) ?_)))));refine ax (ik repl p r q) (al O (ax _ (Ce repl hr q) (ar (λ hh=>al (by simp only [bt,bx,d4]; omega) (ac ?_)) (λ hh=>ac ?_)))) (al (by simp only [ur]; omega) (al (aM O O) k1))
  ·unfold ik pO;rw [if_pos (of_decide_eq_true hh)]
  ·unfold ik pO;rw [if_neg (λ z=>hh (decide_eq_true z)),List.append_nil]
 ·subst hl;simp only [co];exact aU O (ac (by rw [List.take_length]))
theorem wD {T:ak}(hn:T.CL.length<=20)(hq:∀ x∈T.CL,x.length<=100){m:aa}(hm:FM m)(first:Bk):Ev2 (λ n k=>dm n T.CL m k [first] 0) (·=[first]++da T.CL m):=by
 refine cr (λ n k i (l:List Bk)=>dm n T.CL m k l i) T.CL.length (λ i l=>l=[first]++da (T.CL.take i) m) (λ i l hi hl k=>?_) (λ l hl=>?_) [first] Z
 ·subst hl
  have DD:(da (T.CL.take i) m).length<=20:=by
   have:=List.length_filter_le (λ q=>seen (cG m q)) (T.CL.take i);rw [qr] at this;unfold da; rw [cl]; omega
  have hq1:=hq _ (Go.Ab.bK (l:=T.CL) (i:=(i:Int)) O);simp only [dm]
  have e1:da (T.CL.take (i+1)) m=da (T.CL.take i) m++da [lat T.CL (i:Int)] m:=by
   rw [di _ hi]; unfold da; rw [List.filter_append,List.map_append]
  have k1:=k _ rfl;rw [e1,<- List.append_assoc] at k1;have hl2:([first]++da (T.CL.take i) m).length<=21:=by rw [bt,ur]; omega
  generalize [first]++da (T.CL.take i) m=out at k1 hl2;generalize lat T.CL (i:Int)=q at hq1 k1;have hfl:=fM (hm.m.1.of q);have hnn:=hm.m.2 q;refine aV O (ax (out++da [q] m) (al O (ax _ (rE hm.m.1 q) (ar (λ h0=>ac ?_) (λ h0=>?_)))) (al (aM O O) k1))
  ·have:seen (cG m q)=false:=by
    rw [<- Bool.not_eq_true,tv]; exact λ z=>z h0
   unfold da;simp only [List.filter_cons,this,if_false,List.filter_nil,py,List.append_nil,Bool.false_eq_true]
  ·have:seen (cG m q)=true:=tv.2 h0;refine al O (al (by simp only [bx,d4]; omega) (al (by simp only [bt,bx,d4]; omega) (ax _ (hm.fmt q) (al (by simp only [bt,bx,d4]; omega) (al (by simp only [ur]; omega) (ac ?_))))));unfold da pO;simp only [List.filter_cons,this,if_true,List.filter_nil,mv,py]
 ·subst hl;simp only [dm];exact aU O (ac (by rw [List.take_length]))
theorem zU {c:av}{sg:Bk}(h:eO c=some sg)(DZ:¬ sg=[]):c.CW=1\/c.CW=2\/c.CW=3\/c.CW=4\/c.CW=5:=by
 rcases Decidable.em (c.CW=1\/c.CW=2\/c.CW=3\/c.CW=4\/c.CW=5) with z|z
 ·exact z
 ·unfold eO at h;rw [if_neg O,if_neg O,if_neg O,if_neg O,if_neg O] at h;exact absurd (Option.some.inj h).symm DZ
theorem wE {c:av}{s:am}{sg pl rs:Bk}(hp:yU c sg pl rs)(hs:GoodS s){T:ak}(hT:Ev2 (λ n _=>fw n s) (·=T))(hn:T.CL.length<=20)(hq:∀ x∈T.CL,x.length<=100){rd:List Bk}(ld:rd.length<=1000)(hf:WV c.CR)(hm:FM (eJ s c.CR))
  (hdd:Ev2 (λ n _=>fg n s c.CS c.CR c.CX) (·=rd)):Ev2 (λ n _=>jk n c s) (·=chT c sg pl rs (da T.CL (eJ s c.CR)) rd):=by
 obtain ⟨hsg,Dy,hpl,hpll,hrs,hrl⟩:=hp;have hact:=zU hsg;have e1:kM c=some sg:=hsg;have e2:nK c.CZ c.C1=some pl:=hpl;have e3:kt c.C'=some rs:=hrs;simp only [jk];unfold chT;refine ax sg (cu e1 rfl) (ar (λ h=>ac (by rw [if_pos h])) (λ h=>?_));have hact:=hact h;simp only [if_neg h];refine ax sg (cu e1 rfl) (al (by simp only [bx,d4]; omega) (ax pl (cu e2 rfl) ?_));refine al (by simp only [bt,bx,d4]; omega) (al (by simp only [bt,bx,d4]; omega) (ax rs (cu e3 rfl) (al (by simp only [bt,bx,d4]; omega) ?_)));refine ax (m7 c sg pl rs) (ar (λ h2=>al (by simp only [bt,bx,d4]; omega) (ac ?_)) (λ h2=>ac ?_)) ?_
 ·unfold m7;rw [if_pos h2]
 ·unfold m7;rw [if_neg h2]
 generalize m7 c sg pl rs=hd0;refine ax (decide (c.CW=2\/c.CW=3)) (ar (λ a=>ac (by simp [a])) (λ a=>ac (by simp [a]))) (ar (λ a=>?_) (λ a=>?_))
 ·have a:=of_decide_eq_true a;rw [if_neg O,if_pos a];exact ax _ hdd (al (by rw [ur]; omega) (ac Z))
 ·have a:¬ (c.CW=2\/c.CW=3):=λ z=>a (decide_eq_true z);refine ar (λ b=>ac ?_) (λ b=>?_)
  ·rw [if_neg O,if_neg a]
  ·rw [if_pos O];simp only [jb];refine ax T.CL (ax _ hT (ac rfl)) (ax _ (rz hs hf) (ax _ (bp (f:=λ n k=>dm n T.CL (eJ s c.CR) k [hd0] 0) (wD hn hq hm hd0)) (ac rfl)))
theorem uV (aw:Ev2 (λ n _=>g9 n) (·=true)){c:av}{s:am}(hc:av.Bd c)(hs:am.Bd s):Ev2 (λ n _=>fO n c s) (·=true):=by
 have hbs:BdS s:=⟨λ a ha=>(hs.eAttrs a ha).bType,λ k hk a ha=>((hs.eNested k hk).eAttrs a ha).bType⟩
 have hnl:=hs.bNested;unfold a8 at hnl;simp only [fO]
 have hQ:∀ v,aa.Bd v->Ev2 (λ n _=>et n v) (λ r=>r=0->GV v/\DV 32 v):=λ v hv=>by
  obtain ⟨r,h1,h2,h3⟩:=w3 (yp hv) (xE hv);exact ib h3 (λ x hx z=>by subst hx; exact ⟨h1 z,h2 z⟩)
 refine aK (λ t=>t=false->(OkC c/\DV 32 c.CS/\(c.CR.AI≠5\/DV 32 c.CR))/\m8 s/\v7 s) ?_ (λ t ht=>?_)
 ·refine aK _ (ve (Q:=DV 32) hc hQ) (λ r1 h1=>ar (λ _=>ac (λ z=>by cases z)) (λ z1=>?_));exact aK _ (vv O hbs (λ hf=>xS hf hbs)) (λ r2 h2=>ac (λ z=>⟨h1 (nf z1),h2 (by simpa using z)⟩))
 refine ar (λ _=>ax _ aw (ac rfl)) (λ h=>?_);obtain ⟨⟨oc,db,df⟩,fs,os⟩:=ht (by simpa using h);refine aK (·=true) ?_ (λ r hr=>ac hr);obtain ⟨T,⟨hT1,hT2⟩,hN,hT⟩:=w3 (Ay fs hbs) (vz fs hbs os);obtain ⟨U,hM,hU⟩:=B6 (u4 fs os);have e:U.CL=T.CL:=zK hM.1 hN.1 (λ x=>(hM.2 x).trans (hN.2 x).symm);obtain ⟨sg,pl,rs,hp⟩:=yB oc.a oc.d
 have lv:∀ m,(da T.CL m).length<=1000:=λ m=>by
  have:=List.length_filter_le (λ q=>seen (cG m q)) T.CL;unfold da; rw [cl]; omega
 have ld:∀ (p q:aa) (F:Bk->Bk),((cW T.CL p q).map F).length<=1000:=λ p q F=>by
  have:=List.length_filter_le (λ z=>j6 (ofP p z) (ofP q z)) T.CL;rw [cl]; unfold cW; omega
 have g1:=xX hp (d:=c) Z Z Z Z Z Z (lv _) (ld _ _ _) (yn fs hT hT1 hT2 oc.f oc.fn) (sa fs hT hT1 hT2 oc.b oc.bn oc.f oc.fn c.CX (by have:=oc.r; omega));have ma:=w5 oc.b oc.bn (.inr db) s;have mb:=w5 oc.f oc.fn df s;have g2:=wE hp (os.good fs) hU (by rw [e]; exact hT1) (by rw [e]; exact hT2) (by rw [e]; exact ld _ _ _) oc.f mb (qB (os.good fs) hU (by rw [e]; exact hT1) (by rw [e]; exact hT2) oc.b oc.f ma mb c.CX (by have:=oc.r; omega));rw [e] at g2;exact ax _ g1 (ax _ g2 (ax _ (Af _ (Nat.le_trans (AX (lv _) (ld _ _ _)) (by decide))) (aV Z (ax _ aw (ac Z)))))
end Go.Ab.R06
end
section
namespace Go.Ab.R06
open Go.Ab
theorem vt (m:Nat):g9 (m+60)=some true:=by kernel_rfl
theorem wu:Ev2 (λ n _=>g9 n) (·=true):=⟨true,Z,60,λ n _ hn _=>by
  obtain ⟨m,rfl⟩:∃ m,n=m+60:=⟨n-60,by omega⟩
  exact vt m⟩
end Go.Ab.R06
end
