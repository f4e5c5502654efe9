/- Texts of the proof, one behind the other. No statement is proved here. -/
import Derived.Test.YtmdefcidhgbikaaDoorCards
import Derived.Test.YtmdefcidhgbikaaDoorTie
import Derived.WalkKit
import Derived.SizedLaws
import Derived.ProofKit
import Derived.OpenShut
import Derived.ShutString
import Derived.LaidMore
import Derived.Stop.Joined
import Derived.Deep.DeepHandedRow
import Derived.Deep.DeepWitnessRowRef
import Derived.Test.YtmdefcidhgbikaaDoorZ16Oa
import Derived.Test.YtmdefcidhgbikaaDoorZ16Ob
import Derived.Test.YtmdefcidhgbikaaDoorZ16Oc
import Derived.Test.YtmdefcidhgbikaaDoorZ16Od
set_option maxHeartbeats 4000000
section
namespace Go.Ab.R06.U
open Go.Ab.R06
open Go.Ab Go.Ab.RB Go.Lib
theorem escD_same:∀ s:Bytes,Go.Ab.R06.escD s=escD s
 | []=>rfl
 | b::r=>by rw [Go.Ab.R06.escD,escD,escD_same r]
theorem quo_same (s:Bytes):Go.Ab.R06.quo s=quo s:=by unfold Go.Ab.R06.quo quo; rw [escD_same]
theorem lit_same (v:ab):nR v=litX v:=by
 unfold nR litX; rw [quo_same]; rfl
theorem sgn_same {o:Int}(h0:0≤o)(h1:o < 16):sgn o=opX o:=by
 unfold sgn cY opX
 rw [if_neg (by omega)]
 simp only [Option.bind_some]
 rw [if_neg (by rw [decide_eq_true_eq]; omega),bL ⟨h0,h1⟩]
 rfl
theorem lvl_same {e:aa}(h:e.fKind=7→3≤e.fOp):lvl e=(lvX e:Int):=by
 unfold lvl cI lvX
 by_cases h8:e.fKind=8
 ·rw [if_pos h8,if_pos h8]; rfl
 by_cases h6:e.fKind=6
 ·rw [if_neg h8,if_neg h8,if_pos h6,if_pos h6]; rfl
 by_cases h7:e.fKind=7
 ·rw [if_neg h8,if_neg h8,if_neg h6,if_neg h6,if_pos h7,if_neg (show ¬ (e.fKind≠7) from λ k=>k h7)]
  have:=h h7
  clear h h8 h6 h7
  repeat' split
  all_goals first | rfl | (exfalso; omega)
 ·rw [if_neg h8,if_neg h8,if_neg h6,if_neg h6,if_neg h7,if_pos h7]; rfl
theorem shp_op {e:aa}(h:Shp e):(e.fKind=7→3≤e.fOp∧e.fOp≤15)∧(e.fKind=6→e.fOp=1∨e.fOp=2):=by
 cases h with
 | un o x a h=>exact ⟨λ k=>(by cases k),λ _=>h⟩
 | bin o x y a h=>exact ⟨λ _=>h,λ k=>(by cases k)⟩
 | loop m s y x c dl fl a hi hr hy hd hf=>cases m <;> exact ⟨λ k=>(by cases k),λ k=>(by cases k)⟩
 | _=>exact ⟨λ k=>(by cases k),λ k=>(by cases k)⟩
theorem at_same {x:aa}(h:Shp x)(t:Bytes)(n:Nat):atT x t (n:Int)=prt false n x t:=by
 unfold atT prt
 rw [lvl_same λ k=>((shp_op h).1 k).1]
 by_cases q:lvX x < n
 ·rw [if_pos (by omega),if_pos (.inr q)]; rfl
 ·rw [if_neg (by omega),if_neg (by simp [q])]
theorem prt0 (x:aa)(t:Bytes):prt false 0 x t=t:=by
 unfold prt; rw [if_neg (by simp)]
theorem part_same (s:Bytes)(b:Bool):kT s b=partF s b:=by
 have h:s.getD (s.length - 1) 0=36↔s.getLast? = some 36:=by
  rcases List.eq_nil_or_concat s with rfl | ⟨w,z,rfl⟩
  ·decide
  ·simp
 unfold kT partF
 simp only [h,quo_same,List.dropLast_eq_take]
theorem isPl_same (x:aa):jc x=isPlF x:=rfl
theorem tm_same (big:Bool)(f:aa→Bytes):∀ (l:List aa) (b:Bool),fU big l (l.map f) b=tmF big (l.zip (l.map f)) b
 | [],_=>rfl
 | x::r,b=>by
  rw [List.map_cons,List.zip_cons_cons,fU,tmF,tm_same big f r,tm_same big f r,isPl_same,part_same]
  have:(r.zip (r.map f)).isEmpty=r.isEmpty:=by cases r <;> rfl
  rw [this]
  simp only [List.cons_append,List.nil_append,List.append_assoc]
theorem join_cons (t u:Bytes)(r:List Bytes):join (t::u::r) [44,32]=t++44::32::join (u::r) [44,32]:=by
 simp [join,List.intercalate]
theorem join_one (t:Bytes):join [t] [44,32]=t:=by simp [join,List.intercalate]
theorem it_same:∀ ts:List Bytes,join ts [44,32]=itF ts
 | []=>rfl
 | [t]=>by rw [join_one]; rfl
 | t::u::r=>by rw [join_cons,itF,it_same (u::r)]
theorem res_same (s:Bytes):Go.Ab.R06.resB s=resB s:=by unfold Go.Ab.R06.resB; rw [rres_ev]; rfl
theorem key_same (x:aa)(t:Bytes):gU x t=keyF x t:=by
 unfold gU keyF
 rw [res_same]; rfl
theorem en_same (f:aa→Bytes):∀ l:List aa,l.length % 2=0→join (gi l (l.map f)) [44,32]=enF l (l.map f)
 | [],_=>rfl
 | [_],h=>by simp at h
 | [k,x],_=>by
  simp only [List.map_cons,List.map_nil,gi,enF,join_one,key_same,List.append_assoc,List.cons_append,List.nil_append]
 | [_,_,_],h=>by simp at h
 | k::x::k2::x2::r,h=>by
  have ih:=en_same f (k2::x2::r) (by simp only [List.length_cons] at h ⊢; omega)
  simp only [List.map_cons,gi,enF] at ih ⊢
  rw [join_cons,ih,key_same]
  simp only [List.append_assoc,List.cons_append,List.nil_append]
theorem loop_same {e:aa}(f:aa→Bytes)(m:Bool)(hm:(e.fKind=13)=(m=true)):iN e (e.fKids.map f)++[if m then 125 else 93]=lpX false m e.fName e.fKey e.fKids (e.fKids.map f):=by
 unfold iN lpX pX
 simp only [prt0,List.length_map,hm]
 cases m <;> simp
theorem comb_same {e:aa}(hs:Shp e)(hk:∀ x∈e.fKids,Shp x)(f:aa→Bytes):ey e (e.fKids.map f)=cmbF e (e.fKids.map f):=by
 have ho:=shp_op hs
 cases hs with
 | lit v a h=>exact lit_same v
 | tmpl l a h =>
  show [34]++fU _ l (l.map f) false++[34]=34::(tmF _ (l.zip (l.map f)) false++[34])
  rw [tm_same]; rfl
 | name s a hi hr=>rfl
 | attr s x a hi =>
  show atT x (f x) ((8:Nat):Int)++[46]++s=prt false 8 x (f x)++46::s
  rw [at_same (hk x (by simp [aa.fKids]))]; simp
 | idx x y a =>
  show atT x (f x) ((8:Nat):Int)++[91]++f y++[93]=prt false 8 x (f x)++91::(prt false 0 y (f y)++[93])
  rw [at_same (hk x (by simp [aa.fKids])),prt0]; simp
 | un o x a h =>
  show sgn o++atT x (f x) ((7:Nat):Int)=opX o++prt false 7 x (f x)
  rw [at_same (hk x (by simp [aa.fKids])),sgn_same (by omega) (by omega)]
 | bin o x y a h =>
  have hl:lvl (aa.mk 7 o [] [] v0 [x,y] a)=(lvX (aa.mk 7 o [] [] v0 [x,y] a):Int):=lvl_same λ _=>h.1
  show atT x (f x) (lvl (aa.mk 7 o [] [] v0 [x,y] a))++[32]++sgn o++[32]++atT y (f y) (lvl (aa.mk 7 o [] [] v0 [x,y] a)+1)=prt false (lvX (aa.mk 7 o [] [] v0 [x,y] a)) x (f x)++32::(opX o++32::prt false (lvX (aa.mk 7 o [] [] v0 [x,y] a)+1) y (f y))
  rw [hl]
  generalize lvX (aa.mk 7 o [] [] v0 [x,y] a)=n
  have e1:((n:Int)+1)=((n+1:Nat):Int):=by omega
  rw [e1,at_same (hk x (by simp [aa.fKids])),at_same (hk y (by simp [aa.fKids])),sgn_same (by omega) (by omega)]; simp
 | cond x y z a =>
  show atT x (f x) ((1:Nat):Int)++[32,63,32]++f y++[32,58,32]++f z=prt false 1 x (f x)++32::63::32::(prt false 0 y (f y)++32::58::32::prt false 0 z (f z))
  rw [at_same (hk x (by simp [aa.fKids])),prt0,prt0]; simp
 | call s l a hi hr =>
  show s++[40]++join (l.map f) [44,32]++[41]=s++40::(itF (l.map f)++[41])
  rw [it_same]; simp
 | list l a =>
  show [91]++join (l.map f) [44,32]++[93]=91::(itF (l.map f)++[93])
  rw [it_same]; simp
 | map l a h =>
  show [123]++join (gi l (l.map f)) [44,32]++[125]=123::(enF l (l.map f)++[125])
  rw [en_same f l h]; simp
 | loop m s y x c dl fl a hi hr hy hd hf =>
  have h:=loop_same (e:=aa.mk (if m then 13 else 12) 0 s y v0 ([x,c]++dl++fl) a) f m (by cases m <;> simp [aa.fKind])
  cases m with
  | true =>
   exact congrArg (List.cons 123) h
  | false =>
   exact congrArg (List.cons 91) h
inductive SA:aa→Prop where
 | mk {e:aa} (s:Shp e) (k:∀ x∈e.fKids,SA x):SA e
theorem SA.s {e:aa}(h:SA e):Shp e:=by cases h; assumption
theorem SA.k {e:aa}(h:SA e):∀ x∈e.fKids,SA x:=by cases h; assumption
theorem ve_sa {lv:Nat}{e:aa}(h:VE lv e):SA e:=by
 induction h with
 | mk h s c b k ih=>exact .mk s ih
theorem txt_same {e:aa}(h:SA e):aJ e=txtF e:=by
 induction h with
 | mk s k ih =>
  rw [oa,txtF_eq,List.map_congr_left ih]
  exact comb_same s (λ x hx=>(k x hx).s) _
theorem nodes_same {e:aa}(h:SA e):Go.Ab.R06.nodesE e=nodesE e:=by
 induction h with
 | mk s k ih =>
  rename_i e
  rw [Go.Ab.R06.nodesE_eq,nodesE_eq]
  have:∀ l:List aa,(∀ x∈l,Go.Ab.R06.nodesE x=nodesE x)→Go.Ab.R06.nodesL l=nodesL l:=by
   intro l
   induction l with
   | nil=>intro _; rfl
   | cons x r ihl=>intro h; simp only [Go.Ab.R06.nodesL,nodesL]; rw [h x (by simp),ihl λ y hy=>h y (by simp [hy])]
  rw [this _ ih]
theorem nodes_any {e:aa}(h:aa.Bd e):Go.Ab.R06.nodesE e=nodesE e:=by
 induction h with
 | @mk x bKind bOp bName bKey bValue bKids eKids bAt ih =>
  rw [Go.Ab.R06.nodesE_eq,nodesE_eq]
  have:∀ l:List aa,(∀ x∈l,Go.Ab.R06.nodesE x=nodesE x)→Go.Ab.R06.nodesL l=nodesL l:=by
   intro l
   induction l with
   | nil=>intro _; rfl
   | cons x r ihl=>intro h; simp only [Go.Ab.R06.nodesL,nodesL]; rw [h x (by simp),ihl λ y hy=>h y (by simp [hy])]
  rw [this _ ih]
mutual
def movE (b:Int):aa→aa
 | .mk k o n y v l _=>.mk k o n y v (movL b l) b
def movL (b:Int):List aa→List aa
 | []=>[]
 | x::r=>movE b x::movL b r
end
theorem movL_eq (b:Int):∀ l,movL b l=l.map (movE b)
 | []=>by rw [movL]; rfl
 | x::r=>by rw [movL,movL_eq b r]; rfl
theorem movE_eq (b:Int)(e:aa):movE b e=aa.mk e.fKind e.fOp e.fName e.fKey e.fValue (e.fKids.map (movE b)) b:=by
 cases e; rw [movE,movL_eq]; rfl
theorem shp_mov {e:aa}(h:Shp e)(f:aa→aa)(b:Int):Shp (aa.mk e.fKind e.fOp e.fName e.fKey e.fValue (e.fKids.map f) b):=by
 cases h with
 | lit v a h=>exact .lit v b h
 | tmpl l a h=>exact .tmpl (l.map f) b (by simpa using h)
 | name s a hi hr=>exact .name s b hi hr
 | attr s x a hi=>exact .attr s (f x) b hi
 | idx x y a=>exact .idx (f x) (f y) b
 | un o x a h=>exact .un o (f x) b h
 | bin o x y a h=>exact .bin o (f x) (f y) b h
 | cond x y z a=>exact .cond (f x) (f y) (f z) b
 | call s l a hi hr=>exact .call s (l.map f) b hi hr
 | list l a=>exact .list (l.map f) b
 | map l a h=>exact .map (l.map f) b (by simpa using h)
 | loop m s y x c dl fl a hi hr hy hd hf =>
  have h:=Shp.loop m s y (f x) (f c) (dl.map f) (fl.map f) b hi hr hy
   (by rcases hd with ⟨h1,rfl⟩ | ⟨h1,d,rfl⟩;exact .inl ⟨h1,rfl⟩;exact .inr ⟨h1,_,rfl⟩)
   (by rcases hf with rfl | ⟨d,rfl⟩;exact .inl rfl;exact .inr ⟨_,rfl⟩)
  show Shp (aa.mk (if m then 13 else 12) 0 s y v0 (([x,c]++dl++fl).map f) b)
  rw [List.map_append,List.map_append]; exact h
theorem sa_mov (b:Int){e:aa}(h:SA e):SA (movE b e):=by
 induction h with
 | mk s k ih =>
  rw [movE_eq]
  refine .mk (shp_mov s _ b) λ x hx=>?_
  obtain ⟨y,hy,rfl⟩:=List.mem_map.1 (show x∈List.map (movE b) _ from hx)
  exact ih y hy
theorem eqv_mov (b:Int){lv:Nat}{e:aa}(h:VE lv e):EQV e (movE b e):=by
 induction h with
 | mk h s c l k ih =>
  rename_i e
  rw [movE_eq]
  refine .mk rfl rfl rfl rfl rfl trivial l (by simp [aa.fKids]) λ p hp=>?_
  replace hp:p∈e.fKids.zip (e.fKids.map (movE b)):=hp
  clear l c s h
  generalize e.fKids=q at hp k ih
  induction q with
  | nil=>simp at hp
  | cons x r ihr =>
   rw [List.map_cons,List.zip_cons_cons] at hp
   rcases List.mem_cons.1 hp with rfl | hp
   ·exact ih x (by simp)
   ·exact ihr hp (λ y hy=>k y (by simp [hy])) (λ y hy=>ih y (by simp [hy]))
theorem good_mov (b:Int){e:aa}(h:fY e):fY (movE b e):=by
 induction h with
 | @mk e h k ih =>
  rw [movE_eq]
  refine .mk ?_ λ x hx=>?_
  ·obtain ⟨h1,h2,h3⟩:=h
   refine ⟨?_,h2,h3⟩
   have e1:(aa.mk e.fKind e.fOp e.fName e.fKey e.fValue (e.fKids.map (movE b)) b).fKids.length=e.fKids.length:=List.length_map _
   have e2:bc (aa.mk e.fKind e.fOp e.fName e.fKey e.fValue (e.fKids.map (movE b)) b)=bc e:=by
    unfold bc
    rw [e1]; rfl
   rw [e2]; exact h1
  ·obtain ⟨y,hy,rfl⟩:=List.mem_map.1 (show x∈List.map (movE b) _ from hx)
   exact ih y hy
theorem bd_mov {b:Int}(hb:inR b){e:aa}(h:aa.Bd e):aa.Bd (movE b e):=by
 induction h with
 | @mk x bKind bOp bName bKey bValue bKids eKids bAt ih =>
  rw [movE_eq]
  refine .mk bKind bOp bName bKey bValue (by simpa [aa.fKids] using bKids) (λ y hy=>?_) hb
  obtain ⟨z,hz,rfl⟩:=List.mem_map.1 (show y∈List.map (movE b) _ from hy)
  exact ih z hz
theorem nodes_mov (b:Int){e:aa}(h:SA e):Go.Ab.R06.nodesE (movE b e)=Go.Ab.R06.nodesE e:=by
 induction h with
 | mk s k ih =>
  rename_i e
  rw [movE_eq,Go.Ab.R06.nodesE_eq,Go.Ab.R06.nodesE_eq e]
  have:∀ l:List aa,(∀ x∈l,Go.Ab.R06.nodesE (movE b x)=Go.Ab.R06.nodesE x)→Go.Ab.R06.nodesL (l.map (movE b))=Go.Ab.R06.nodesL l:=by
   intro l
   induction l with
   | nil=>intro _; rfl
   | cons x r ihl=>intro h; simp only [List.map_cons,Go.Ab.R06.nodesL]; rw [h x (by simp),ihl λ y hy=>h y (by simp [hy])]
  exact congrArg (1+·) (this _ ih)
end Go.Ab.R06.U
end
section
namespace Go.Ab.R06
open Go.Ab Go.Ab.RB Go.Lib
mutual
def eqE:aa→aa→Bool
 | .mk k o n y v l _,.mk k' o' n' y' v' l' _=>decide (k=k')&&decide (o=o')&&eqS n n'&&eqS y y'&&eqV v v'&&oZ l l'
def oZ:List aa→List aa→Bool
 | [],[]=>true
 | x::r,y::q=>eqE x y&&oZ r q
 | _,_=>false
end
theorem qn:∀ a b,oZ a b=bO eqE a b
 | [],[]=>by simp only [oZ,bO]
 | [],_::_=>by simp only [oZ,bO]
 | _::_,[]=>by simp only [oZ,bO]
 | x::r,y::q=>by simp only [oZ,bO]; rw [qn r q]
theorem po (a b:aa):eqE a b=(decide (a.fKind=b.fKind)&&decide (a.fOp=b.fOp)&&eqS a.fName b.fName&&eqS a.fKey b.fKey&&eqV a.fValue b.fValue&&bO eqE a.fKids b.fKids):=by
 cases a; cases b
 simp only [eqE,qn,aa.fKind,aa.fOp,aa.fName,aa.fKey,aa.fValue,aa.fKids]
 rfl
theorem tU (a b:List aa)(ha:a.length*160≤cW)(e:Nat→aa→aa→Option Bool)(he:∀ x∈a,∀ y,Ev2 (λ n _=>e n x y) (·=eqE x y)) :
  Ev2 (λ n _=>aw n a b (e n)) (·=bO eqE a b):=by
 unfold cW at ha
 simp only [aw]
 rw [kK]
 refine aB (λ h=>?_) (λ h=>ac (by simp; omega))
 have h:a.length=b.length:=by omega
 rw [decide_eq_true h,Bool.true_and]
 rw [← Bool.and_true (eG _ 0 a.length)]
 refine oY (f:=λ n m i=>ag a b (e n) m i) (kV a.length _ ?_ (λ i hi P h1 h2=>?_) a.length 0 (by omega)) (ac rfl)
 ·refine aW ?_
  simp only [ag]
  exact ai (by omega) (ac rfl)
 ·refine aW ?_
  simp only [ag]
  refine aT (by omega) (ap (by omega) (ap (by omega) (ao _ (he _ (dX (by omega)) _) ?_)))
  exact aB (λ h=>ac (h2 (nt h))) (λ h=>ap (bq (by omega) (by omega)) (h1 (nf h)))
theorem jL {a:aa}(hb:aa.Bd a):∀ b,Ev2 (λ n _=>aL n a b) (·=eqE a b):=by
 induction hb with
 | @mk x bKind bOp bName bKey bValue bKids eKids bAt ih =>
  intro b
  refine bM ?_
  simp only [aL]
  rw [po]
  refine bj (·=(decide (x.fKind=b.fKind)&&decide (x.fOp=b.fOp)&&eqS x.fName b.fName&&eqS x.fKey b.fKey&&eqV x.fValue b.fValue&&bO eqE x.fKids b.fKids)) ?_ (λ t ht=>ac ht)
  refine aB (λ h1=>?_) (λ h1=>ac (by simp [h1]))
  refine aB (λ h2=>?_) (λ h2=>ac (by simp [h2]))
  refine aB (λ h3=>?_) (λ h3=>ac (by simp [h3,eqS]))
  refine aB (λ h4=>?_) (λ h4=>ac (by simp [h4,eqS]))
  refine ao _ (pP bValue _) ?_
  simp only [h1,h2,h3,h4,eqS,decide_true,Bool.true_and]
  refine aB (λ h5=>?_) (λ h5=>ac (by simp [Bool.eq_false_iff.2 h5]))
  exact ao _ (tU _ _ bKids (λ n x0 x1=>aL n x0 x1) (λ x hx y=>ih x hx y)) (ac (by simp [h5]))
theorem uk (s:Bytes)(hs:s.length≤1000000):Ev2 (λ n _=>dy n s) (·=(aV s&&!resB s)):=by
 simp only [dy]
 have l:=tZ s hs s.length 0 (by omega)
 have hi:=fH s
 refine kY (dd (cS (f:=λ _ m=>bs s m 0) l) (λ r hr=>?_))
 subst hr
 cases ha:eG (mr s) 0 s.length with
 | false =>
  have:aV s=false:=by
   rw [Bool.eq_false_iff]; intro h; have:=(hi.1 h).2.2; rw [ha] at this; cases this
  simp [this]
 | true =>
  refine ao (decide (s=[])||resB s) ?_ ?_
  ·have hr:=vt s
   unfold bJ at hr
   by_cases h0:s=[]
   ·exact aT h0 (ac (by simp [h0]))
   ·refine ai h0 ?_
    rw [decide_eq_false h0,Bool.false_or]
    exact aP (by
     generalize hx:(if s=([110,117,108,108]:Bytes) then some true else _:Option Bool)=X at hr ⊢
     cases X with
     | none=>cases hr
     | some x=>simpa using hr) rfl
  ·refine aB (λ h=>ac ?_) (λ h=>ac ?_)
   ·symm
    rw [Bool.or_eq_true] at h
    rcases h with h | h
    ·have:s=[]:=of_decide_eq_true h
     subst this; rfl
    ·simp [h]
   ·simp only [Bool.or_eq_true,not_or,Bool.not_eq_true] at h
    have h0:s≠[]:=of_decide_eq_false h.1
    rw [h.2,Bool.not_false,Bool.and_true]
    refine eqB ?_
    rw [decide_eq_true_eq,hi]
    exact ⟨λ k=>⟨h0,by omega,ha⟩,λ k=>by have:=k.2.1; omega⟩
def ol (ts:List Bytes):Bytes:=ts.flatMap λ t=>[44,32]++t
theorem join_cons (t:Bytes):∀ r:List Bytes,join (t::r) [44,32]=t++ol r:=by
 intro r
 unfold join
 induction r generalizing t with
 | nil=>simp [List.intercalate,ol]
 | cons u q ih =>
  have:=ih u
  simp only [List.intercalate,List.intersperse,ol,List.flatMap_cons,List.flatten_cons,List.flatten] at this ⊢
  simp [this]
theorem rC (ts:List Bytes):(ol ts).length=(ts.map λ t=>t.length+2).sum:=by
 induction ts with
 | nil=>rfl
 | cons t r ih=>simp only [ol,List.flatMap_cons,List.length_append,List.map_cons,List.sum_cons] at ih ⊢; rw [ih]; simp only [List.length_cons,List.length_nil]; omega
theorem jA (ts:List Bytes):(join ts [44,32]).length≤(ts.map λ t=>t.length+2).sum:=by
 cases ts with
 | nil=>simp [join,List.intercalate]
 | cons t r=>rw [join_cons,List.length_append,rC,List.map_cons,List.sum_cons]; omega
theorem uh {l:List aa}(hl:l.length≤1000){f:Nat→aa→Option Bytes}{g:aa→Bytes}(hf:∀ x∈l,Ev2 (λ n _=>f n x) (·=g x)) :
  Ev2 (λ n _=>bn (f n) l n [] 0) (·=l.map g):=by
 have loop:∀ (k i:Nat) (o:List Bytes),i+k=l.length→o.length=i→Ev2 (λ n m=>bn (f n) l m o (i:Int)) (·=o++(l.drop i).map g):=by
  intro k
  induction k with
  | zero =>
   intro i o hi ho
   refine aW ?_
   simp only [bn]
   refine ai (by omega) (ac ?_)
   rw [List.drop_eq_nil_of_le (by omega)]; simp
  | succ k ih =>
   intro i o hi ho
   refine aW ?_
   simp only [bn]
   refine aT (by omega) (ap (by omega) (ao _ (hf _ (dX (by omega))) (ap (by simp only [List.length_cons,List.length_nil]; omega) (ap (bq (by omega) (by omega)) ?_))))
   refine dd (d4 (P:=λ j=>Ev2 (λ n m=>bn (f n) l m (o++[g (lat l (i:Int))]) j) _) (ih (i+1) _ (by omega) (by rw [List.length_append]; simp; omega))) (λ r hr=>?_)
   rw [hr,d8 l (i:=i) (by omega)]; simp
 refine cS (f:=λ n m=>bn (f n) l m [] 0) (dd (loop l.length 0 [] (by omega) rfl) (λ r hr=>?_))
 rw [hr]; simp
end Go.Ab.R06
namespace Go.Ab.R06
open Go.Ab Go.Ab.RB Go.Lib
theorem nodesE_pos (e:aa):1≤nodesE e:=by rw [nodesE_eq]; omega
theorem nU {s:Bytes}(h:s≠[]):hasSuffix s [36]=decide (s.getD (s.length - 1) 0=36):=by
 obtain ⟨t,b,rfl⟩:∃ t b,s=t++[b]:=⟨s.dropLast,s.getLast h,(List.dropLast_concat_getLast h).symm⟩
 have e:(t++[b]).getD ((t++[b]).length - 1) 0=b:=by simp
 rw [e]
 unfold hasSuffix
 refine eqB ?_
 rw [List.isSuffixOf_iff_suffix,decide_eq_true_eq]
 constructor
 ·rintro ⟨u,hu⟩
  have:=congrArg List.getLast? hu
  simpa using this.symm
 ·rintro rfl
  exact ⟨t,rfl⟩
theorem qY (s:Bytes)(last:Bool)(hs:s.length≤4096):(kT s last).length≤49200:=by
 have h1:=iF (s.take (s.length - 1))
 have h2:=iF s
 have h3:(s.take (s.length - 1)).length≤s.length:=by rw [List.length_take]; omega
 unfold kT
 split
 ·rw [List.length_append]; simp only [List.length_cons,List.length_nil]; omega
 ·omega
def gL (x:aa)(t:Bytes)(last T:Bool):Bytes:=if T=true then kT x.fValue.fStr last else [36,123]++t++[125]
theorem lA (big:Bool)(x:aa)(r:List aa)(t:Bytes)(q:List Bytes)(b:Bool) :
  fU big (x::r) (t::q) b=gL x t r.isEmpty (jc x&&!b&&big)++fU big r q (jc x&&!b&&big):=by
 simp only [fU,gL]
 cases hT:(jc x&&!b&&big) <;> simp
section
variable {l:List aa} {f:Nat→aa→Option Bytes} {g:aa→Bytes}
structure l7 (l:List aa)(f:Nat→aa→Option Bytes)(g:aa→Bytes):Prop where
 len:l.length≤1000
 nodes:nodesL l≤1000
 ev:∀ x∈l,Ev2 (λ n _=>f n x) (·=g x)
 str:∀ x∈l,jc x=true→x.fValue.fStr.length≤4096
 wt:∀ x∈l,(g x).length+1000≤60000*nodesE x
theorem uA {x:aa}(h:jc x=true):x.fValue.fStr≠[]:=by
 unfold jc at h
 simp only [Bool.and_eq_true,Bool.not_eq_true',decide_eq_false_iff_not] at h
 exact h.2
theorem ni (ok:l7 l f g){x:aa}(hx:x∈l)(last b big:Bool):(gL x (g x) last (jc x&&!b&&big)).length≤60000*nodesE x:=by
 have h1:=nodesE_pos x
 have h2:=ok.wt x hx
 unfold gL
 split
 ·rename_i h
  simp only [Bool.and_eq_true] at h
  have:=qY x.fValue.fStr last (ok.str x hx h.1.1)
  omega
 ·simp only [List.length_append,List.length_cons,List.length_nil]; omega
theorem mM (ok:l7 l f g)(big:Bool):∀ (k i:Nat) (b:Bool),i+k=l.length→(fU big (l.drop i) ((l.drop i).map g) b).length≤60000*nodesL (l.drop i):=by
 intro k
 induction k with
 | zero=>intro i b hi; rw [List.drop_eq_nil_of_le (by omega)]; simp [fU]
 | succ k ih =>
  intro i b hi
  have hx:lat l (i:Int)∈l:=dX (by omega)
  rw [d8 l (i:=i) (by omega),List.map_cons,lA,List.length_append]
  have h1:=ni ok hx (l.drop (i+1)).isEmpty b big
  have h2:=ih (i+1) (jc (lat l (i:Int))&&!b&&big) (by omega)
  simp only [nodesL]
  omega
theorem pf (l:List aa)(i:Nat):(l.drop (i+1)).isEmpty=decide (l.length≤i+1):=by
 refine eqB ?_
 rw [List.isEmpty_iff,decide_eq_true_eq,List.drop_eq_nil_iff]
theorem s6 (ok:l7 l f g):∀ (k i:Nat) (b:Bool) (o:Bytes),i+k=l.length→o.length+60000*nodesL (l.drop i)≤61000000 →
  Ev2 (λ n m=>aU n (f n) l m b (i:Int) o) (·=o++fU (decide (1 < l.length)) (l.drop i) ((l.drop i).map g) b):=by
 have hl:=ok.len
 intro k
 induction k with
 | zero =>
  intro i b o hi ho
  refine aW ?_
  simp only [aU]
  refine ai (by omega) (ac ?_)
  rw [List.drop_eq_nil_of_le (by omega)]; simp [fU]
 | succ k ih =>
  intro i b o hi ho
  have hx:lat l (i:Int)∈l:=dX (by omega)
  have hd:=d8 l (i:=i) (by omega)
  rw [hd] at ho ⊢
  simp only [nodesL] at ho
  rw [List.map_cons,lA,pf]
  have hp:=ni ok hx (decide (l.length≤i+1)) b (decide (1 < l.length))
  refine aW ?_
  simp only [aU]
  refine aT (by omega) ?_
  generalize hX:lat l (i:Int)=x at *
  generalize hT:(jc x&&!b&&decide (1 < l.length))=T at *
  refine bj (λ q:Bool×List UInt8=>q.1=T∧q.2=o++gL x (g x) (decide (l.length≤i+1)) T) ?_ (λ q hq=>?_)
  ·refine ap (by omega) (ao T ?_ ?_)
   ·refine ao _ (aP (u7 x) rfl) ?_
    refine aB (λ h1=>aB (λ h2=>ac ?_) (λ h2=>ac ?_)) (λ h1=>ac ?_)
    ·rw [← hT,h1,h2]; simp; omega
    ·rw [← hT,nf h2]; simp
    ·rw [← hT,Bool.eq_false_iff.2 h1]; simp
   ·cases T with
    | false =>
     refine aT rfl ?_
     have hg:=ok.wt x hx
     simp only [gL,Bool.false_eq_true,if_false] at hp ⊢
     refine ao _ (ok.ev x hx) (ap (by simp only [List.length_cons,List.length_nil]; simp only [List.length_append,List.length_cons,List.length_nil] at hp; omega) (ap (by simp only [List.length_append,List.length_cons,List.length_nil] at hp ⊢; omega) ?_))
     exact ao _ (aP (pt o _ (by simp only [List.length_append,List.length_cons,List.length_nil] at hp ⊢; omega)) rfl) (ac ⟨rfl,rfl⟩)
    | true =>
     simp only [Bool.and_eq_true] at hT
     have hpl:=hT.1.1
     have hne:=uA hpl
     have hs:=ok.str x hx hpl
     have hpos:0 < x.fValue.fStr.length:=List.length_pos_iff.2 hne
     refine ai (by simp) ?_
     simp only [gL,if_true] at hp ⊢
     refine ao (if decide (l.length≤i+1)=false∧x.fValue.fStr.getD (x.fValue.fStr.length - 1) 0=36 then (x.fValue.fStr.take (x.fValue.fStr.length - 1),[92,117,123,50,52,125]) else (x.fValue.fStr,[])) ?_ ?_
     ·refine ao (decide (decide (l.length≤i+1)=false∧x.fValue.fStr.getD (x.fValue.fStr.length - 1) 0=36)) ?_ ?_
      ·refine ap (bq (by omega) (by omega)) (aB (λ h1=>?_) (λ h1=>ac ?_))
       ·have:strings_HasSuffix x.fValue.fStr [36]=some (decide (x.fValue.fStr.getD (x.fValue.fStr.length - 1) 0=36)):=by
         unfold strings_HasSuffix
         rw [bL (by omega),nU hne]
        refine ao _ (aP this rfl) (ac ?_)
        have h2:¬ l.length≤i+1:=by omega
        simp [h2]
       ·have h2:l.length≤i+1:=by omega
        simp [h2]
      ·refine aB (λ h=>?_) (λ h=>ac ?_)
       ·rw [if_pos (of_decide_eq_true h)]
        refine ap (bq (by omega) (by omega)) (ap (by omega) (ac ?_))
        have e:((x.fValue.fStr.length:Int) - 1)=((x.fValue.fStr.length - 1:Nat):Int):=by omega
        rw [e,← Int.natCast_zero,qy]; rfl
       ·rw [if_neg (λ k=>h (decide_eq_true k))]
     ·have hq1:=iF (x.fValue.fStr.take (x.fValue.fStr.length - 1))
      have hq2:=iF x.fValue.fStr
      have hq3:(x.fValue.fStr.take (x.fValue.fStr.length - 1)).length≤x.fValue.fStr.length:=by rw [List.length_take]; omega
      unfold kT at hp ⊢
      split
      ·rename_i hc
       rw [if_pos hc] at hp
       refine ao _ (jG _ (by simp only; omega)) (ap (by simp only [List.length_cons,List.length_nil]; omega) ?_)
       exact ao _ (aP (pt o _ (by simp only; omega)) rfl) (ac ⟨rfl,rfl⟩)
      ·rename_i hc
       rw [if_neg hc] at hp
       refine ao _ (jG _ (by simp only; omega)) (ap (by simp only [List.length_nil]; omega) ?_)
       exact ao _ (aP (pt o _ (by simp only [List.append_nil]; omega)) rfl) (ac ⟨rfl,by simp⟩)
  ·obtain ⟨t,o'⟩:=q
   obtain ⟨hq1,hq2⟩:=hq
   have hq1:t=T:=hq1
   have hq2:o'=o++gL x (g x) (decide (l.length≤i+1)) T:=hq2
   subst hq1 hq2
   simp only
   refine ap (bq (by omega) (by omega)) ?_
   refine dd (d4 (P:=λ j=>Ev2 (λ n m=>aU n (f n) l m t j (o++gL x (g x) (decide (l.length≤i+1)) t)) _) (ih (i+1) t _ (by omega) (by rw [List.length_append]; omega))) (λ r hr=>?_)
   rw [hr,List.append_assoc]
end
end Go.Ab.R06
namespace Go.Ab.R06
open Go.Ab Go.Ab.RB Go.Lib
section
variable {l:List aa} {f:Nat→aa→Option Bytes} {g:aa→Bytes}
end
section
variable {l:List aa} {f h:Nat→aa→Option Bytes} {g:aa→Bytes}
theorem uc (hl:l.length≤1000)(hf:∀ x∈l,Ev2 (λ n _=>f n x) (·=g x))(hk:∀ x∈l,Ev2 (λ n _=>h n x) (·=gU x (g x)))(hg:∀ x∈l,(g x).length≤100000000∧(gU x (g x)).length≤100000000) :
  ∀ (k i:Nat) (o:List Bytes),i+k=l.length→o.length≤i→Ev2 (λ n m=>bp (f n) (h n) l m o (i:Int)) (·=o++gi (l.drop i) ((l.drop i).map g)):=by
 intro k
 induction k using Nat.strongRecOn with
 | ind k ih =>
  intro i o hi ho
  refine aW ?_
  simp only [bp]
  refine ap (bq (by omega) (by omega)) (aB (λ hlt=>?_) (λ hlt=>ac ?_))
  ·have hx:lat l (i:Int)∈l:=dX (by omega)
   have e1:(i:Int)+1=((i+1:Nat):Int):=by omega
   have e2:(i:Int)+2=((i+2:Nat):Int):=by omega
   have hy:lat l ((i+1:Nat):Int)∈l:=dX (by omega)
   have g1:=hg _ hx
   have g2:=hg _ hy
   rw [d8 l (i:=i) (by omega),d8 l (i:=i+1) (by omega)]
   simp only [List.map_cons,gi,e1,e2]
   refine ap (by omega) (ao _ (hk _ hx) (ap (by simp only [List.length_cons,List.length_nil]; omega) (ap (bq (by omega) (by omega)) (ap (by omega) (ao _ (hf _ hy) ?_)))))
   refine ap (by simp only [List.length_append,List.length_cons,List.length_nil]; omega) (ap (by simp only [List.length_cons,List.length_nil]; omega) (ap (bq (by omega) (by omega)) ?_))
   refine dd (ih (k - 2) (by omega) (i+2) _ (by omega) (by rw [List.length_append]; simp only [List.length_cons,List.length_nil]; omega)) (λ r hr=>?_)
   rw [hr]; simp
  ·by_cases h0:i < l.length
   ·rw [d8 l (i:=i) h0,List.drop_eq_nil_of_le (by omega)]; simp [gi]
   ·rw [List.drop_eq_nil_of_le (by omega)]; simp [gi]
end
end Go.Ab.R06
namespace Go.Ab.R06
open Go.Ab Go.Ab.RB Go.Lib
section
variable {l:List aa} {f h:Nat→aa→Option Bytes} {g:aa→Bytes}
end
theorem jK {x:aa}(hx:Ev2 (λ n _=>aj n x) (·=aJ x))(hl:(aJ x).length≤100000000)(k:Int):Ev2 (λ n _=>cZ n x k) (·=atT x (aJ x) k):=by
 refine bM ?_
 simp only [cZ,atT]
 refine ao _ (aP (sy x) rfl) (aB (λ h=>?_) (λ h=>?_))
 ·rw [if_pos h]
  exact ao _ hx (ap (by simp only [List.length_cons,List.length_nil]; omega) (ap (by simp only [List.length_append,List.length_cons,List.length_nil]; omega) (ac rfl)))
 ·rw [if_neg h]; exact ao _ hx (ac rfl)
theorem iL (x:aa)(t:Bytes)(k:Int):(atT x t k).length≤t.length+2:=by
 unfold atT
 split
 ·simp only [List.length_append,List.length_cons,List.length_nil]; omega
 ·omega
theorem uC {x:aa}(hx:Ev2 (λ n _=>aj n x) (·=aJ x))(hl:(aJ x).length≤100000000)(hs:x.fKind=1→x.fValue.fStr.length≤1000000):Ev2 (λ n _=>cV n x) (·=gU x (aJ x)):=by
 refine bM ?_
 simp only [cV,gU]
 refine ao (decide (x.fKind=1∧x.fValue.fKind=3)) (aB (λ h=>ac (by simp [h])) (λ h=>ac (by simp [h]))) ?_
 refine aB (λ h=>?_) (λ h=>?_)
 ·have h:=of_decide_eq_true h
  rw [if_pos h]
  refine ao _ (uk _ (hs h.1)) (aB (λ k=>?_) (λ k=>?_))
  ·simp only [Bool.and_eq_true,Bool.not_eq_true'] at k
   rw [if_pos k]; exact ac rfl
  ·simp only [Bool.and_eq_true,Bool.not_eq_true'] at k
   rw [if_neg k]; exact ao _ hx (ac rfl)
 ·rw [if_neg (λ k=>h (decide_eq_true k))]
  refine aB (λ k=>?_) (λ k=>?_)
  ·rw [if_pos k]; exact ao _ hx (ac rfl)
  ·rw [if_neg k]
   exact ao _ hx (ap (by simp only [List.length_cons,List.length_nil]; omega) (ap (by simp only [List.length_append,List.length_cons,List.length_nil]; omega) (ac rfl)))
end Go.Ab.R06
namespace Go.Ab.R06
open Go.Ab Go.Ab.RB Go.Lib
theorem len2 {α:Type}{l:List α}(h:l.length=2):∃ a b,l=[a,b]:=by
 match l,h with
 | [a,b],_=>exact ⟨a,b,rfl⟩
theorem len3 {α:Type}{l:List α}(h:l.length=3):∃ a b c,l=[a,b,c]:=by
 match l,h with
 | [a,b,c],_=>exact ⟨a,b,c,rfl⟩
theorem len4 {α:Type}{l:List α}(h:l.length=4):∃ a b c d,l=[a,b,c,d]:=by
 match l,h with
 | [a,b,c,d],_=>exact ⟨a,b,c,d,rfl⟩
def ei (e:aa):Prop:=(e.fKind=13∧(e.fKids.length=3∨e.fKids.length=4))∨(e.fKind≠13∧(e.fKids.length=2∨e.fKids.length=3))
theorem oG {e:aa}(hn:e.fName.length≤1000)(hk:e.fKey.length≤1000)(hx:∀ x∈e.fKids,Ev2 (λ n _=>aj n x) (·=aJ x))(hl:∀ x∈e.fKids,(aJ x).length≤100000000)(hc:ei e) :
  Ev2 (λ n _=>dp n e) (·=iN e (e.fKids.map aJ)):=by
 refine bM ?_
 simp only [dp,iN,sJ]
 unfold ei at hc
 generalize hL:e.fKids=L at *
 generalize hS:(if e.fKey=[] then [] else e.fKey++[44,32])=S
 have hSl:S.length≤1002:=by
  rw [← hS]; split
  ·simp
  ·rw [List.length_append]; simp only [List.length_cons,List.length_nil]; omega
 refine ao ([102,111,114,32]++S) ?_ ?_
 ·refine aB (λ h=>ac ?_) (λ h=>ap (by simp only [List.length_cons,List.length_nil]; omega) (ap (by simp only [List.length_append,List.length_cons,List.length_nil]; omega) (ac ?_)))
  ·rw [← hS,if_pos h]; rfl
  ·rw [← hS,if_neg h]
 ·rcases hc with ⟨h13,h3 | h4⟩ | ⟨h13,h2 | h3⟩
  ·obtain ⟨a,b,c,rfl⟩:=len3 h3
   have la:=hl a (by simp)
   have lb:=hl b (by simp)
   have lc:=hl c (by simp)
   refine ap (by simp only [List.length_cons,List.length_nil]; omega) (ap (by simp) (ao _ (hx a (by simp)) ?_))
   refine ap (by simp only [List.length_append,List.length_cons,List.length_nil]; omega) (ap (by simp only [List.length_append,List.length_cons,List.length_nil]; omega) (ap (by simp) (ao _ (hx b (by simp)) ?_)))
   refine ap (by simp only [List.length_append,List.length_cons,List.length_nil]; omega) (ap (by simp only [List.length_append,List.length_cons,List.length_nil]; omega) (ap (by simp) ?_))
   refine ao _ (aT h13 (ap (by simp) (ao _ (hx c (by simp)) (ap (by simp only [List.length_cons,List.length_nil]; omega) (ap (by simp only [List.length_append,List.length_cons,List.length_nil]; omega) (ap (by simp) (ac rfl))))))) ?_
   refine ao _ (ai (by simp) (ac rfl)) (ac ?_)
   simp [h13]
  ·obtain ⟨a,b,c,d,rfl⟩:=len4 h4
   have la:=hl a (by simp)
   have lb:=hl b (by simp)
   have lc:=hl c (by simp)
   have ld:=hl d (by simp)
   refine ap (by simp only [List.length_cons,List.length_nil]; omega) (ap (by simp) (ao _ (hx a (by simp)) ?_))
   refine ap (by simp only [List.length_append,List.length_cons,List.length_nil]; omega) (ap (by simp only [List.length_append,List.length_cons,List.length_nil]; omega) (ap (by simp) (ao _ (hx b (by simp)) ?_)))
   refine ap (by simp only [List.length_append,List.length_cons,List.length_nil]; omega) (ap (by simp only [List.length_append,List.length_cons,List.length_nil]; omega) (ap (by simp) ?_))
   refine ao _ (aT h13 (ap (by simp) (ao _ (hx c (by simp)) (ap (by simp only [List.length_cons,List.length_nil]; omega) (ap (by simp only [List.length_append,List.length_cons,List.length_nil]; omega) (ap (by simp) (ac rfl))))))) ?_
   refine ao _ (aT (by simp) (ap (by simp) (ao _ (hx d (by simp)) (ap (by simp only [List.length_cons,List.length_nil]; omega) (ap (by simp only [List.length_append,List.length_cons,List.length_nil]; omega) (ac rfl)))))) (ac ?_)
   simp [h13]
  ·obtain ⟨a,b,rfl⟩:=len2 h2
   have la:=hl a (by simp)
   have lb:=hl b (by simp)
   refine ap (by simp only [List.length_cons,List.length_nil]; omega) (ap (by simp) (ao _ (hx a (by simp)) ?_))
   refine ap (by simp only [List.length_append,List.length_cons,List.length_nil]; omega) (ap (by simp only [List.length_append,List.length_cons,List.length_nil]; omega) (ap (by simp) (ao _ (hx b (by simp)) ?_)))
   refine ap (by simp only [List.length_append,List.length_cons,List.length_nil]; omega) (ap (by simp only [List.length_append,List.length_cons,List.length_nil]; omega) (ap (by simp) ?_))
   refine ao _ (ai h13 (ac rfl)) ?_
   refine ao _ (ai (by simp) (ac rfl)) (ac ?_)
   simp [h13]
  ·obtain ⟨a,b,c,rfl⟩:=len3 h3
   have la:=hl a (by simp)
   have lb:=hl b (by simp)
   have lc:=hl c (by simp)
   refine ap (by simp only [List.length_cons,List.length_nil]; omega) (ap (by simp) (ao _ (hx a (by simp)) ?_))
   refine ap (by simp only [List.length_append,List.length_cons,List.length_nil]; omega) (ap (by simp only [List.length_append,List.length_cons,List.length_nil]; omega) (ap (by simp) (ao _ (hx b (by simp)) ?_)))
   refine ap (by simp only [List.length_append,List.length_cons,List.length_nil]; omega) (ap (by simp only [List.length_append,List.length_cons,List.length_nil]; omega) (ap (by simp) ?_))
   refine ao _ (ai h13 (ac rfl)) ?_
   refine ao _ (aT (by simp) (ap (by simp) (ao _ (hx c (by simp)) (ap (by simp only [List.length_cons,List.length_nil]; omega) (ap (by simp only [List.length_append,List.length_cons,List.length_nil]; omega) (ac rfl)))))) (ac ?_)
   simp [h13]
end Go.Ab.R06
namespace Go.Ab.R06
open Go.Ab Go.Ab.RB Go.Lib
theorem gS:∀ {l:List aa} {x:aa},x∈l→nodesE x≤nodesL l
 | y::r,x,h=>by
  simp only [nodesL]
  rcases List.mem_cons.1 h with rfl | h
  ·omega
  ·have:=gS h; omega
theorem kO:∀ l:List aa,l.length≤nodesL l
 | []=>Nat.zero_le _
 | x::r=>by
  have h1:=kO r
  have h2:=nodesE_pos x
  simp only [nodesL,List.length_cons]; omega
theorem nw:∀ (l:List aa),(∀ x∈l,(aJ x).length+1000≤60000*nodesE x)→((l.map aJ).map λ t=>t.length+2).sum≤60000*nodesL l
 | [],_=>by simp [nodesL]
 | x::r,h=>by
  have h1:=nw r (λ y hy=>h y (by simp [hy]))
  have h2:=h x (by simp)
  simp only [List.map_cons,List.sum_cons,nodesL]; omega
theorem ny {l:List aa}(ok:l7 l (λ n x=>aj n x) aJ):Ev2 (λ n _=>cu n l) (·=[34]++fU (decide (1 < l.length)) l (l.map aJ) false++[34]):=by
 have hN:=ok.nodes
 have hlen:=mM ok (decide (1 < l.length)) l.length 0 false (by omega)
 simp only [List.drop_zero] at hlen
 refine bM ?_
 simp only [cu]
 refine ao _ (aP (lL [] 34 (by simp)) rfl) ?_
 refine ao _ (cS (f:=λ n m=>aU n (aj n) l m false 0 ([]++[34])) (s6 ok l.length 0 false ([]++[34]) (by omega) (by simp only [List.drop_zero,List.length_append,List.length_cons,List.length_nil]; omega))) ?_
 simp only [List.drop_zero,List.nil_append]
 refine ao _ (aP (lL _ 34 (by simp only [List.length_append,List.length_cons,List.length_nil]; omega)) rfl) ?_
 exact ao _ (aP (bstr _ (by simp only [List.length_append,List.length_cons,List.length_nil]; omega)) rfl) (ac rfl)
theorem oH {l:List aa}(hl:l.length≤1000)(hN:nodesL l≤1000)(hf:∀ x∈l,Ev2 (λ n _=>aj n x) (·=aJ x))(hw:∀ x∈l,(aJ x).length+1000≤60000*nodesE x):Ev2 (λ n _=>dm n l) (·=join (l.map aJ) [44,32]):=by
 have h1:=jA (l.map aJ)
 have h2:=nw l hw
 refine bM ?_
 simp only [dm]
 refine ao _ (uh (f:=λ n x=>aj n x) (g:=aJ) hl hf) ?_
 have:strings_Join (l.map aJ) [44,32]=some (join (l.map aJ) [44,32]):=by
  unfold strings_Join
  rw [bL ⟨by rw [List.length_map]; omega,by omega⟩]
 exact ao _ (aP this rfl) (ac rfl)
theorem lP {x:aa}(t:Bytes):(gU x t).length≤t.length+66:=by
 unfold gU
 split
 ·split
  ·rename_i h
   have:=((fH _).1 h.1).2.1
   omega
  ·omega
 ·split
  ·omega
  ·simp only [List.length_append,List.length_cons,List.length_nil]; omega
theorem lV:∀ (n:Nat) (l:List aa),l.length≤n→(∀ x∈l,(aJ x).length+1000≤60000*nodesE x)→((gi l (l.map aJ)).map λ t=>t.length+2).sum≤60000*nodesL l∧(gi l (l.map aJ)).length≤l.length
 | _,[],_,_=>by simp [gi]
 | _,[x],_,_=>by simp [gi]
 | 0,x::y::r,h,_=>by simp at h
 | n+1,x::y::r,h,hw=>by
  have ih:=lV n r (by simp only [List.length_cons] at h; omega) (λ z hz=>hw z (by simp [hz]))
  have h1:=hw x (by simp)
  have h2:=hw y (by simp)
  have h3:=lP (x:=x) (aJ x)
  simp only [List.map_cons,gi,List.sum_cons,nodesL,List.length_cons,List.length_append,List.length_nil]
  omega
theorem oy {l:List aa}(hl:l.length≤1000)(hN:nodesL l≤1000)(hf:∀ x∈l,Ev2 (λ n _=>aj n x) (·=aJ x))(hw:∀ x∈l,(aJ x).length+1000≤60000*nodesE x)(hs:∀ x∈l,x.fKind=1→x.fValue.fStr.length≤1000000) :
  Ev2 (λ n _=>cL n l) (·=[123]++join (gi l (l.map aJ)) [44,32]++[125]):=by
 have h1:=jA (gi l (l.map aJ))
 have h2:=lV l.length l (Nat.le_refl _) hw
 have hb:∀ x∈l,(aJ x).length≤90000000:=λ x hx=>by
  have:=hw x hx
  have:=gS hx
  omega
 refine bM ?_
 simp only [cL]
 refine ao _ (cS (f:=λ n m=>bp (aj n) (cV n) l m [] 0) (uc (f:=λ n x=>aj n x) (h:=λ n x=>cV n x) (g:=aJ) hl hf (λ x hx=>uC (hf x hx) (by have:=hb x hx; omega) (hs x hx)) (λ x hx=>⟨by have:=hb x hx; omega,by have:=hb x hx; have:=lP (x:=x) (aJ x); omega⟩) l.length 0 [] (by omega) (by simp))) ?_
 simp only [List.drop_zero,List.nil_append]
 have:strings_Join (gi l (l.map aJ)) [44,32]=some (join (gi l (l.map aJ)) [44,32]):=by
  unfold strings_Join
  rw [bL ⟨by omega,by omega⟩]
 exact ao _ (aP this rfl) (ap (by simp only [List.length_cons,List.length_nil]; omega) (ap (by simp only [List.length_append,List.length_cons,List.length_nil]; omega) (ac rfl)))
end Go.Ab.R06
end
section
namespace Go.Ab.R06
open Go.Ab Go.Ab.RB Go.Lib
def uW (e:aa):Prop:=Ev2 (λ n _=>aj n e) (·=aJ e)∧(aJ e).length+1000≤60000*nodesE e
theorem mU {s:Bytes}(h:aV s=true):s.length≤64:=((fH s).1 h).2.1
theorem mT {e:aa}(hc:ei e)(hw:∀ x∈e.fKids,(aJ x).length+1000≤60000*nodesE x):(iN e (e.fKids.map aJ)).length≤e.fName.length+e.fKey.length+60000*nodesL e.fKids:=by
 unfold ei at hc
 unfold iN
 have hK:(if e.fKey=[] then [] else e.fKey++[44,32]:Bytes).length≤e.fKey.length+2:=by
  split
  ·simp
  ·rw [List.length_append]; simp only [List.length_cons,List.length_nil]; omega
 generalize hS:(if e.fKey=[] then [] else e.fKey++[44,32]:Bytes)=S at *
 generalize hL:e.fKids=L at *
 rcases hc with ⟨h13,h3 | h4⟩ | ⟨h13,h2 | h3⟩
 ·obtain ⟨a,b,c,rfl⟩:=len3 h3
  have la:=hw a (by simp)
  have lb:=hw b (by simp)
  have lc:=hw c (by simp)
  simp [h13,nodesL]; omega
 ·obtain ⟨a,b,c,d,rfl⟩:=len4 h4
  have la:=hw a (by simp)
  have lb:=hw b (by simp)
  have lc:=hw c (by simp)
  have ld:=hw d (by simp)
  simp [h13,nodesL]; omega
 ·obtain ⟨a,b,rfl⟩:=len2 h2
  have la:=hw a (by simp)
  have lb:=hw b (by simp)
  simp [h13,nodesL]; omega
 ·obtain ⟨a,b,c,rfl⟩:=len3 h3
  have la:=hw a (by simp)
  have lb:=hw b (by simp)
  have lc:=hw c (by simp)
  simp [h13,nodesL]; omega
theorem nP {e:aa}(hg:fY e):nodesE e≤300→uW e:=by
 induction hg with
 | @mk e hnode kids ih =>
  intro hN
  have hE:=nodesE_eq e
  have hB:∀ x∈e.fKids,uW x:=λ x hx=>ih x hx (by have:=gS hx; omega)
  have HF:∀ x∈e.fKids,Ev2 (λ n _=>aj n x) (·=aJ x):=λ x hx=>(hB x hx).1
  have HW:∀ x∈e.fKids,(aJ x).length+1000≤60000*nodesE x:=λ x hx=>(hB x hx).2
  have HL:∀ x∈e.fKids,(aJ x).length≤100000000:=λ x hx=>by
   have:=HW x hx
   have:=gS hx
   omega
  have hlen:=kO e.fKids
  have HS:∀ x∈e.fKids,x.fKind=1→x.fValue.fStr.length≤4096:=λ x hx h=>(od (kids x hx) h).str
  have HO:∀ x∈e.fKids,x.fKind=7→3≤x.fOp:=λ x hx h=>by
   have:=kids x hx
   cases this with
   | mk q _=>exact ((gI q.1).2.2.2 h).1
  have hpl:∀ x∈e.fKids,jc x=true→x.fValue.fStr.length≤4096:=λ x hx h=>by
   unfold jc at h
   simp only [Bool.and_eq_true,decide_eq_true_eq] at h
   exact HS x hx h.1.1
  have okF:l7 e.fKids (λ n x=>aj n x) aJ:=⟨by omega,by omega,HF,hpl,HW⟩
  obtain ⟨s1,s2,s3,s4⟩:=gI hnode.1
  have hnm:e.fKind≠1→ax e.fKind=some true→e.fName.length≤64:=λ h1 h2=>mU ((hnode.2.2 h1).1 h2).1
  have hky:e.fKind≠1→e.fKey.length≤64:=λ h1=>by
   by_cases h2:e.fKey=[]
   ·rw [h2]; simp
   ·exact mU ((hnode.2.2 h1).2 h2).1
  have hlit:e.fKind=1→LitV e.fValue:=λ h=>od (.mk hnode kids) h
  have hmap:=lV e.fKids.length e.fKids (Nat.le_refl _) HW
  have hsum:=nw e.fKids HW
  have hj1:=jA (e.fKids.map aJ)
  have hj2:=jA (gi e.fKids (e.fKids.map aJ))
  have htl:=mM okF (decide (1 < e.fKids.length)) e.fKids.length 0 false (by omega)
  simp only [List.drop_zero] at htl
  unfold uW
  rw [oa]
  have kf:=kids_facts s1
  rcases kf with ⟨hk,hn⟩ | ⟨hk,hn⟩ | ⟨hk,hn⟩ | ⟨hk,hn⟩ | ⟨hk,hn⟩ | ⟨hk,hn⟩ | ⟨hk,hn⟩ | ⟨hk,hn⟩ | hk | hk | ⟨hk,hn⟩ | ⟨hk,hn⟩ | ⟨hk,hn⟩
  ·have hc:ey e (e.fKids.map aJ)=nR e.fValue:=by unfold ey; rw [if_pos hk]
   rw [hc]
   refine ⟨?_,?_⟩
   ·refine bM ?_
    simp only [aj]
    refine aT hk ?_
    exact ao _ (uT (hlit hk)) (ac rfl)
   ·have:=tp (hlit hk); omega
  ·have hc:ey e (e.fKids.map aJ)=[34]++fU (decide (1 < e.fKids.length)) e.fKids (e.fKids.map aJ) false++[34]:=by unfold ey; rw [if_neg (by omega),if_pos hk]
   rw [hc]
   refine ⟨?_,?_⟩
   ·refine bM ?_
    simp only [aj]
    refine ai (by omega) ?_
    refine aT hk ?_
    exact ao _ (ny okF) (ac rfl)
   ·simp only [List.length_append,List.length_cons,List.length_nil]; omega
  ·have nl:=hnm (by omega) (by rw [hk]; rfl)
   have hc:ey e (e.fKids.map aJ)=e.fName:=by unfold ey; rw [if_neg (by omega),if_neg (by omega),if_pos hk]
   rw [hc]
   refine ⟨?_,?_⟩
   ·refine bM ?_
    simp only [aj]
    refine ai (by omega) ?_
    refine ai (by omega) ?_
    refine aT hk ?_
    exact ac rfl
   ·omega
  ·have nl:=hnm (by omega) (by rw [hk]; rfl)
   obtain ⟨a,hks⟩:∃ a,e.fKids=[a]:=List.length_eq_one_iff.1 (by omega)
   have ma:a∈e.fKids:=by rw [hks]; simp
   have la:=HW a ma
   have ga:=HL a ma
   have hsumN:nodesL e.fKids=nodesE a:=by rw [hks]; simp only [nodesL]; omega
   have ta:=iL a (aJ a) 8
   have hc:ey e (e.fKids.map aJ)=atT a (aJ a) 8++[46]++e.fName:=by unfold ey; rw [if_neg (by omega),if_neg (by omega),if_neg (by omega),if_pos hk]; rw [hks]; rfl
   rw [hc]
   refine ⟨?_,?_⟩
   ·refine bM ?_
    simp only [aj]
    refine ai (by omega) ?_
    refine ai (by omega) ?_
    refine ai (by omega) ?_
    refine ai (by omega) ?_
    refine ai (by omega) ?_
    refine ai (by omega) ?_
    refine ao true (aT hk (ac (decide_eq_true (by omega)))) (aT rfl ?_)
    exact ap (by omega) (ao (atT a (aJ a) 8) (by rw [hks]; exact jK (HF a ma) ga 8) (ap (by simp only [List.length_cons,List.length_nil]; omega) (ap (by simp only [List.length_append,List.length_cons,List.length_nil]; omega) (ac rfl))))
   ·simp only [List.length_append,List.length_cons,List.length_nil]; omega
  ·obtain ⟨a,b,hks⟩:=len2 (l:=e.fKids) (by omega)
   have ma:a∈e.fKids:=by rw [hks]; simp
   have la:=HW a ma
   have ga:=HL a ma
   have mb:b∈e.fKids:=by rw [hks]; simp
   have lb:=HW b mb
   have gb:=HL b mb
   have hsumN:nodesL e.fKids=nodesE a+nodesE b:=by rw [hks]; simp only [nodesL]; omega
   have ta:=iL a (aJ a) 8
   have hc:ey e (e.fKids.map aJ)=atT a (aJ a) 8++[91]++aJ b++[93]:=by unfold ey; rw [if_neg (by omega),if_neg (by omega),if_neg (by omega),if_neg (by omega),if_pos hk]; rw [hks]; rfl
   rw [hc]
   refine ⟨?_,?_⟩
   ·refine bM ?_
    simp only [aj]
    refine ai (by omega) ?_
    refine ai (by omega) ?_
    refine ai (by omega) ?_
    refine ai (by omega) ?_
    refine ai (by omega) ?_
    refine ai (by omega) ?_
    refine ao false (ai (by omega) (ac rfl)) (ai (by simp) ?_)
    refine ao true (aT hk (ac (decide_eq_true (by omega)))) (aT rfl ?_)
    exact ap (by omega) (ao (atT a (aJ a) 8) (by rw [hks]; exact jK (HF a ma) ga 8) (ap (by simp only [List.length_cons,List.length_nil]; omega) (ap (by omega) (ao (aJ b) (by rw [hks]; exact HF b mb) (ap (by simp only [List.length_append,List.length_cons,List.length_nil]; omega) (ap (by simp only [List.length_append,List.length_cons,List.length_nil]; omega) (ac rfl)))))))
   ·simp only [List.length_append,List.length_cons,List.length_nil]; omega
  ·obtain ⟨a,hks⟩:∃ a,e.fKids=[a]:=List.length_eq_one_iff.1 (by omega)
   have ma:a∈e.fKids:=by rw [hks]; simp
   have la:=HW a ma
   have ga:=HL a ma
   have hsumN:nodesL e.fKids=nodesE a:=by rw [hks]; simp only [nodesL]; omega
   have ta:=iL a (aJ a) 7
   have sl:=qw e.fOp
   have ho:=s3 hk
   have hc:ey e (e.fKids.map aJ)=sgn e.fOp++atT a (aJ a) 7:=by unfold ey; rw [if_neg (by omega),if_neg (by omega),if_neg (by omega),if_neg (by omega),if_neg (by omega),if_pos hk]; rw [hks]; rfl
   rw [hc]
   refine ⟨?_,?_⟩
   ·refine bM ?_
    simp only [aj]
    refine ai (by omega) ?_
    refine ai (by omega) ?_
    refine ai (by omega) ?_
    refine ai (by omega) ?_
    refine ai (by omega) ?_
    refine ai (by omega) ?_
    refine ao false (ai (by omega) (ac rfl)) (ai (by simp) ?_)
    refine ao false (ai (by omega) (ac rfl)) (ai (by simp) ?_)
    refine ao true (aT hk (ac (decide_eq_true (by omega)))) (aT rfl ?_)
    exact ao _ (aP (uI (by omega) (by omega)) rfl) (ap (by omega) (ao (atT a (aJ a) 7) (by rw [hks]; exact jK (HF a ma) ga 7) (ap (by omega) (ac rfl))))
   ·simp only [List.length_append]; omega
  ·obtain ⟨a,b,hks⟩:=len2 (l:=e.fKids) (by omega)
   have ma:a∈e.fKids:=by rw [hks]; simp
   have la:=HW a ma
   have ga:=HL a ma
   have mb:b∈e.fKids:=by rw [hks]; simp
   have lb:=HW b mb
   have gb:=HL b mb
   have hsumN:nodesL e.fKids=nodesE a+nodesE b:=by rw [hks]; simp only [nodesL]; omega
   have ta:=iL a (aJ a) (lvl e)
   have tb:=iL b (aJ b) (lvl e+1)
   have sl:=qw e.fOp
   have ho:=s4 hk
   have lr:=qL e
   have hc:ey e (e.fKids.map aJ)=atT a (aJ a) (lvl e)++[32]++sgn e.fOp++[32]++atT b (aJ b) (lvl e+1):=by unfold ey; rw [if_neg (by omega),if_neg (by omega),if_neg (by omega),if_neg (by omega),if_neg (by omega),if_neg (by omega),if_pos hk]; rw [hks]; rfl
   rw [hc]
   refine ⟨?_,?_⟩
   ·refine bM ?_
    simp only [aj]
    refine ai (by omega) ?_
    refine ai (by omega) ?_
    refine ai (by omega) ?_
    refine ai (by omega) ?_
    refine ai (by omega) ?_
    refine ai (by omega) ?_
    refine ao false (ai (by omega) (ac rfl)) (ai (by simp) ?_)
    refine ao false (ai (by omega) (ac rfl)) (ai (by simp) ?_)
    refine ao false (ai (by omega) (ac rfl)) (ai (by simp) ?_)
    refine ao true (aT hk (ac (decide_eq_true (by omega)))) (aT rfl ?_)
    exact ao _ (aP (sy e) rfl) (ap (by omega) (ao (atT a (aJ a) (lvl e)) (by rw [hks]; exact jK (HF a ma) ga _) (ap (by simp only [List.length_cons,List.length_nil]; omega) (ao _ (aP (uI (by omega) (by omega)) rfl) (ap (by simp only [List.length_append,List.length_cons,List.length_nil]; omega) (ap (by simp only [List.length_append,List.length_cons,List.length_nil]; omega) (ap (by omega) (ap (bq (by omega) (by omega)) (ao (atT b (aJ b) (lvl e+1)) (by rw [hks]; exact jK (HF b mb) gb _) (ap (by simp only [List.length_append,List.length_cons,List.length_nil]; omega) (ac rfl)))))))))))
   ·simp only [List.length_append,List.length_cons,List.length_nil]; omega
  ·obtain ⟨a,b,c,hks⟩:=len3 (l:=e.fKids) (by omega)
   have ma:a∈e.fKids:=by rw [hks]; simp
   have la:=HW a ma
   have ga:=HL a ma
   have mb:b∈e.fKids:=by rw [hks]; simp
   have lb:=HW b mb
   have gb:=HL b mb
   have mc:c∈e.fKids:=by rw [hks]; simp
   have lc:=HW c mc
   have gc:=HL c mc
   have hsumN:nodesL e.fKids=nodesE a+nodesE b+nodesE c:=by rw [hks]; simp only [nodesL]; omega
   have ta:=iL a (aJ a) 1
   have hc:ey e (e.fKids.map aJ)=atT a (aJ a) 1++[32,63,32]++aJ b++[32,58,32]++aJ c:=by unfold ey; rw [if_neg (by omega),if_neg (by omega),if_neg (by omega),if_neg (by omega),if_neg (by omega),if_neg (by omega),if_neg (by omega),if_pos hk]; rw [hks]; rfl
   rw [hc]
   refine ⟨?_,?_⟩
   ·refine bM ?_
    simp only [aj]
    refine ai (by omega) ?_
    refine ai (by omega) ?_
    refine ai (by omega) ?_
    refine ai (by omega) ?_
    refine ai (by omega) ?_
    refine ai (by omega) ?_
    refine ao false (ai (by omega) (ac rfl)) (ai (by simp) ?_)
    refine ao false (ai (by omega) (ac rfl)) (ai (by simp) ?_)
    refine ao false (ai (by omega) (ac rfl)) (ai (by simp) ?_)
    refine ao false (ai (by omega) (ac rfl)) (ai (by simp) ?_)
    refine ao true (aT hk (ac (decide_eq_true (by omega)))) (aT rfl ?_)
    exact ap (by omega) (ao (atT a (aJ a) 1) (by rw [hks]; exact jK (HF a ma) ga 1) (ap (by simp only [List.length_cons,List.length_nil]; omega) (ap (by omega) (ao (aJ b) (by rw [hks]; exact HF b mb) (ap (by simp only [List.length_append,List.length_cons,List.length_nil]; omega) (ap (by simp only [List.length_append,List.length_cons,List.length_nil]; omega) (ap (by omega) (ao (aJ c) (by rw [hks]; exact HF c mc) (ap (by simp only [List.length_append,List.length_cons,List.length_nil]; omega) (ac rfl))))))))))
   ·simp only [List.length_append,List.length_cons,List.length_nil]; omega
  ·have nl:=hnm (by omega) (by rw [hk]; rfl)
   have hc:ey e (e.fKids.map aJ)=e.fName++[40]++join (e.fKids.map aJ) [44,32]++[41]:=by unfold ey; rw [if_neg (by omega),if_neg (by omega),if_neg (by omega),if_neg (by omega),if_neg (by omega),if_neg (by omega),if_neg (by omega),if_neg (by omega),if_pos hk]
   rw [hc]
   refine ⟨?_,?_⟩
   ·refine bM ?_
    simp only [aj]
    refine ai (by omega) ?_
    refine ai (by omega) ?_
    refine ai (by omega) ?_
    refine aT hk ?_
    exact ap (by simp only [List.length_cons,List.length_nil]; omega) (ao _ (oH (by omega) (by omega) HF HW) (ap (by simp only [List.length_append,List.length_cons,List.length_nil]; omega) (ap (by simp only [List.length_append,List.length_cons,List.length_nil]; omega) (ac rfl))))
   ·simp only [List.length_append,List.length_cons,List.length_nil]; omega
  ·have hc:ey e (e.fKids.map aJ)=[91]++join (e.fKids.map aJ) [44,32]++[93]:=by unfold ey; rw [if_neg (by omega),if_neg (by omega),if_neg (by omega),if_neg (by omega),if_neg (by omega),if_neg (by omega),if_neg (by omega),if_neg (by omega),if_neg (by omega),if_pos hk]
   rw [hc]
   refine ⟨?_,?_⟩
   ·refine bM ?_
    simp only [aj]
    refine ai (by omega) ?_
    refine ai (by omega) ?_
    refine ai (by omega) ?_
    refine ai (by omega) ?_
    refine aT hk ?_
    exact ao _ (oH (by omega) (by omega) HF HW) (ap (by simp only [List.length_cons,List.length_nil]; omega) (ap (by simp only [List.length_append,List.length_cons,List.length_nil]; omega) (ac rfl)))
   ·simp only [List.length_append,List.length_cons,List.length_nil]; omega
  ·have hc:ey e (e.fKids.map aJ)=[123]++join (gi e.fKids (e.fKids.map aJ)) [44,32]++[125]:=by unfold ey; rw [if_neg (by omega),if_neg (by omega),if_neg (by omega),if_neg (by omega),if_neg (by omega),if_neg (by omega),if_neg (by omega),if_neg (by omega),if_neg (by omega),if_neg (by omega),if_pos hk]
   rw [hc]
   refine ⟨?_,?_⟩
   ·refine bM ?_
    simp only [aj]
    refine ai (by omega) ?_
    refine ai (by omega) ?_
    refine ai (by omega) ?_
    refine ai (by omega) ?_
    refine ai (by omega) ?_
    refine aT hk ?_
    exact ao _ (oy (by omega) (by omega) HF HW (λ x hx h=>by have:=HS x hx h; omega)) (ac rfl)
   ·simp only [List.length_append,List.length_cons,List.length_nil]; omega
  ·have nl:=hnm (by omega) (by rw [hk]; rfl)
   have kl:=hky (by omega)
   have sh:ei e:=by unfold ei; omega
   have ll:=mT sh HW
   have hc:ey e (e.fKids.map aJ)=[91]++iN e (e.fKids.map aJ)++[93]:=by unfold ey; rw [if_neg (by omega),if_neg (by omega),if_neg (by omega),if_neg (by omega),if_neg (by omega),if_neg (by omega),if_neg (by omega),if_neg (by omega),if_neg (by omega),if_neg (by omega),if_neg (by omega),if_pos hk]
   rw [hc]
   refine ⟨?_,?_⟩
   ·refine bM ?_
    simp only [aj]
    refine ai (by omega) ?_
    refine ai (by omega) ?_
    refine ai (by omega) ?_
    refine ai (by omega) ?_
    refine ai (by omega) ?_
    refine ai (by omega) ?_
    refine ao false (ai (by omega) (ac rfl)) (ai (by simp) ?_)
    refine ao false (ai (by omega) (ac rfl)) (ai (by simp) ?_)
    refine ao false (ai (by omega) (ac rfl)) (ai (by simp) ?_)
    refine ao false (ai (by omega) (ac rfl)) (ai (by simp) ?_)
    refine ao false (ai (by omega) (ac rfl)) (ai (by simp) ?_)
    refine ao true (aT hk (ac (decide_eq_true (by omega)))) (aT rfl ?_)
    exact ao _ (oG (by omega) (by omega) HF HL sh) (ap (by simp only [List.length_cons,List.length_nil]; omega) (ap (by simp only [List.length_append,List.length_cons,List.length_nil]; omega) (ac rfl)))
   ·simp only [List.length_append,List.length_cons,List.length_nil]; omega
  ·have nl:=hnm (by omega) (by rw [hk]; rfl)
   have kl:=hky (by omega)
   have sh:ei e:=by unfold ei; omega
   have ll:=mT sh HW
   have hc:ey e (e.fKids.map aJ)=[123]++iN e (e.fKids.map aJ)++[125]:=by unfold ey; rw [if_neg (by omega),if_neg (by omega),if_neg (by omega),if_neg (by omega),if_neg (by omega),if_neg (by omega),if_neg (by omega),if_neg (by omega),if_neg (by omega),if_neg (by omega),if_neg (by omega),if_neg (by omega)]
   rw [hc]
   refine ⟨?_,?_⟩
   ·refine bM ?_
    simp only [aj]
    refine ai (by omega) ?_
    refine ai (by omega) ?_
    refine ai (by omega) ?_
    refine ai (by omega) ?_
    refine ai (by omega) ?_
    refine ai (by omega) ?_
    refine ao false (ai (by omega) (ac rfl)) (ai (by simp) ?_)
    refine ao false (ai (by omega) (ac rfl)) (ai (by simp) ?_)
    refine ao false (ai (by omega) (ac rfl)) (ai (by simp) ?_)
    refine ao false (ai (by omega) (ac rfl)) (ai (by simp) ?_)
    refine ao false (ai (by omega) (ac rfl)) (ai (by simp) ?_)
    refine ao false (ai (by omega) (ac rfl)) (ai (by simp) ?_)
    refine ao true (aT hk (ac (decide_eq_true (by omega)))) (aT rfl ?_)
    exact ao _ (oG (by omega) (by omega) HF HL sh) (ap (by simp only [List.length_cons,List.length_nil]; omega) (ap (by simp only [List.length_append,List.length_cons,List.length_nil]; omega) (ac rfl)))
   ·simp only [List.length_append,List.length_cons,List.length_nil]; omega
end Go.Ab.R06
end
section
namespace Go.Ab.R06.U
open Go.Ab.R06
open Go.Ab Go.Ab.RB Go.Lib
theorem all2_iff {α:Type}(p:α→α→Bool):∀ a b:List α,bO p a b=true↔a.length=b.length∧∀ q∈a.zip b,p q.1 q.2=true
 | [],[]=>by simp [bO]
 | [],_::_=>by simp [bO]
 | _::_,[]=>by simp [bO]
 | x::r,y::q=>by
  rw [bO,Bool.and_eq_true,all2_iff p r q]
  simp only [List.length_cons,List.zip_cons_cons,List.forall_mem_cons]
  exact ⟨λ ⟨h1,h2,h3⟩=>⟨by omega,h1,h3⟩,λ ⟨h1,h2,h3⟩=>⟨h2,by omega,h3⟩⟩
theorem all2S:∀ a b:List Bytes,bO eqS a b=true↔a=b
 | [],[]=>by simp [bO]
 | [],_::_=>by simp [bO]
 | _::_,[]=>by simp [bO]
 | x::r,y::q=>by rw [bO,Bool.and_eq_true,all2S r q]; simp [eqS]
mutual
theorem eqV_iff:∀ a b:ab,eqV a b=true↔a=b
 | .mk k n s l ks,.mk k' n' s' l' ks'=>by
  rw [eqV]
  simp only [Bool.and_eq_true,decide_eq_true_eq,eqS,ab.mk.injEq]
  rw [eqVL_iff l l',all2S]
  exact ⟨λ ⟨⟨⟨⟨h1,h2⟩,h3⟩,h4⟩,h5⟩=>⟨h1,h2,h3,h5,h4⟩,λ ⟨h1,h2,h3,h5,h4⟩=>⟨⟨⟨⟨h1,h2⟩,h3⟩,h4⟩,h5⟩⟩
theorem eqVL_iff:∀ a b:List ab,ki a b=true↔a=b
 | [],[]=>by simp [ki]
 | [],_::_=>by simp [ki]
 | _::_,[]=>by simp [ki]
 | x::r,y::q=>by rw [ki,Bool.and_eq_true,eqV_iff x y,eqVL_iff r q]; simp
end
theorem eqE_eqv {lv:Nat}{a:aa}(h:VE lv a):∀ b,eqE a b=true→EQV a b:=by
 induction h with
 | mk h s c l k ih =>
  intro b hb
  rw [po] at hb
  simp only [Bool.and_eq_true,decide_eq_true_eq,eqS,eqV_iff,all2_iff] at hb
  obtain ⟨⟨⟨⟨⟨h1,h2⟩,h3⟩,h4⟩,h5⟩,h6,h7⟩:=hb
  exact .mk h1.symm h2.symm h3.symm h4.symm h5.symm trivial l h6.symm λ p hp=>ih p.1 (List.of_mem_zip hp).1 p.2 (h7 p hp)
theorem eqv_eqE {a b:aa}(h:EQV a b):eqE a b=true:=by
 induction h with
 | mk k o n m v a c l s ih =>
  rw [po,k,o,n,m,v]
  simp only [Bool.and_eq_true,decide_eq_true_eq,eqS,eqV_iff,all2_iff]
  exact ⟨⟨⟨⟨⟨trivial,trivial⟩,trivial⟩,trivial⟩,trivial⟩,l.symm,ih⟩
theorem eCheck2_ev {e:aa}(hb:aa.Bd e):Ev2 (λ n _=>dz n e) (λ r=>r=0→fY e∧chk e=0):=by
 obtain ⟨r,h1,h2,h3⟩:=tH (re hb) (check_r (sz_bd hb))
 exact dd h3 λ q hq h=>by subst hq; exact ⟨h1 h,h2.symm.trans h⟩
theorem one2_ev (l:List aa)(hl:l.length≤1000)(hb:∀ e∈l,aa.Bd e):Ev2 (λ n _=>gu n l) (λ r=>r=true→∀ e∈l,(fY e∧chk e=0)∧Go.Ab.R06.nodesE e≤300):=by
 simp only [gu]
 have loop:∀ (k i:Nat),i+k=l.length→Ev2 (λ n m=>cJ n l m (i:Int)) (λ s=>match s with | .inl _=>∀ e∈l.drop i,(fY e∧chk e=0)∧Go.Ab.R06.nodesE e≤300 | .inr y=>y=false):=by
  intro k
  induction k with
  | zero =>
   intro i hi
   refine aW ?_
   simp only [cJ]
   refine ai (by omega) (ac (λ a ha=>?_))
   rw [List.drop_eq_nil_of_le (by omega)] at ha; cases ha
  | succ k ihk =>
   intro i hi
   have hx:=hb _ (dX (l:=l) (i:=(i:Int)) (by omega))
   refine aW ?_
   simp only [cJ]
   refine aT (by omega) ?_
   refine bj (λ u=>u=false→(fY (lat l (i:Int))∧chk (lat l (i:Int))=0)∧Go.Ab.R06.nodesE (lat l (i:Int))≤300) ?_ (λ u hu=>?_)
   ·refine ap (by omega) (bj _ (rk hx 300 (by decide) (by decide)) (λ r hr=>aB (λ _=>ac (by simp)) (λ h1=>ap (by omega) ?_)))
    refine bj _ (eCheck2_ev hx) (λ q hq=>ac (λ h2=>⟨hq (by simpa using h2),?_⟩))
    have:=hr (by simpa using h1)
    omega
   ·refine aB (λ _=>ac rfl) (λ h1=>ap (bq (by omega) (by omega)) ?_)
    refine dd (d4 (P:=λ j=>Ev2 (λ n m=>cJ n l m j) _) (ihk (i+1) (by omega))) (λ s hs=>?_)
    cases s with
    | inr z=>exact hs
    | inl z =>
     intro a ha
     rw [d8 _ (by omega)] at ha
     rcases List.mem_cons.1 ha with rfl | ha
     ·exact hu (by simpa using h1)
     ·exact hs a ha
 refine kY (dd (cS (f:=λ n m=>cJ n l m 0) (loop l.length 0 (by omega))) (λ x hx=>?_))
 cases x with
 | inr y=>have hx:y=false:=hx; subst hx; exact λ h=>absurd h (by decide)
 | inl y=>exact ac (λ _=>by simpa using hx)
theorem off_facts {a:aa}(hb:aa.Bd a)(_hg:fY a)(hc:chk a=0)(hn:Go.Ab.R06.nodesE a≤300)(by':Int) :
  VE 1 a∧SA a∧eqE a (movE by' a)=true∧eqE (movE by' a) a=true∧aJ (movE by' a)=aJ a:=by
 have hB:=hb
 have hv:Go.Ab.R06.nodesE a=nodesE a→VE 1 a:=λ h=>ve_of hB 0 1 (Nat.le_refl _) (by omega) hc
 have hv:VE 1 a:=hv (nodes_any hb)
 have hs:=ve_sa hv
 have he:=eqv_mov by' hv
 refine ⟨hv,hs,eqv_eqE he,eqv_eqE (eqv_symm he),?_⟩
 rw [txt_same (sa_mov by' hs),txt_same hs]
 exact txtF_eqv he
theorem text_iff {a b:aa}(va:VE 1 a)(vb:VE 1 b)(na:Go.Ab.R06.nodesE a≤300)(nb:Go.Ab.R06.nodesE b≤300)(hl:(aJ a).length+1000≤60000*Go.Ab.R06.nodesE a):eqE a b=true↔aJ a=aJ b:=by
 have sa:=ve_sa va
 have sb:=ve_sa vb
 rw [nodes_same sa] at na hl
 rw [nodes_same sb] at nb
 rw [txt_same sa] at hl ⊢
 rw [txt_same sb]
 exact ⟨λ h=>(txtF_eqv (eqE_eqv va b h)).symm,λ h=>eqv_eqE (txtF_inj va vb (by omega) (by omega) (by omega) h)⟩
end Go.Ab.R06.U
end
section
namespace Go.Ab.R06
open Go.Proofs Go.Ab Go.Ab.RB
attribute [local irreducible] awp eM a8 aE dx AV.sub M cT
def bQ (r_law16_moved:aa→Int→Option aa)(e_0:aa)(by_1:Int):Nat→(List aa)→Int→Option (List aa)
 | 0,_,_=>none
 | m+1,l9,i10 =>
 if i10 < (e_0.fKids.length:Int) then
  ck ((0:Int)≤i10∧i10 < (e_0.fKids.length:Int)) <|
  (r_law16_moved (lat e_0.fKids i10) by_1).bind λ r13 =>
  ck ((l9.length+[r13].length)*160≤140737488355328) <|
  ck (inR (i10+1)) <|
  bQ r_law16_moved e_0 by_1 m (l9++[r13]) (i10+1)
 else
  some l9
def cN:Nat→aa→Int→Option aa
 | 0,_,_=>none
 | n+1,e_0,by_1 =>
 (bQ (cN n) e_0 by_1 n [] 0).bind λ l19 =>
 some (aa.mk e_0.fKind e_0.fOp e_0.fName e_0.fKey e_0.fValue l19 by_1)
theorem kL (n:Nat):∀ (e_0:aa) (by_1:Int) (r:aa),cN n e_0 by_1=some r→aE Tryd.prog 6 [.agg (aa.cs e_0),eI by_1] (·=.p (.agg (aa.cs r))):=by
 induction n with
 | zero=>intro e_0 by_1 r h0; cases h0
 | succ n ih =>
 have ih_law16_moved_ok:=ih
 intro e_0 by_1 r h0
 rw [cN] at h0
 refine aY good Tryd.func6 rfl rfl rfl λ w0=>mP (λ v:aa=>.p (.agg (aa.cs v))) ?_
 refine nx 15 rfl (bd h0 λ o21 h1 h0=>?_)
 refine kE 0 o21 (λ v22=>⟨[(1,.p (eI by_1)),(2,.ptr 2 0),(4,.ptr 4 0),(5,.vec 23 11 0 (v22.map ay))],[(2,(aa.cs e_0).map .p),(4,[.p (eI 0),.p (eI 0),.p (eS ([]:Bytes)),.p (eS ([]:Bytes)),.p (eI 0),.p (eI 0),.p (eS ([]:Bytes)),.p (.val (.slice none 0 0)),.p (.val (.slice none 0 0)),.p (.val (.slice none 0 0)),.p (eI 0)])]⟩) ?_ ?_
 ·exact nx 19 rfl (mQ (oi h0) rfl (sj ⟨sr,sr,sr,sr,sr,sr,sr,sr,sr,AV.sub_vec _ _ _ _,sr,trivial⟩))
 refine lG (λ (q23:(List aa)×Int)=>⟨[(1,.p (eI by_1)),(2,.ptr 2 0),(4,.ptr 4 0),(5,.vec 23 11 0 (q23.1.map ay)),(6,.p (eI q23.2))],[(2,(aa.cs e_0).map .p),(4,[.p (eI 0),.p (eI 0),.p (eS ([]:Bytes)),.p (eS ([]:Bytes)),.p (eI 0),.p (eI 0),.p (eS ([]:Bytes)),.p (.val (.slice none 0 0)),.p (.val (.slice none 0 0)),.p (.val (.slice none 0 0)),.p (eI 0)])]⟩) (λ m (q23:(List aa)×Int)=>bQ (cN n) e_0 by_1 m q23.1 q23.2) (λ _=>rfl) ([],0) h1 (fI (tn ⟨er rfl,er rfl,er rfl,⟨_,rfl,AV.sub_nilvec _ _ _⟩,er rfl,trivial⟩ ⟨⟨_,rfl,⟨sr,sr,sr,sr,sr,sr,sr,sr,sr,sr,sr,trivial⟩⟩,⟨_,rfl,⟨sr,sr,sr,sr,sr,sr,sr,sr,sr,sr,sr,trivial⟩⟩,trivial⟩)) ?_
 rintro m ⟨l9,i10⟩ h1
 replace h1:bQ (cN n) e_0 by_1 (m+1) l9 i10=some o21:=h1
 rw [bQ] at h1
 refine nx 6 rfl (oLl (f:=ay) rfl rfl ?_)
 refine nx 2 rfl (fD [11] h1 rfl (λ c11 h1=>?_) λ c11 h1=>?_)
 ·refine nx 9 rfl (oE h1 aa.cells_eq rfl rfl (λ _=>rfl) λ hk12 h1=>?_)
  refine nx 2 rfl (bd h1 λ r13 e14 h1=>?_)
  refine oK (ih_law16_moved_ok (lat e_0.fKids i10) by_1 _ e14) rfl ⟨sr,sr,trivial⟩ Tryd.call6 rfl (mO rfl (di ay [r13] rfl rfl rfl rfl rfl rfl rfl rfl rfl rfl rfl rfl rfl (by first | rfl | (simp only [List.map_cons,List.map_nil,aa.agg_eq]; done) | (simp only [List.map_cons,List.map_nil,aa.agg_eq]; rfl)) ?_))
  refine cc' h1 λ hk15 h1=>mO rfl (kJ ay l9 [r13] rfl rfl rfl rfl rfl rfl rfl rfl rfl rfl rfl rfl rfl (λ x=>congrArg List.length (aa.cells_eq x)) rfl rfl rfl rfl hk15 ?_)
  refine nx 4 rfl (oA h1 rfl rfl λ hk16 h1=>?_)
  exact nx 2 rfl (eX (l9++[r13],i10+1) h1 (gE rfl rfl))
 exact nx 2 rfl (eXi _ (oi h1).symm (gE rfl rfl))
def du (n:Nat)(a_0:aa)(b_1:aa)(by_2:Int):Option Bool :=
 (gu n [a_0,b_1]).bind λ r1 =>
 if (!r1)=true then
  (dk n).bind λ r4 =>
  some r4
 else
  (cN n a_0 by_2).bind λ r6 =>
  (
    (aL n a_0 r6).bind λ r8 =>
    if (!r8)=true then
     some true
    else
     (aL n r6 a_0).bind λ r11 =>
     if (!r11)=true then
      some true
     else
      (aj n a_0).bind λ r14 =>
      (aj n r6).bind λ r16 =>
      some (!decide (r14=r16))
   : Option Bool).bind λ t18 =>
  if t18=true then
   some false
  else
   (
     (aL n a_0 b_1).bind λ r20 =>
     (aj n a_0).bind λ r22 =>
     (aj n b_1).bind λ r24 =>
     if (r20 == (decide (r22=r24)))=true then
      (dk n).bind λ r27 =>
      some r27
     else
      some false
    : Option Bool).bind λ t29 =>
   some t29
theorem gO (n:Nat)(a_0:aa)(b_1:aa)(by_2:Int)(r:Bool)(h0:du n a_0 b_1 by_2=some r):aE Tryd.prog 3 [.agg (aa.cs a_0),.agg (aa.cs b_1),eI by_2] (·=.p (eB r)):=by
 unfold du at h0
 refine aY good Tryd.func3 rfl rfl rfl λ w0=>mP (λ v:Bool=>.p (eB v)) ?_
 refine nx 11 rfl (mO rfl (di ay [a_0,b_1] rfl rfl rfl rfl rfl rfl rfl rfl rfl rfl rfl rfl rfl (by first | rfl | (simp only [List.map_cons,List.map_nil,aa.agg_eq]; done) | (simp only [List.map_cons,List.map_nil,aa.agg_eq]; rfl)) ?_))
 refine bd h0 λ r1 e2 h0=>oK (nN _ [a_0,b_1] _ e2) rfl ⟨sr,trivial⟩ Tryd.call4 rfl (nx 2 rfl ?_)
 refine fB [12] h0 rfl (λ c3 h0=>?_) λ c3 h0=>?_
 ·refine nx 3 rfl (bd h0 λ r4 e5 h0=>?_)
  refine oK (io _  _ e5) rfl trivial Tryd.call5 rfl (nx 3 rfl ?_)
  exact mQ (oi h0) rfl (sr)
 refine nx 6 rfl (bd h0 λ r6 e7 h0=>?_)
 refine oK (kL _ a_0 by_2 _ e7) rfl ⟨sr,sr,trivial⟩ Tryd.call6 rfl (nx 5 rfl ?_)
 refine bd h0 λ o32 h1 h0=>kN o32 (λ v33=>⟨[(3,.ptr 3 0),(4,.ptr 4 0),(33,.p (eB v33))],[(3,(aa.cs a_0).map .p),(4,(aa.cs b_1).map .p)]⟩) ?_ ?_
 ·refine nx 1 rfl (fB [33] h0 rfl (λ c19 h0=>?_) λ c19 h0=>?_)
  ·exact nx 6 rfl (mQ (oi h0) rfl (sr))
  refine nx 3 rfl (bd h0 λ o34 h1 h0=>?_)
  refine kN o34 (λ v35=>⟨[(6,.p (eB v35))],[]⟩) ?_ ?_
  ·exact nx 2 rfl (mQ (oi h0) rfl (sr))
  refine bd h1 λ r20 e21 h1=>bd h1 λ r22 e23 h1=>bd h1 λ r24 e25 h1=>fB (p:=r20 == (decide (r22=r24))) [] h1 rfl (λ c26 h1=>?_) λ c26 h1=>?_
  ·refine bd h1 λ r27 e28 h1=>mD [(3,.ptr 3 0),(4,.ptr 4 0)] rfl ⟨rfl,rfl,trivial⟩ rfl (dR 2 rfl ?_)
   refine dq (.p (eB r20)) [34,35] rfl (λ _ e _ q=>ah rfl (a6 (bi _ a_0 b_1 _ e21) rfl rfl rfl (aG (e _ _ rfl) (aG (e _ _ rfl) aX)) ⟨sr,sr,trivial⟩ Tryd.call7 rfl q)) rfl (dR 1 rfl ?_)
   refine dq (.p (eS r22)) [37] rfl (λ _ e _ q=>ah rfl (a6 (co _ a_0 _ e23) rfl rfl rfl (aG (e _ _ rfl) aX) ⟨sr,trivial⟩ Tryd.call8 rfl q)) rfl (dR 1 rfl ?_)
   refine dq (.p (eS r24)) [39] rfl (λ _ e _ q=>ah rfl (a6 (co _ b_1 _ e25) rfl rfl rfl (aG (e _ _ rfl) aX) ⟨sr,trivial⟩ Tryd.call8 rfl q)) rfl (dq (.p (eB (decide (r22=r24)))) [38,40] rfl (λ _ e _ q=>ah rfl (gD rfl rfl rfl (e _ _ rfl) (e _ _ rfl) rfl q)) rfl ?_)
   refine dL (c26) rfl (dR 1 rfl ?_)
   refine dq (.p (eB r27)) [43] rfl (λ _ e _ q=>et (a6 (io _  _ e28) rfl rfl rfl aX trivial Tryd.call5 rfl q) rfl rfl (e _ _ rfl) (rfl)) rfl (dR 2 rfl ?_)
   refine dE rfl (nx 1 rfl ?_)
   exact eX _ (oi h1).symm (gE rfl rfl)
  refine mD [(3,.ptr 3 0),(4,.ptr 4 0)] rfl ⟨rfl,rfl,trivial⟩ rfl (dR 2 rfl ?_)
  refine dq (.p (eB r20)) [34,35] rfl (λ _ e _ q=>ah rfl (a6 (bi _ a_0 b_1 _ e21) rfl rfl rfl (aG (e _ _ rfl) (aG (e _ _ rfl) aX)) ⟨sr,sr,trivial⟩ Tryd.call7 rfl q)) rfl (dR 1 rfl ?_)
  refine dq (.p (eS r22)) [37] rfl (λ _ e _ q=>ah rfl (a6 (co _ a_0 _ e23) rfl rfl rfl (aG (e _ _ rfl) aX) ⟨sr,trivial⟩ Tryd.call8 rfl q)) rfl (dR 1 rfl ?_)
  refine dq (.p (eS r24)) [39] rfl (λ _ e _ q=>ah rfl (a6 (co _ b_1 _ e25) rfl rfl rfl (aG (e _ _ rfl) aX) ⟨sr,trivial⟩ Tryd.call8 rfl q)) rfl (dq (.p (eB (decide (r22=r24)))) [38,40] rfl (λ _ e _ q=>ah rfl (gD rfl rfl rfl (e _ _ rfl) (e _ _ rfl) rfl q)) rfl ?_)
  refine dL (c26) rfl (dR 4 rfl ?_)
  refine dE rfl (nx 1 rfl ?_)
  exact eX _ (oi h1).symm (gE rfl rfl)
 refine bd h1 λ r8 e9 h1=>fB (p:=!r8) [] h1 rfl (λ c10 h1=>?_) λ c10 h1=>?_
 ·refine mD [(3,.ptr 3 0),(4,.ptr 4 0),(7,.ptr 7 0)] rfl ⟨rfl,rfl,rfl,trivial⟩ rfl (dR 2 rfl ?_)
  refine dq (.p (eB r8)) [17,18] rfl (λ _ e _ q=>ah rfl (a6 (bi _ a_0 r6 _ e9) rfl rfl rfl (aG (e _ _ rfl) (aG (e _ _ rfl) aX)) ⟨sr,sr,trivial⟩ Tryd.call7 rfl q)) rfl (dL (c10) rfl ?_)
  refine dR 13 rfl (dE rfl ?_)
  exact nx 1 rfl (eX _ (oi h1).symm (gE rfl rfl))
 refine bd h1 λ r11 e12 h1=>fB (p:=!r11) [] h1 rfl (λ c13 h1=>?_) λ c13 h1=>?_
 ·refine mD [(3,.ptr 3 0),(4,.ptr 4 0),(7,.ptr 7 0)] rfl ⟨rfl,rfl,rfl,trivial⟩ rfl (dR 2 rfl ?_)
  refine dq (.p (eB r8)) [17,18] rfl (λ _ e _ q=>ah rfl (a6 (bi _ a_0 r6 _ e9) rfl rfl rfl (aG (e _ _ rfl) (aG (e _ _ rfl) aX)) ⟨sr,sr,trivial⟩ Tryd.call7 rfl q)) rfl (dL (c10) rfl ?_)
  refine dR 3 rfl (dq (.p (eB r11)) [21,22,23] rfl (λ _ e _ q=>et (a6 (bi _ r6 a_0 _ e12) rfl rfl rfl (aG (e _ _ rfl) (aG (e _ _ rfl) aX)) ⟨sr,sr,trivial⟩ Tryd.call7 rfl q) rfl rfl (e _ _ rfl) (rfl)) rfl ?_)
  refine dL (c13) rfl (dR 8 rfl ?_)
  refine dE rfl (nx 1 rfl ?_)
  exact eX _ (oi h1).symm (gE rfl rfl)
 refine bd h1 λ r14 e15 h1=>bd h1 λ r16 e17 h1=>mD [(3,.ptr 3 0),(4,.ptr 4 0),(7,.ptr 7 0)] rfl ⟨rfl,rfl,rfl,trivial⟩ rfl (dR 2 rfl ?_)
 refine dq (.p (eB r8)) [17,18] rfl (λ _ e _ q=>ah rfl (a6 (bi _ a_0 r6 _ e9) rfl rfl rfl (aG (e _ _ rfl) (aG (e _ _ rfl) aX)) ⟨sr,sr,trivial⟩ Tryd.call7 rfl q)) rfl (dL (c10) rfl ?_)
 refine dR 3 rfl (dq (.p (eB r11)) [21,22,23] rfl (λ _ e _ q=>et (a6 (bi _ r6 a_0 _ e12) rfl rfl rfl (aG (e _ _ rfl) (aG (e _ _ rfl) aX)) ⟨sr,sr,trivial⟩ Tryd.call7 rfl q) rfl rfl (e _ _ rfl) (rfl)) rfl ?_)
 refine dL (c13) rfl (dR 3 rfl ?_)
 refine dq (.p (eS r14)) [27,28] rfl (λ _ e _ q=>et (a6 (co _ a_0 _ e15) rfl rfl rfl (aG (e _ _ rfl) aX) ⟨sr,trivial⟩ Tryd.call8 rfl q) rfl rfl (e _ _ rfl) (rfl)) rfl (dR 1 rfl ?_)
 refine dq (.p (eS r16)) [27,30] rfl (λ _ e _ q=>et (a6 (co _ r6 _ e17) rfl rfl rfl (aG (e _ _ rfl) aX) ⟨sr,trivial⟩ Tryd.call8 rfl q) rfl rfl (e _ _ rfl) (rfl)) rfl (dq (.p (eB (!decide (r14=r16)))) [27,29,31] rfl (λ _ e _ q=>et (gD rfl rfl rfl (e _ _ rfl) (e _ _ rfl) rfl q) rfl rfl (e _ _ rfl) (rfl)) rfl ?_)
 refine dR 1 rfl (dE rfl ?_)
 exact nx 1 rfl (eX _ (oi h1).symm (gE rfl rfl))
end Go.Ab.R06
end
section
namespace Go.Ab.R06.U
open Go.Ab.R06
open Go.Ab Go.Ab.RB Go.Lib
theorem moved_ev {b:Int}{e:aa}(hb:aa.Bd e):Ev2 (λ n _=>cN n e b) (·=movE b e):=by
 induction hb with
 | @mk x bKind bOp bName bKey bValue bKids eKids bAt ih =>
  have hl:=bKids
  unfold cW at hl
  rw [movE_eq]
  have loop:∀ (k i:Nat),i+k=x.fKids.length→Ev2 (λ n m=>bQ (cN n) x b m ((x.fKids.take i).map (movE b)) (i:Int)) (·=x.fKids.map (movE b)):=by
   intro k
   induction k with
   | zero =>
    intro i hi
    refine aW ?_
    simp only [bQ]
    refine ai (by omega) (ac ?_)
    rw [List.take_of_length_le (by omega)]
   | succ k ihk =>
    intro i hi
    refine aW ?_
    simp only [bQ]
    have hlat:=kH x.fKids i (by omega)
    refine aT (by omega) (ap (by omega) (ao _ (ih _ (dX (by omega))) (ap (by simp only [List.length_map,List.length_take,List.length_cons,List.length_nil]; omega) (ap (bq (by omega) (by omega)) ?_))))
    have e1:(x.fKids.take i).map (movE b)++[movE b (lat x.fKids (i:Int))]=(x.fKids.take (i+1)).map (movE b):=by
     rw [hlat,List.take_succ_eq_append_getElem (by omega),List.map_append]; rfl
    rw [e1]
    exact d4 (P:=λ j=>Ev2 (λ n m=>bQ (cN n) x b m _ j) _) (ihk (i+1) (by omega))
  refine bM ?_
  simp only [cN]
  exact ao _ (cS (f:=λ n m=>bQ (cN n) x b m [] 0) (loop x.fKids.length 0 (by omega))) (ac rfl)
theorem law_offs {a b:aa}{d:Int}(ha:aa.Bd a)(hb:aa.Bd b)(hd:inR d):Ev2 (λ n _=>du n a b d) (·=true):=by
 simp only [du]
 refine bj _ (one2_ev [a,b] (by simp) (by simp; exact ⟨ha,hb⟩)) (λ r hr=>?_)
 refine aB (λ _=>bj _ nT (λ t ht=>ac ht)) (λ h=>?_)
 have hr:=hr (Go.Ab.R06.nf h)
 obtain ⟨⟨ga,ca⟩,na⟩:=hr a (by simp)
 obtain ⟨⟨gb,cb⟩,nb⟩:=hr b (by simp)
 obtain ⟨va,sa,e1,e2,e3⟩:=off_facts ha ga ca na d
 have vb:=(off_facts hb gb cb nb d).1
 have ba:=nP ga na
 have bb:=nP gb nb
 have bm:=nP (good_mov d ga) (by rw [nodes_mov d sa]; exact na)
 refine ao _ (moved_ev ha) ?_
 refine ao false ?_ (ai (by decide) ?_)
 ·refine ao _ (jL ha _) ?_
  rw [e1]
  refine ai (by decide) (ao _ (jL (bd_mov hd ha) _) ?_)
  rw [e2]
  refine ai (by decide) (ao _ ba.1 (ao _ bm.1 (ac ?_)))
  rw [e3]; simp
 ·refine bj (·=true) ?_ (λ t ht=>ac ht)
  refine ao _ (jL ha b) (ao _ ba.1 (ao _ bb.1 (aT ?_ (bj _ nT (λ t ht=>ac ht)))))
  have h1:=text_iff va vb na nb ba.2
  cases hq:eqE a b with
  | true=>rw [decide_eq_true (h1.1 hq)]; rfl
  | false=>rw [decide_eq_false λ k=>by rw [h1.2 k] at hq; cases hq]; rfl
end Go.Ab.R06.U
end
