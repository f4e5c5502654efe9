/- Texts of the proof, one behind the other. No statement is proved here. -/
import Derived.Test.YtmdefcidhgbikaaDoorChecked
import Derived.Laws.StructEq
import Derived.Laws.IdiomStrings
import Derived.WalkKit
import Derived.Lib.Builder
import Derived.Lib.UnsafeStr
import Derived.Laws.Externs
import Derived.Shelf.RegionOpenPlain
import Derived.Below
import Derived.Lib.LaidTab
import Derived.Shelf.LaysM
import Derived.Shelf.Strconv.Itoa3
import Derived.Shelf.Lays
import Derived.Shelf.Strings.Replace
import Derived.Shelf.Strings.Prefix
import Derived.Shelf.Strings.OnBuilder
import Derived.Shelf.Unicode.DecodeAny
import Derived.Test.YtmdefcidhgbikaaDoorProg
import Derived.Lib.AppendIntMem
import Derived.Deep.LoopGhost
import Derived.Laws.Runes
import Derived.Scope
import Derived.Deep.QuietTactic
import Derived.BigQuiet
import Derived.Laws.RangeString
import Derived.Lib.IndexAny
import Derived.Lib.TrimU
import Derived.Test.YtmdefcidhgbikaaDoorZ16Oa
set_option maxHeartbeats 4000000
section
namespace Go.Ab
set_option autoImplicit false
inductive ab where
 | mk (fKind:Int) (fNum:Int) (fStr:Bytes) (fItems:List ab) (fKeys:List Bytes)
def ab.fKind:ab→Int | .mk x _ _ _ _=>x
def ab.fNum:ab→Int | .mk _ x _ _ _=>x
def ab.fStr:ab→Bytes | .mk _ _ x _ _=>x
def ab.fItems:ab→List ab | .mk _ _ _ x _=>x
def ab.fKeys:ab→List Bytes | .mk _ _ _ _ x=>x
instance:Inhabited ab:=⟨.mk 0 0 [] [] []⟩
mutual
def ab.ccs:ab→List PV
 | .mk fKind fNum fStr fItems fKeys=>[eI fKind]++[eI fNum]++[eS fStr]++[.slice (ab.els fItems)]++[eL eS fKeys]
def ab.els:List ab→List PV
 | []=>[]
 | x::r=>.agg (ab.ccs x)::ab.els r
end
def bP (x:ab):PV:=.agg (ab.ccs x)
theorem ab.els_eq:∀ l,ab.els l=l.map bP
 | []=>by simp only [ab.els,List.map_nil]
 | x::r=>by simp only [ab.els,List.map_cons,ab.els_eq r,bP]
def ab.cs (x:ab):List PV:=[eI x.fKind,eI x.fNum,eS x.fStr,eL bP x.fItems,eL eS x.fKeys]
theorem ab.ccs_eq (x:ab):ab.ccs x=ab.cs x:=by
 cases x
 simp only [ab.ccs,ab.cs,eL,List.cons_append,List.nil_append,ab.els_eq,ab.fKind,ab.fNum,ab.fStr,ab.fItems,ab.fKeys]
theorem ab.cells_eq (x:ab):(bP x).cells=ab.cs x:=ab.ccs_eq x
theorem ab.agg_eq (x:ab):bP x=.agg (ab.cs x):=congrArg PV.agg (ab.ccs_eq x)
inductive aa where
 | mk (fKind:Int) (fOp:Int) (fName:Bytes) (fKey:Bytes) (fValue:ab) (fKids:List aa) (fAt:Int)
def aa.fKind:aa→Int | .mk x _ _ _ _ _ _=>x
def aa.fOp:aa→Int | .mk _ x _ _ _ _ _=>x
def aa.fName:aa→Bytes | .mk _ _ x _ _ _ _=>x
def aa.fKey:aa→Bytes | .mk _ _ _ x _ _ _=>x
def aa.fValue:aa→ab | .mk _ _ _ _ x _ _=>x
def aa.fKids:aa→List aa | .mk _ _ _ _ _ x _=>x
def aa.fAt:aa→Int | .mk _ _ _ _ _ _ x=>x
instance:Inhabited aa:=⟨.mk 0 0 [] [] default [] 0⟩
mutual
def aa.ccs:aa→List PV
 | .mk fKind fOp fName fKey fValue fKids fAt=>[eI fKind]++[eI fOp]++[eS fName]++[eS fKey]++[eI fValue.fKind,eI fValue.fNum,eS fValue.fStr,eL bP fValue.fItems,eL eS fValue.fKeys]++[.slice (aa.els fKids)]++[eI fAt]
def aa.els:List aa→List PV
 | []=>[]
 | x::r=>.agg (aa.ccs x)::aa.els r
end
def ay (x:aa):PV:=.agg (aa.ccs x)
theorem aa.els_eq:∀ l,aa.els l=l.map ay
 | []=>by simp only [aa.els,List.map_nil]
 | x::r=>by simp only [aa.els,List.map_cons,aa.els_eq r,ay]
def aa.cs (x:aa):List PV:=[eI x.fKind,eI x.fOp,eS x.fName,eS x.fKey,eI x.fValue.fKind,eI x.fValue.fNum,eS x.fValue.fStr,eL bP x.fValue.fItems,eL eS x.fValue.fKeys,eL ay x.fKids,eI x.fAt]
theorem aa.ccs_eq (x:aa):aa.ccs x=aa.cs x:=by
 cases x
 simp only [aa.ccs,aa.cs,eL,List.cons_append,List.nil_append,aa.els_eq,aa.fKind,aa.fOp,aa.fName,aa.fKey,aa.fValue,aa.fKids,aa.fAt]
theorem aa.cells_eq (x:aa):(ay x).cells=aa.cs x:=aa.ccs_eq x
theorem aa.agg_eq (x:aa):ay x=.agg (aa.cs x):=congrArg PV.agg (aa.ccs_eq x)
structure ad where
 fName:Bytes
 fExpr:aa
 fAt:Int
 deriving Inhabited
def ad.cs (x:ad):List PV:=[eS x.fName,eI x.fExpr.fKind,eI x.fExpr.fOp,eS x.fExpr.fName,eS x.fExpr.fKey,eI x.fExpr.fValue.fKind,eI x.fExpr.fValue.fNum,eS x.fExpr.fValue.fStr,eL bP x.fExpr.fValue.fItems,eL eS x.fExpr.fValue.fKeys,eL ay x.fExpr.fKids,eI x.fExpr.fAt,eI x.fAt]
def bg (x:ad):PV:=.agg (ad.cs x)
theorem ad.cells_eq (x:ad):(bg x).cells=ad.cs x:=rfl
theorem ad.agg_eq (x:ad):bg x=.agg (ad.cs x):=rfl
mutual
inductive aD where
 | mk (fAttrs:List ad) (fBlocks:List ak)
inductive ak where
 | mk (fType:Bytes) (fLabels:List Bytes) (fBody:aD) (fAt:Int)
end
def aD.fAttrs:aD→List ad | .mk x _=>x
def aD.fBlocks:aD→List ak | .mk _ x=>x
def ak.fType:ak→Bytes | .mk x _ _ _=>x
def ak.fLabels:ak→List Bytes | .mk _ x _ _=>x
def ak.fBody:ak→aD | .mk _ _ x _=>x
def ak.fAt:ak→Int | .mk _ _ _ x=>x
instance:Inhabited aD:=⟨.mk [] []⟩
instance:Inhabited ak:=⟨.mk [] [] default 0⟩
mutual
def aD.ccs:aD→List PV
 | .mk fAttrs fBlocks=>[eL bg fAttrs]++[.slice (ak.els fBlocks)]
def ak.ccs:ak→List PV
 | .mk fType fLabels fBody fAt=>[eS fType]++[eL eS fLabels]++aD.ccs fBody++[eI fAt]
def ak.els:List ak→List PV
 | []=>[]
 | x::r=>.agg (ak.ccs x)::ak.els r
end
def s7 (x:aD):PV:=.agg (aD.ccs x)
def cG (x:ak):PV:=.agg (ak.ccs x)
theorem ak.els_eq:∀ l,ak.els l=l.map cG
 | []=>by simp only [ak.els,List.map_nil]
 | x::r=>by simp only [ak.els,List.map_cons,ak.els_eq r,cG]
def aD.cs (x:aD):List PV:=[eL bg x.fAttrs,eL cG x.fBlocks]
theorem aD.ccs_eq (x:aD):aD.ccs x=aD.cs x:=by
 cases x
 simp only [aD.ccs,aD.cs,eL,List.cons_append,List.nil_append,ak.els_eq,aD.fAttrs,aD.fBlocks]
def ak.cs (x:ak):List PV:=[eS x.fType,eL eS x.fLabels,eL bg x.fBody.fAttrs,eL cG x.fBody.fBlocks,eI x.fAt]
theorem ak.ccs_eq (x:ak):ak.ccs x=ak.cs x:=by
 cases x
 simp only [ak.ccs,ak.cs,eL,List.cons_append,List.nil_append,aD.ccs_eq,aD.cs,ak.fType,ak.fLabels,ak.fBody,ak.fAt]
theorem aD.cells_eq (x:aD):(s7 x).cells=aD.cs x:=aD.ccs_eq x
theorem aD.agg_eq (x:aD):s7 x=.agg (aD.cs x):=congrArg PV.agg (aD.ccs_eq x)
theorem ak.cells_eq (x:ak):(cG x).cells=ak.cs x:=ak.ccs_eq x
theorem ak.agg_eq (x:ak):cG x=.agg (ak.cs x):=congrArg PV.agg (ak.ccs_eq x)
end Go.Ab
end
section
namespace Go.Ab
theorem eT {C:Cx}(s:AS):cT C s s:=λ g _ _ hs=>⟨g,hs⟩
theorem bh {C:Cx}{s t u:AS}(h:cT C s t)(k:cT C t u):cT C s u:=λ g a w hs=>by
 obtain ⟨g',hs'⟩:=h g a w hs
 exact k g' a w hs'
theorem rF {C:Cx}{c:Code}{Q:Exit→AS→Prop}{s:AS}{σ O:Type}(mk:σ→AS)(lp:Nat→σ→Option O)(hz:∀ q,lp 0 q=none){o:O}{n:Nat}(q0:σ)(h0:lp n q0=some o)(hle:cT C s (mk q0))
  (round:∀ m q,lp (m+1) q=some o→awp C c (jp (λ s'=>∃ q',lp m q'=some o∧cT C s' (mk q')) Q) (mk q)):awp C (.loop c) Q s:=by
 refine jS hle ?_
 intro g a w hs
 let J:Act→World→Nat→Prop:=λ a w m=>∃ g q,St C.n C.w0 C.F g (mk q) a w∧lp m q=some o
 have hJ:∀ a w m,J a w m→∃ m0,J a w m0∧∀ m',J a w m'→m0≤m':=by
  intro a w m
  induction m using Nat.strongRecOn with
  | _ m ih =>
   intro hm
   by_cases h:∃ m',m' < m∧J a w m'
   ·obtain ⟨m',h1,h2⟩:=h; exact ih m' h1 h2
   ·exact ⟨m,hm,λ m' h'=>Nat.le_of_not_lt λ hlt=>h ⟨m',hlt,h'⟩⟩
 let M:Act→World→Nat:=λ a w=>by
  classical
  exact if h:∃ m0,J a w m0∧∀ m',J a w m'→m0≤m' then Classical.choose h else 0
 have hM:∀ a w m,J a w m→J a w (M a w)∧M a w≤m:=by
  intro a w m hm
  have h:=hJ a w m hm
  have e:M a w=Classical.choose h:=by simp only [M]; rw [dif_pos h]
  rw [e]
  exact ⟨(Classical.choose_spec h).1,(Classical.choose_spec h).2 m hm⟩
 refine wp_loop (λ a w=>∃ m,J a w m) M ⟨n,g,q0,hs,h0⟩ ?_
 rintro a w ⟨m,hm⟩
 obtain ⟨⟨g1,q1,hs1,hI1⟩,_⟩:=hM a w m hm
 generalize hMm:M a w=mm at hI1
 cases mm with
 | zero=>rw [hz] at hI1; cases hI1
 | succ mm =>
  refine wp_mono (round mm q1 hI1 g1 a w hs1) ?_
  rintro e a' w' ⟨g',s',h1,h2⟩
  cases e with
  | normal =>
   obtain ⟨q',hI',hgh⟩:=h2
   obtain ⟨g2,hs2⟩:=hgh g' a' w' h1
   have hj:J a' w' mm:=⟨g2,q',hs2,hI'⟩
   refine ⟨⟨_,hj⟩,?_⟩
   have:=(hM a' w' _ hj).2
   omega
  | exit id=>exact ⟨g',s',h1,h2⟩
  | goto l=>exact ⟨g',s',h1,h2⟩
  | ret=>exact ⟨g',s',h1,h2⟩
  | panic ch=>exact ⟨g',s',h1,h2⟩
  | outgrown=>exact ⟨g',s',h1,h2⟩
def g7 (tt:List (Nat×TI)):List ResultVar→AS→Option (List AV)
 | [],_=>some []
 | .tmp t::r,s=>match look s.sl t,g7 tt r s with
  | some x,some l=>some (x::l)
  | _,_=>none
 | .cell c t::r,s=>match look s.sl c with
  | some (.ptr id k)=>match look s.ob id,look tt t,g7 tt r s with
   | some cs,some i,some l=>bif i.k.isAgg then (bif Nat.ble (k+i.size) cs.length then some (iU ((cs.drop k).take i.size)::l) else none) else (match cs[k]? with
    | some y=>some (y::l)
    | none=>none)
   | _,_,_=>none
  | _=>none
def qU (tt:List (Nat×TI))(fn:Func)(R:AV→Prop)(e:Exit)(s:AS):Prop:=(e=.normal∨e=.ret)∧∃ l,g7 tt fn.results.toList s=some l∧R (kx l)
theorem tV {tt:List (Nat×TI)}{fn:Func}{R:AV→Prop}{s:AS}{l:List AV}(h:g7 tt fn.results.toList s=some l)(hR:R (kx l)):qU tt fn R .ret s:=⟨.inr rfl,l,h,hR⟩
theorem mZ {P:Program}{tt:List (Nat×TI)}(good:ce P tt){n:Nat}{w0:Base}{w:World}{F:Nat→Prop}{g:Gh}{s:AS}{a:Act}(hs:St n w0 F g s a w){c id k t:Nat}{cs:List AV}{i:TI}{y:AV}
  (hc:look s.sl c=some (.ptr id k)) (hob:look s.ob id=some cs) (hi:look tt t=some i)
  (hy:(i.k.isAgg=true∧k+i.size≤cs.length∧y=iU ((cs.drop k).take i.size))∨(i.k.isAgg=false∧cs[k]? = some y)) :
  ∃ v,(oB a.tmps (.cell c t)).run P w=.ok v w∧ARep w g y v:=by
 have h5:=hs.sl c
 simp only [AS.get,hc,Option.getD_some] at h5
 generalize hv:a.tmps.getD c Go.undef=v at h5
 cases h5 with
 | ptr how =>
  rename_i b
  obtain ⟨b',cc,e,k1,k2,k3,k4,k5⟩:=hs.ob id cs hob
  rw [how] at k1; cases k1
  rcases hy with ⟨hia,hl,rfl⟩ | ⟨hia,hy⟩
  ·have hcell:∀ j,j < i.size→w.cell? ⟨b,k+j,none⟩=some (cc.getD (k+j) Go.undef):=by
    intro j hj
    rw [gG hs k2]
    have:k+j < cc.size:=by omega
    simp [Array.getD,this]
   have hld:=hZ good hi hia (f:=λ j=>cc.getD (k+j) Go.undef) hcell
   refine ⟨.agg ((List.range i.size).map λ j=>cc.getD (k+j) Go.undef).toArray,by simp only [oB,hv,asAddr,Sem.run_bind,Sem.run_pure,Result.andThen_ok,hld],iJ (by simp; omega) λ j y v h1 h2=>?_⟩
   rw [List.getElem?_take] at h1
   split at h1
   ·rename_i hj
    rw [List.getElem?_drop] at h1
    obtain ⟨u,hu,hr⟩:=k5 (k+j) y h1
    simp only [List.getElem?_toArray,List.getElem?_map,List.getElem?_range hj,Option.map_some,Option.some.injEq] at h2
    rw [← h2,Array.getD_eq_getD_getElem?,hu]
    exact hr
   ·cases h1
  ·obtain ⟨u,hu,hr⟩:=k5 k y hy
   have hcc:=(gG hs k2 k).trans hu
   exact ⟨u,by simp only [oB,hv,asAddr,Sem.run_bind,Sem.run_pure,Result.andThen_ok,iA good hi hia hcc],hr⟩
theorem ti {P:Program}{tt:List (Nat×TI)}(good:ce P tt){n:Nat}{w0:Base}{w:World}{F:Nat→Prop}{g:Gh}{s:AS}{a:Act}(hs:St n w0 F g s a w)(rs:List ResultVar) :
  ∀ l,g7 tt rs s=some l→∃ vs:List Value,
   (rs.mapM (oB a.tmps)).run P w=.ok vs w∧vs.length=l.length ∧
    ∀ (i:Nat) c v,l[i]? = some c→vs[i]? = some v→ARep w g c v:=by
 induction rs with
 | nil=>intro l h; simp only [g7,Option.some.injEq] at h; subst h; exact ⟨[],by simp,rfl,by simp⟩
 | cons r rs ih =>
  intro l h
  have fin:∀ (y:AV) (l':List AV) (v:Value),l=y::l'→g7 tt rs s=some l'→(oB a.tmps r).run P w=.ok v w→ARep w g y v→∃ vs:List Value,
    ((r::rs).mapM (oB a.tmps)).run P w=.ok vs w∧vs.length=l.length∧∀ (i:Nat) c v,l[i]? = some c→vs[i]? = some v→ARep w g c v:=by
   intro y l' v e h1 h2 h3
   subst e
   obtain ⟨vs,k1,k2,k3⟩:=ih l' h1
   refine ⟨v::vs,by simp only [List.mapM_cons,Sem.run_bind,h2,Sem.run_pure,Result.andThen_ok,k1],by simp [k2],λ i c u h5 h6=>?_⟩
   cases i with
   | zero=>simp only [List.getElem?_cons_zero,Option.some.injEq] at h5 h6; subst h5 h6; exact h3
   | succ i=>simp only [List.getElem?_cons_succ] at h5 h6; exact k3 i c u h5 h6
  cases r with
  | tmp t =>
   have ht:=hs.sl t
   simp only [g7] at h
   split at h
   case h_2=>cases h
   rename_i x l' hx h1
   cases h
   simp only [AS.get,hx,Option.getD_some] at ht
   exact fin x l' _ rfl h1 (by simp only [oB,Sem.run_pure]) ht
  | cell c t =>
   simp only [g7] at h
   split at h
   case h_2=>cases h
   rename_i id k hc
   split at h
   case h_2=>cases h
   rename_i cs i l' hob hi h1
   cases hia:i.k.isAgg
   ·rw [hia,cond_false] at h
    split at h
    ·rename_i y hy
     cases h
     obtain ⟨v,h2,h3⟩:=mZ good hs hc hob hi (.inr ⟨hia,hy⟩)
     exact fin y l' v rfl h1 h2 h3
    ·cases h
   ·rw [hia,cond_true] at h
    cases hb:Nat.ble (k+i.size) cs.length
    ·rw [hb,cond_false] at h; cases h
    ·rw [hb,cond_true] at h
     cases h
     obtain ⟨v,h2,h3⟩:=mZ good hs hc hob hi (.inl ⟨hia,Nat.le_of_ble_eq_true hb,rfl⟩)
     exact fin _ l' v rfl h1 h2 h3
theorem gJ {P:Program}{tt:List (Nat×TI)}(good:ce P tt){n:Nat}{w0:Base}{w:World}{F:Nat→Prop}{g:Gh}{s:AS}{a:Act}(hs:St n w0 F g s a w)(fn:Func)(l:List AV)(h:g7 tt fn.results.toList s=some l) :
  ∃ v,(results fn a.tmps).run P w=.ok v w∧ARep w g (kx l) v:=by
 obtain ⟨vs,h2,h3,h4⟩:=ti good hs _ l h
 refine ⟨if h:vs.length=1 then vs[0] else .tuple vs.toArray,?_,?_⟩
 ·rw [pu,Array.mapM_eq_mapM_toList]
  simp only [Sem.run_bind,Sem.run_map,h2,Result.andThen_ok,Sem.run_pure,List.size_toArray]
  congr 1
 ·by_cases e:vs.length=1
  ·rw [dif_pos e]
   obtain ⟨v,rfl⟩:=List.length_eq_one_iff.1 e
   obtain ⟨x,rfl⟩:=List.length_eq_one_iff.1 (h3.symm.trans e)
   exact h4 0 x v rfl rfl
  ·rw [dif_neg e]
   have e2:kx l=.tuple l:=by
    match l,h3 with
    | [],_=>rfl
    | [x],h3=>exact absurd h3 e
    | x::y::r,_=>rfl
   rw [e2]
   exact .tuple (by simpa using h3) (λ i c v h5 h6=>h4 i c v h5 (by simpa using h6))
theorem aY {P:Program}{tt:List (Nat×TI)}(good:ce P tt){f:FuncId}{fn:Func}{c:Code}{args:List PV}{r:AV}(hf:P.funcs[f]? = some fn)(hb:fn.body=some c)(hn:Nat.ble args.length fn.ntmps=true)(hnl:Nat.ble fn.ntmps M1=true)
  (h:∀ w0,awp ⟨P,tt,good,fn.ntmps,hnl,w0,λ b=>b < w0.w.heap.size⟩ c (qU tt fn (λ x=>x.sub r)) ⟨lh args,[]⟩):aE P f args (·=r):=by
 refine aE.of_sub ?_
 intro w st vs h0 h1 h2
 refine calls_of_wp hf hb ?_
 have hn:=Nat.le_of_ble_eq_true hn
 have hs:St fn.ntmps ⟨w,st,λ _=>none,h0.gl,(λ _ _ h=>nomatch h),[]⟩ (λ b=>b < w.heap.size) ⟨st,λ _=>none⟩ ⟨lh args,[]⟩ { tmps:=vs++Array.replicate (fn.ntmps - vs.size) Go.undef,defers:=[] } w:=by
  refine ⟨rfl,?_,?_,?_,?_,?_,?_,?_,?_,rfl,rfl,rfl,Nat.le_refl _,λ b _ o=>Iff.rfl,λ _ _ _=>rfl,eZ.refl _ _,λ i b _ h=>(by cases h),Ev.refl _ _⟩
  ·simp only [Array.size_append,Array.size_replicate]; omega
  ·intro i
   have:=mz args 0 i
   simp only [AS.get,lh,this,Nat.zero_le,if_true,Nat.sub_zero]
   cases ha:args[i]? with
   | none=>exact .undef _
   | some x =>
    have hi:i < args.length:=(List.getElem?_eq_some_iff.1 ha).1
    have hi2:i < vs.size:=by omega
    have e:(vs++Array.replicate (fn.ntmps - vs.size) Go.undef).getD i Go.undef=vs[i]:=by
     simp [Array.getD_eq_getD_getElem?,Array.getElem?_append,hi2]
    simp only [Option.map_some,Option.getD_some]
    rw [e]
    exact .p (h2 i x _ ha (Array.getElem?_eq_getElem hi2))
  ·intro id cs h; simp [look] at h
  ·intro i j b h; simp at h
  ·intro i b h; simp at h
  ·intro b o h; exact h0.lt b o h
  ·intro b h; exact h
  ·intro b h; rfl
 refine wp_mono (h ⟨w,st,λ _=>none,h0.gl,(λ _ _ h=>nomatch h),[]⟩ _ _ w hs) ?_
 rintro e a' w' ⟨g',s',h3,he,l,hl,hR⟩
 obtain ⟨v,hv,hr⟩:=gJ good h3 fn l hl
 have fin:∃ v,(results fn a'.tmps).run P w'=.ok v w'∧∃ v1 r1 g',Ending.returned v=.returned v1∧r1.sub r∧ARep w' g' r1 v1∧After w st w' g':=by
  refine ⟨v,hv,v,_,g',rfl,hR,hr,⟨h3.os,h3.out,h3.tape,h3.size,λ b hb=>h3.fr b hb,λ i b hi=>?_,h3.inj,h3.lt,h3.stf⟩⟩
  have:=h3.own i b hi
  exact ⟨Nat.le_of_not_lt this.2,this.1⟩
 rcases he with rfl | rfl
 ·exact ⟨h3.nd,fin⟩
 ·exact ⟨h3.nd,fin⟩
def ns (k d i:Nat):Option Nat:=bif Nat.beq i k then some d else bif Nat.beq i d then none else some i
def sQ (k d:Nat):List (Nat×AV)→Option (List (Nat×AV))
 | []=>some []
 | (i,x)::r=>match x.mapA (ns k d),sQ k d r with
  | some y,some q=>some ((i,y)::q)
  | _,_=>none
theorem nj {k d:Nat}:∀ {sl q:List (Nat×AV)},sQ k d sl=some q→∀ i,match look sl i,look q i with
  | some x,some y=>x.mapA (ns k d)=some y
  | none,none=>True
  | _,_=>False
 | [],q,h,i=>by simp only [sQ,Option.some.injEq] at h; subst h; simp [look]
 | (j,x)::r,q,h,i=>by
  simp only [sQ] at h
  split at h
  ·rename_i y q' hy hq
   cases h
   have ih:=nj hq i
   simp only [aR]
   by_cases e:j=i
   ·simp [e,hy]
   ·simp only [if_neg e]; exact ih
  ·cases h
theorem rO {k d:Nat}(_hne:k≠d):∀ i j x,ns k d i=some x→ns k d j=some x→i=j:=by
 intro i j x h1 h2
 unfold ns at h1 h2
 have hb:∀ {a b:Nat},Nat.beq a b=true→a=b:=Nat.eq_of_beq_eq_true
 have hf:∀ {a b:Nat},Nat.beq a b=false→a≠b:=λ h e=>by subst e; simp at h
 cases a1:Nat.beq i k <;> cases b1:Nat.beq j k <;> simp only [a1,b1,cond_true,cond_false] at h1 h2
 ·cases a2:Nat.beq i d <;> cases b2:Nat.beq j d <;> simp only [a2,b2,cond_true,cond_false,reduceCtorEq,Option.some.injEq] at h1 h2
  rw [h1,h2]
 ·cases a2:Nat.beq i d <;> simp only [a2,cond_true,cond_false,reduceCtorEq,Option.some.injEq] at h1 h2
  exact absurd (h1.trans h2.symm) (hf a2)
 ·cases b2:Nat.beq j d <;> simp only [b2,cond_true,cond_false,reduceCtorEq,Option.some.injEq] at h1 h2
  exact absurd (h2.trans h1.symm) (hf b2)
 ·rw [hb a1,hb b1]
theorem mV {m:Nat→Option Nat}(hinj:∀ i j x,m i=some x→m j=some x→i=j):∀ {l l':List (Nat×List AV)},fy m l=some l'→∀ {j:Nat} {cs':List AV},look l' j=some cs'→∃ i cs,look l i=some cs∧m i=some j∧AV.mapA.go m cs=some cs'
 | [],l',h,j,cs',hc=>by simp only [fy,Option.some.injEq] at h; subst h; simp [look] at hc
 | (i,ds)::r,l',h,j,cs',hc=>by
  simp only [fy] at h
  split at h
  ·rename_i j0 l0 q hj hgo hq
   cases h
   rw [aR] at hc
   by_cases e:j0=j
   ·rw [if_pos e] at hc
    cases hc; subst e
    exact ⟨i,ds,by simp [aR],hj,hgo⟩
   ·rw [if_neg e] at hc
    obtain ⟨i',cs,h1,h2,h3⟩:=mV hinj hq hc
    refine ⟨i',cs,?_,h2,h3⟩
    rw [aR,if_neg]
    ·exact h1
    ·intro e2; subst e2
     rw [hj] at h2; cases h2; exact e rfl
  ·cases h
theorem b9 {C:Cx}{sl sl':List (Nat×AV)}{ob ob':List (Nat×List AV)}(k d:Nat)(hkd:Nat.beq k d=false)(hk:Nat.blt k M1=true)(hd:Nat.blt d M1=true)(hs':sQ k d sl=some sl')(ho':fy (ns k d) ob=some ob'):cT C ⟨sl,ob⟩ ⟨sl',ob'⟩:=by
 intro g a w hs
 have hk':k < M1:=Nat.blt_eq ▸ hk
 have hd':d < M1:=Nat.blt_eq ▸ hd
 have hne:k≠d:=λ e=>by subst e; simp at hkd
 let g':Gh:=⟨g.st,λ i=>if i=d then g.ow k else if i=k then none else g.ow i⟩
 have hm:∀ i j b,ns k d i=some j→g.ow i=some b→g'.ow j=some b:=by
  intro i j b h hb
  unfold ns at h
  cases h1:Nat.beq i k
  ·rw [h1,cond_false] at h
   cases h2:Nat.beq i d
   ·rw [h2,cond_false] at h; cases h
    have e1:i≠k:=λ e=>by subst e; simp at h1
    have e2:i≠d:=λ e=>by subst e; simp at h2
    simp only [g',if_neg e2,if_neg e1]; exact hb
   ·rw [h2,cond_true] at h; cases h
  ·rw [h1,cond_true] at h; cases h
   have:=Nat.eq_of_beq_eq_true h1
   subst this
   simp only [g',if_true]; exact hb
 refine ⟨g',hs.nd,hs.sz,λ i=>?_,λ id cs hc=>?_,λ i j b h1 h2=>?_,λ i b h=>?_,hs.lt,hs.fl,hs.fr,hs.os,hs.out,hs.tape,hs.size,hs.stf,λ i hi hz=>?_,hs.shf,hs.nst,hs.ev0⟩
 ·have h1:=nj hs' i
  have h2:=hs.sl i
  simp only [AS.get] at h2 ⊢
  cases e1:look sl i with
  | none =>
   rw [e1] at h1
   cases e2:look sl' i with
   | none=>exact .undef _
   | some y=>rw [e2] at h1; exact h1.elim
  | some x =>
   rw [e1] at h1 h2
   cases e2:look sl' i with
   | none=>exact .undef _
   | some y =>
    rw [e2] at h1
    exact fk (g:=g) (g':=g') rfl hm (by simpa using h2) h1
 ·obtain ⟨i,ds,h1,h2,h3⟩:=mV (rO hne) ho' hc
  exact ip (g:=g) (g':=g') rfl hm (show fy (ns k d) [(i,ds)]=some [(id,cs)] by simp only [fy,h2,h3]) (λ p hp=>by
   simp only [List.mem_singleton] at hp
   subst hp
   exact hs.ob i ds h1) (id,cs) (by simp)
 ·simp only [g'] at h1 h2
  by_cases a1:i=d <;> by_cases b1:j=d
  ·rw [a1,b1]
  ·rw [if_pos a1] at h1
   rw [if_neg b1] at h2
   split at h2
   ·cases h2
   ·rename_i b2; exact absurd (hs.inj k j b h1 h2).symm b2
  ·rw [if_pos b1] at h2
   rw [if_neg a1] at h1
   split at h1
   ·cases h1
   ·rename_i b2; exact absurd (hs.inj i k b h1 h2) b2
  ·rw [if_neg a1] at h1; rw [if_neg b1] at h2
   split at h1
   ·cases h1
   ·split at h2
    ·cases h2
    ·exact hs.inj i j b h1 h2
 ·simp only [g'] at h
  split at h
  ·exact hs.own k b h
  ·split at h
   ·cases h
   ·exact hs.own i b h
 ·simp only [g']
  rw [if_neg (by omega),if_neg (by omega)]; exact hs.owf i hi hz
theorem gz {C:Cx}{sl:List (Nat×AV)}{ob:List (Nat×List AV)}(j:Nat){x y:AV}(hj:look sl j=some x)(h:x.sub y):cT C ⟨sl,ob⟩ ⟨(j,y)::sl,ob⟩:=by
 refine fI ⟨λ i z hz=>?_,λ id cs hc=>⟨cs,hc,(ef (gp cs)).1,(ef (gp cs)).2⟩⟩
 simp only [aR] at hz
 by_cases e:j=i
 ·rw [if_pos e] at hz; cases hz; subst e
  simp only [AS.get,hj,Option.getD_some]; exact h
 ·rw [if_neg e] at hz
  simp only [AS.get,hz,Option.getD_some]; exact AV.sub_refl _
def lI:List PV→List PV→Prop
 | [],[]=>True
 | c::cs,d::ds=>(c=d∨(c=.val (.slice none 0 0)∧d=.slice []))∧lI cs ds
 | _,_=>False
theorem iQ {w:World}{st:Nat→Nat→Prop}:∀ {cs ds:List PV},lI cs ds→cs.length=ds.length∧∀ (i:Nat) c d v,cs[i]? = some c→ds[i]? = some d→PRep w st c v→PRep w st d v
 | [],[],_=>⟨rfl,by simp⟩
 | [],_::_,h=>h.elim
 | _::_,[],h=>h.elim
 | c::cs,d::ds,h=>by
  obtain ⟨h1,h2⟩:=iQ (w:=w) (st:=st) h.2
  refine ⟨by simp [h1],λ i c' d' v hc hd hv=>?_⟩
  cases i with
  | zero =>
   simp only [List.getElem?_cons_zero,Option.some.injEq] at hc hd
   subst hc hd
   rcases h.1 with e | ⟨e1,e2⟩
   ·rw [← e]; exact hv
   ·rw [e1] at hv; rw [e2]; cases hv; exact .nils
  | succ i=>simp only [List.getElem?_cons_succ] at hc hd; exact h2 i c' d' v hc hd hv
theorem en {cs ds:List PV}(h:lI cs ds):(AV.p (.agg cs)).sub (.p (.agg ds)):=by
 intro w g v hv
 obtain ⟨h1,h2⟩:=iQ (w:=w) (st:=g.st) h
 cases hv with
 | p hv =>
  cases hv with
  | agg hl hh =>
   refine .p (.agg (hl.trans h1) λ i d u hd hu=>?_)
   have hi:i < cs.length:=by have:=(List.getElem?_eq_some_iff.1 hd).1; omega
   exact h2 i cs[i] d u (List.getElem?_eq_getElem hi) hd (hh i _ u (List.getElem?_eq_getElem hi) hu)
theorem sj {cs:List AV}{ds:List PV}(h:iS cs (ds.map .p)):(AV.agg cs).sub (.p (.agg ds)):=by
 intro w g v hv
 obtain ⟨h1,h2⟩:=fJ h
 cases hv with
 | agg hl hh =>
  refine .p (.agg (by rw [hl,h1,List.length_map]) λ i d u hd hu=>?_)
  have hi:i < cs.length:=by have:=(List.getElem?_eq_some_iff.1 hd).1; simp at h1; omega
  have:=h2 i cs[i] (.p d) (List.getElem?_eq_getElem hi) (by simp [hd]) w g u (hh i _ u (List.getElem?_eq_getElem hi) hu)
  cases this with | p h=>exact h
section
variable {C:Cx} {o:Oper} {K:AS→Prop} {sl:List (Nat×AV)} {ob:List (Nat×List AV)} {d:Nat}
theorem di {α:Type}(f:α→PV)(l:List α){t e len:Nat}{parts:Array (Nat×Operand)}{i ie:TI}{es:List PV}(ho:o.op=.buildSlice t len parts)(hd:o.dst=some d)(hn:Nat.blt d C.n=true)
  (hi:look C.tt t=some i) (hik:i.k=.slice e) (hie:look C.tt e=some ie) (hes:gg sl 0 parts.toList=some es) (hlen:Nat.beq es.length len=true) (hpos:Nat.blt 0 len=true)
  (hk:Nat.blt 0 ie.size=true) (hsm:Nat.ble (len*ie.size) 16777216=true) (hsz:jP ie.size es=true) (hzl:Nat.beq ie.zero.length ie.size=true) (he:es=l.map f)
  (hK:K ⟨(d,.p (eL f l))::sl,ob⟩):a8 C o K ⟨sl,ob⟩ :=
 mt ho hd hn hi hik hie hes hlen hpos hk hsm hsz hzl (by rw [he]; exact hK)
theorem kJ {α:Type}(f:α→PV)(l0 l:List α){t tx e e':TypeId}{x y:Operand}{k sz ty:Nat}{Y:AV}{i ie j:TI}(ho:o.op=.call { callee:=.builtin .append,args:=#[x,y],argTypes:=#[t,tx] })(hd:o.dst=some d)(hn:Nat.blt d C.n=true)
  (hi:look C.tt t=some i) (hik:i.k=.slice e) (hie:look C.tt e=some ie) (hj:look C.tt tx=some j) (hjk:j.k=.slice e') (hx:evo sl x=some (.vec k sz ty (l0.map f))) (hk:Nat.blt k M1=true) (hiz:ie.size=sz)
  (hy:evo sl y=some Y) (hY:Y.elems? = some (l.map f)) (hsz:∀ x,(f x).cells.length=ie.size) (h0:Nat.blt 0 ie.size=true) (hzl:Nat.beq ie.zero.length ie.size=true) (hby:Nat.blt 0 ie.bytes=true)
  (hty:(Nat.beq ty 0||Nat.beq ty (e+1))=true) (hlen:(l0.length+l.length)*ie.bytes≤140737488355328)
  (hK:K ⟨(d,.vec d sz ty ((l0++l).map f))::(dF (λ i=>Nat.beq i k||Nat.beq i d) ⟨sl,ob⟩).sl,(dF (λ i=>Nat.beq i k||Nat.beq i d) ⟨sl,ob⟩).ob⟩):a8 C o K ⟨sl,ob⟩:=by
 have hby':1≤ie.bytes:=Nat.succ_le_of_lt (by simpa using hby)
 have h1:(l0.length+l.length)*1≤(l0.length+l.length)*ie.bytes:=Nat.mul_le_mul_left _ hby'
 exact pw ho hd hn hi hik hie hj hjk hx hk hiz hy hY (λ y hy=>by obtain ⟨x,_,rfl⟩:=List.mem_map.1 hy; exact hsz x) h0 hzl (by rw [List.length_map,List.length_map]; exact hlen) (by rw [List.length_map,List.length_map]; omega) hty
  (by rw [← List.map_append]; exact hK)
end
section
variable {C:Cx} {x:Code} {Q:Exit→AS→Prop} {s:AS}
end
end Go.Ab
end
section
namespace Go.Ab
def V1:Nat:=900000
def m7 (tt:List (Nat×TI))(fn:Func)(ts ids:List Nat)(R:AV→List (Nat×List AV)→Prop)(e:Exit)(s:AS):Prop :=
 (e=.normal∨e=.ret)∧∃ l r obs obs',g7 tt fn.results.toList s=some l∧(kx l).mapA (hG ts)=some r∧fc s.ob ids=some obs∧fy (hG ts) obs=some obs'∧R r obs'
theorem sH {tt:List (Nat×TI)}{fn:Func}{ts ids:List Nat}{R:AV→List (Nat×List AV)→Prop}{s:AS}{l:List AV}{r:AV}{obs obs':List (Nat×List AV)}(h1:g7 tt fn.results.toList s=some l)(h2:(kx l).mapA (hG ts)=some r)
  (h3:fc s.ob ids=some obs) (h4:fy (hG ts) obs=some obs') (h5:R r obs'):m7 tt fn ts ids R .ret s:=⟨.inr rfl,l,r,obs,obs',h1,h2,h3,h4,h5⟩
theorem si {tt:List (Nat×TI)}{fn:Func}{ts ids:List Nat}{R:AV→List (Nat×List AV)→Prop}{s:AS}{l:List AV}{r:AV}{obs obs':List (Nat×List AV)}(h1:g7 tt fn.results.toList s=some l)(h2:(kx l).mapA (hG ts)=some r)
  (h3:fc s.ob ids=some obs) (h4:fy (hG ts) obs=some obs') (h5:R r obs'):m7 tt fn ts ids R .normal s:=⟨.inl rfl,l,r,obs,obs',h1,h2,h3,h4,h5⟩
theorem ud (ts ids:List Nat)(hts:ts.all (λ i=>Nat.blt i M1)=true)(hnd:nodupB ts=true){n:Nat}{w w':World}{g g1:Gh}{df:List Deferred}{gl:fM w g.st}{lo:∀ i b,g.ow i=some b→i < MZ}{s':AS}{a':Act}
  (hown:∀ i b,g.ow i=some b→b < w.heap.size∧i < 2*M1) (h3:St n ⟨w,g.st,g.ow,gl,lo,df⟩ (λ b=>b < w.heap.size∧∀ i,g.ow i≠some b) g1 s' a' w') {x r:AV} {v:Value} {obs1 obs':List (Nat×List AV)}
  (hvr:ARep w' g1 x v) (hr:x.mapA (hG ts)=some r) (hp:fc s'.ob ids=some obs1) (hm:fy (hG ts) obs1=some obs'):∃ g',ARep w' g' r v∧(∀ p∈obs',eH w' g' p.1 p.2)∧i6 w g w' g':=by
 have hown3:∀ i b,M1≤i→i < MZ→g1.ow i=some b→i < 2*M1:=by
  intro i b hi hz hb
  rw [h3.owf i hi hz] at hb
  exact (hown i b hb).2
 have hmap:∀ i j b,hG ts i=some j→g1.ow i=some b→(if 2*M1≤j then (ts[j - 2*M1]?).bind g1.ow else if M1≤j then g1.ow j else none)=some b:=by
  intro i j b hij hb
  unfold hG at hij
  cases hle:Nat.ble M1 i
  ·rw [hle] at hij
   simp only [cond_false] at hij
   split at hij
   ·rename_i k hk
    cases hij
    rw [if_pos (by omega),Nat.add_sub_cancel_left,eC hk]
    exact hb
   ·cases hij
  ·rw [hle] at hij
   simp only [cond_true] at hij
   cases hz:Nat.blt i MZ <;> rw [hz] at hij <;> simp only [cond_true,cond_false,Option.some.injEq,reduceCtorEq] at hij
   subst hij
   have h4:=Nat.le_of_ble_eq_true hle
   have h5:=hown3 i b h4 (Nat.blt_eq ▸ hz) hb
   rw [if_neg (by omega),if_pos h4]
   exact hb
 have hts':∀ (k t:Nat),ts[k]? = some t→t < M1:=by
  intro k t hk
  have:=List.all_eq_true.1 hts t (List.mem_of_getElem? hk)
  exact Nat.blt_eq ▸ this
 have inv:∀ j b,(if 2*M1≤j then (ts[j - 2*M1]?).bind g1.ow else if M1≤j then g1.ow j else none)=some b →
   (∃ t,ts[j - 2*M1]? = some t∧2*M1≤j∧g1.ow t=some b)∨(M1≤j∧j < 2*M1∧g1.ow j=some b):=by
  intro j b h
  by_cases e1:2*M1≤j
  ·rw [if_pos e1] at h
   obtain ⟨t,ht,hb⟩:=Option.bind_eq_some_iff.1 h
   exact .inl ⟨t,ht,e1,hb⟩
  ·rw [if_neg e1] at h
   by_cases e2:M1≤j
   ·rw [if_pos e2] at h; exact .inr ⟨e2,by omega,h⟩
   ·rw [if_neg e2] at h; cases h
 have hst0:(⟨g1.st,λ j=>if 2*M1≤j then (ts[j - 2*M1]?).bind g1.ow else if M1≤j then g1.ow j else none⟩:Gh).st=g1.st:=rfl
 refine ⟨⟨g1.st,λ j=>if 2*M1≤j then (ts[j - 2*M1]?).bind g1.ow else if M1≤j then g1.ow j else none⟩,fk hst0 hmap hvr hr,ip hst0 hmap hm (λ p hp'=>h3.ob p.1 p.2 (jU hp p hp')),?_⟩
 refine ⟨h3.os,h3.out,h3.tape,h3.size,λ b hb hno=>h3.fr b ⟨hb,hno⟩,λ i b hi=>?_,λ i j b hi hj=>?_,h3.lt,λ b hb hno=>h3.stf b ⟨hb,hno⟩,λ i h1 h2=>?_,h3.shf,h3.nst,h3.ev0⟩
 ·have key:∀ t,g1.ow t=some b→b < w'.heap.size∧(w.heap.size≤b∨∃ j,g.ow j=some b):=by
   intro t ht
   obtain ⟨k1,k2⟩:=h3.own t b ht
   refine ⟨k1,?_⟩
   by_cases hb:w.heap.size≤b
   ·exact .inl hb
   ·refine .inr ?_
    by_cases hex:∃ j,g.ow j=some b
    ·exact hex
    ·exact absurd ⟨by omega,λ i hi=>hex ⟨i,hi⟩⟩ k2
  rcases inv i b hi with ⟨t,_,_,ht⟩ | ⟨_,_,ht⟩
  ·exact key t ht
  ·exact key i ht
 ·rcases inv i b hi with ⟨t,a1,a2,a3⟩ | ⟨a1,a2,a3⟩ <;> rcases inv j b hj with ⟨u,b1,b2,b3⟩ | ⟨b1,b2,b3⟩
  ·have:=h3.inj t u b a3 b3
   subst this
   have:=dT hnd _ _ _ a1 b1
   omega
  ·have:=h3.inj t j b a3 b3
   have:=hts' _ t a1
   omega
  ·have:=h3.inj i u b a3 b3
   have:=hts' _ u b1
   omega
  ·exact h3.inj i j b a3 b3
 ·dsimp only
  rw [if_neg (by omega),if_pos h1]
  exact h3.owf i h1 (Nat.lt_of_lt_of_le h2 rX)
theorem nD {P:Program}{tt:List (Nat×TI)}(good:ce P tt){fn:Func}{c:Code}{args:List AV}{obs:List (Nat×List AV)}{R:AV→List (Nat×List AV)→Prop}(ts ids:List Nat)(hn:args.length≤fn.ntmps)(hnl:Nat.ble fn.ntmps M1=true)(hts:ts.all (λ i=>Nat.blt i M1)=true)(hnd:nodupB ts=true)
  (h:∀ w0 F,awp ⟨P,tt,good,fn.ntmps,hnl,w0,F⟩ c (m7 tt fn ts ids R) ⟨dV args,obs⟩) {w:World} {g:Gh} {vs:Array Value} (hlt:Ok0 w g.st) (hown:∀ i b,g.ow i=some b→b < w.heap.size∧i < 2*M1)
  (hinj:∀ i j b,g.ow i=some b→g.ow j=some b→i=j) (hnst:∀ i b,M1≤i→g.ow i=some b→∀ o,¬ g.st b o) (h1:vs.size=args.length)
  (h2:∀ (i:Nat) c v,args[i]? = some c→vs[i]? = some v→ARep w g c v) (hobs:∀ id cs,look obs id=some cs→eH w g id cs) :
  c.wp P (bodyPost P fn λ e w'=>∃ v r obs' g',e=.returned v∧R r obs'∧ARep w' g' r v∧(∀ p∈obs',eH w' g' p.1 p.2)∧i6 w g w' g') { tmps:=vs++Array.replicate (fn.ntmps - vs.size) Go.undef,defers:=[] } w:=by
 have hs:St fn.ntmps ⟨w,g.st,g.ow,hlt.gl,(λ i b h=>Nat.lt_of_lt_of_le (hown i b h).2 rX),[]⟩ (λ b=>b < w.heap.size∧∀ i,g.ow i≠some b) g ⟨dV args,obs⟩ { tmps:=vs++Array.replicate (fn.ntmps - vs.size) Go.undef,defers:=[] } w:=by
  refine ⟨rfl,?_,?_,hobs,hinj,?_,hlt.lt,?_,?_,rfl,rfl,rfl,Nat.le_refl _,λ b _ o=>Iff.rfl,λ _ _ _=>rfl,eZ.refl _ _,λ i b hi h=>hnst i b hi h,Ev.refl _ _⟩
  ·simp only [Array.size_append,Array.size_replicate]; omega
  ·intro i
   have:=iq args 0 i
   simp only [AS.get,dV,this,Nat.zero_le,if_true,Nat.sub_zero]
   cases ha:args[i]? with
   | none=>exact .undef _
   | some x =>
    have hi:i < args.length:=(List.getElem?_eq_some_iff.1 ha).1
    have hi2:i < vs.size:=by omega
    have e:(vs++Array.replicate (fn.ntmps - vs.size) Go.undef).getD i Go.undef=vs[i]:=by
     simp [Array.getD_eq_getD_getElem?,Array.getElem?_append,hi2]
    simp only [Option.getD_some]
    rw [e]
    exact h2 i x _ ha (Array.getElem?_eq_getElem hi2)
  ·intro i b hi; exact ⟨(hown i b hi).1,λ h=>h.2 i hi⟩
  ·intro b h; exact h.1
  ·intro b h; rfl
 refine wp_mono (h ⟨w,g.st,g.ow,hlt.gl,(λ i b h=>Nat.lt_of_lt_of_le (hown i b h).2 rX),[]⟩ _ g _ w hs) ?_
 rintro e a' w' ⟨g1,s',h3,he,l,r,obs1,obs',hl,hr,hp,hm,hR⟩
 obtain ⟨v,hv,hvr⟩:=gJ good h3 fn l hl
 obtain ⟨g',e1,e2,e3⟩:=ud ts ids hts hnd hown h3 hvr hr hp hm
 rcases he with rfl | rfl
 ·exact ⟨h3.nd,v,hv,v,r,obs',g',rfl,hR,e1,e2,e3⟩
 ·exact ⟨h3.nd,v,hv,v,r,obs',g',rfl,hR,e1,e2,e3⟩
theorem kB {P:Program}{tt:List (Nat×TI)}(good:ce P tt){f:FuncId}{fn:Func}{c:Code}{args:List AV}{obs:List (Nat×List AV)}{R:AV→List (Nat×List AV)→Prop}(ts ids:List Nat)(hf:P.funcs[f]? = some fn)(hb:fn.body=some c)
  (hn:args.length≤fn.ntmps) (hnl:Nat.ble fn.ntmps M1=true) (hts:ts.all (λ i=>Nat.blt i M1)=true) (hnd:nodupB ts=true)
  (h:∀ w0 F,awp ⟨P,tt,good,fn.ntmps,hnl,w0,F⟩ c (m7 tt fn ts ids R) ⟨dV args,obs⟩):dx P f args obs R:=λ _ _ _ k1 k2 k3 k4 k5 k6 k7=>calls_of_wp hf hb (nD good ts ids hn hnl hts hnd h k1 k2 k3 k4 k5 k6 k7)
theorem mY {w:World}{g:Gh}{id:Nat}{cs ds:List AV}(h:eH w g id ds)(hs:pS cs ds):eH w g id cs:=by
 obtain ⟨k1,k2⟩:=ef hs
 obtain ⟨b,c,e,n1,n2,n3,n4,n5⟩:=h
 refine ⟨b,c,e,n1,n2,by omega,n4,λ i x hx=>?_⟩
 have hi:i < ds.length:=by have:=(List.getElem?_eq_some_iff.1 hx).1; omega
 obtain ⟨v,hv,hr⟩:=n5 i ds[i] (List.getElem?_eq_getElem hi)
 exact ⟨v,hv,k2 i x _ hx (List.getElem?_eq_getElem hi) _ _ _ hr⟩
theorem qC {s:List (Nat×List AV)}:∀ {t:List (Nat×List AV)},leO s t→∀ p∈t,∃ ds,look s p.1=some ds∧pS p.2 ds
 | [],_,p,hp=>by simp at hp
 | (j,cs)::r,h,p,hp=>by
  rcases List.mem_cons.1 hp with rfl | hp
  ·exact h.1
  ·exact qC h.2 p hp
theorem dx.of_sub {P:Program}{f:FuncId}{args:List AV}{obs rob:List (Nat×List AV)}{r:AV}(h:dx P f args obs (λ x y=>x.sub r∧leO y rob)):dx P f args obs (λ x y=>x=r∧y=rob) :=
 λ w g vs h1 h2 h3 h4 h5 h6 h7=>(h w g vs h1 h2 h3 h4 h5 h6 h7).mono λ e w' ⟨v,x,obs',g',k1,⟨k2,k3⟩,k4,k5,k6⟩ =>
  ⟨v,r,rob,g',k1,⟨rfl,rfl⟩,k2 _ _ _ k4,λ p hp=>by
   obtain ⟨ds,m1,m2⟩:=qC k3 p hp
   exact mY (k5 (p.1,ds) (dP m1)) m2,k6⟩
theorem u6 {P:Program}{tt:List (Nat×TI)}(good:ce P tt){f:FuncId}{fn:Func}{c:Code}{args:List AV}{obs rob:List (Nat×List AV)}{r:AV}(ts ids:List Nat)(hf:P.funcs[f]? = some fn)(hb:fn.body=some c)
  (hn:Nat.ble args.length fn.ntmps=true) (hnl:Nat.ble fn.ntmps M1=true) (hts:ts.all (λ i=>Nat.blt i M1)=true) (hnd:nodupB ts=true)
  (h:∀ w0 F,awp ⟨P,tt,good,fn.ntmps,hnl,w0,F⟩ c (m7 tt fn ts ids (λ x y=>x.sub r∧leO y rob)) ⟨dV args,obs⟩):dx P f args obs (λ x y=>x=r∧y=rob) :=
 dx.of_sub (kB good ts ids hf hb (Nat.le_of_ble_eq_true hn) hnl hts hnd h)
def j6 (ids vids:List Nat)(i:Nat):Option Nat:=match ids.findIdx? (Nat.beq i) with
 | some k=>some (M1+k)
 | none=>match vids.findIdx? (Nat.beq i) with
  | some k=>some (V1+k)
  | none=>none
def mw (NB NE i:Nat):Bool:=Nat.ble NB i&&Nat.blt i NE
def dB (vids:List Nat)(NB NE i:Nat):Bool:=mw NB NE i||vids.any (Nat.beq i)
section
variable {C:Cx} {o:Oper} {K:AS→Prop} {sl:List (Nat×AV)} {ob:List (Nat×List AV)} {d:Nat}
theorem pn (ids vids:List Nat)(NB NE:Nat){l l' q:List AV}{obs obs0 qo:List (Nat×List AV)}(hl':AV.mapA.go (j6 ids vids) l=some l')(hq:iS l' q)(hpk:fc ob ids=some obs)(hmo:fy (j6 ids vids) obs=some obs0)(hqo:leO obs0 qo)
  (hnd:nodupB ids=true) (hids:ids.all (λ i=>Nat.blt i (2*M1))=true) (hil:Nat.ble ids.length M1=true) (hdl:Nat.ble NE M1=true) (hdis:ids.all (λ i=>!(dB vids NB NE i))=true)
  (hvd:nodupB vids=true) (hvl:vids.all (λ i=>Nat.blt i M1)=true) (hvn:Nat.ble vids.length 100000=true)
  {g:Gh} {a:Act} {w:World} (hs:St C.n C.w0 C.F g ⟨sl,ob⟩ a w) {avs:Array Value} (a1:avs.size=l.length) (a2:∀ (i:Nat) c v,l[i]? = some c→avs[i]? = some v→ARep w g c v) :
  ∃ gc:Gh,(Ok0 w gc.st∧(∀ i b,gc.ow i=some b→b < w.heap.size∧i < 2*M1)∧(∀ i j b,gc.ow i=some b→gc.ow j=some b→i=j)∧(∀ i b,M1≤i→gc.ow i=some b→∀ o,¬ gc.st b o)∧avs.size=q.length ∧
   (∀ (i:Nat) c v,q[i]? = some c→avs[i]? = some v→ARep w gc c v)∧(∀ id cs,look qo id=some cs→eH w gc id cs)) ∧
   ∀ (w':World) (v:Value) (r r':AV) (obs' ob':List (Nat×List AV)) (g':Gh),ARep w' g' r v→(∀ p∈obs',eH w' g' p.1 p.2)→i6 w gc w' g'→r.mapA (jv ids NB NE)=some r'→fy (jv ids NB NE) obs'=some ob' →
    ∃ g2,St C.n C.w0 C.F g2 ⟨(dF (dB vids NB NE) ⟨sl,ob⟩).sl,ob'++(dF (dB vids NB NE) ⟨sl,ob.filter λ p=>!(ids.any (Nat.beq p.1))⟩).ob⟩ a w'∧ARep w' g2 r' v:=by
 have hidl:∀ (k i:Nat),ids[k]? = some i→i < 2*M1:=λ k i h=>by
  have:=List.all_eq_true.1 hids i (List.mem_of_getElem? h)
  exact Nat.blt_eq ▸ this
 have hvll:∀ (k i:Nat),vids[k]? = some i→i < M1:=λ k i h=>by
  have:=List.all_eq_true.1 hvl i (List.mem_of_getElem? h)
  exact Nat.blt_eq ▸ this
 have hidD:∀ (k i:Nat),ids[k]? = some i→dB vids NB NE i=false:=λ k i h=>by
  have:=List.all_eq_true.1 hdis i (List.mem_of_getElem? h)
  simpa only [Bool.not_eq_true'] using this
 have hDn:∀ i,mw NB NE i=true→NB≤i∧i < NE:=λ i h=>by
  unfold mw at h
  simp only [Bool.and_eq_true] at h
  exact ⟨Nat.le_of_ble_eq_true h.1,Nat.blt_eq ▸ h.2⟩
 have hDv:∀ i,vids.any (Nat.beq i)=true→∃ k,vids[k]? = some i:=λ i h=>by
  obtain ⟨x,hx,he⟩:=List.any_eq_true.1 h
  have:=Nat.eq_of_beq_eq_true he
  subst this
  exact List.mem_iff_getElem?.1 hx
 have hvD:∀ (k i:Nat),vids[k]? = some i→vids.any (Nat.beq i)=true:=λ k i h=>List.any_eq_true.2 ⟨i,List.mem_of_getElem? h,by simp⟩
 have hsplit:∀ i,dB vids NB NE i=false→mw NB NE i=false∧vids.any (Nat.beq i)=false:=λ i h=>by
  unfold dB at h
  simpa only [Bool.or_eq_false_iff] using h
 have hdl':=Nat.le_of_ble_eq_true hdl
 have hil':=Nat.le_of_ble_eq_true hil
 have hvn':=Nat.le_of_ble_eq_true hvn
 have hV1:V1+100000=M1:=rfl
 obtain ⟨gc,hgc⟩:∃ gc:Gh,gc=⟨g.st,λ j=>if M1≤j then (ids[j - M1]?).bind g.ow else if V1≤j then (vids[j - V1]?).bind g.ow else none⟩:=⟨_,rfl⟩
 have hgst:gc.st=g.st:=by rw [hgc]
 have gcinv:∀ j b,gc.ow j=some b→∃ i,g.ow i=some b∧((ids[j - M1]? = some i∧M1≤j∧j < 2*M1)∨(vids[j - V1]? = some i∧V1≤j∧j < M1)):=by
  intro j b h
  rw [hgc] at h
  dsimp only at h
  by_cases e:M1≤j
  ·rw [if_pos e] at h
   obtain ⟨i,h1,h2⟩:=Option.bind_eq_some_iff.1 h
   have:=(List.getElem?_eq_some_iff.1 h1).1
   exact ⟨i,h2,.inl ⟨h1,e,by omega⟩⟩
  ·rw [if_neg e] at h
   by_cases e2:V1≤j
   ·rw [if_pos e2] at h
    obtain ⟨i,h1,h2⟩:=Option.bind_eq_some_iff.1 h
    exact ⟨i,h2,.inr ⟨h1,e2,by omega⟩⟩
   ·rw [if_neg e2] at h; cases h
 have hpm:∀ i j b,j6 ids vids i=some j→g.ow i=some b→gc.ow j=some b:=by
  intro i j b h hb
  unfold j6 at h
  split at h
  ·rename_i k hk
   cases h
   rw [hgc]
   dsimp only
   rw [if_pos (by omega),Nat.add_sub_cancel_left,eC hk]
   exact hb
  ·split at h
   ·rename_i k hk
    cases h
    have hkl:=(List.getElem?_eq_some_iff.1 (eC hk)).1
    rw [hgc]
    dsimp only
    rw [if_neg (by omega),if_pos (by omega),Nat.add_sub_cancel_left,eC hk]
    exact hb
   ·cases h
 have hidob:∀ (k i:Nat),ids[k]? = some i→∃ cs,look ob i=some cs:=by
  have:∀ (ids:List Nat) (obs:List (Nat×List AV)),fc ob ids=some obs→∀ (k i:Nat),ids[k]? = some i→∃ cs,look ob i=some cs:=by
   intro ids
   induction ids with
   | nil=>intro obs _ k i h; simp at h
   | cons x r ih =>
    intro obs h k i hk
    simp only [fc] at h
    split at h
    ·rename_i cs l0 h1 h2
     cases k with
     | zero=>simp only [List.getElem?_cons_zero,Option.some.injEq] at hk; subst hk; exact ⟨cs,h1⟩
     | succ k=>simp only [List.getElem?_cons_succ] at hk; exact ih l0 h2 k i hk
    ·cases h
  exact this ids obs hpk
 have hnst:∀ j b,M1≤j→gc.ow j=some b→∀ o,¬ g.st b o:=by
  intro j b hj h o ho
  obtain ⟨i,h4,⟨h1,_,_⟩ | ⟨_,_,h3⟩⟩:=gcinv j b h
  ·obtain ⟨cs,hcs⟩:=hidob _ i h1
   obtain ⟨b',c,e,k1,_,_,k4,_⟩:=hs.ob i cs hcs
   rw [h4] at k1; cases k1
   exact k4 o ho
  ·omega
 obtain ⟨m1,m2⟩:=iC hl'
 obtain ⟨b1,b2⟩:=fJ hq
 have hargs:∀ (i:Nat) c v,q[i]? = some c→avs[i]? = some v→ARep w gc c v:=by
  intro i c v hc hv
  have hi':i < l'.length:=by have:=(List.getElem?_eq_some_iff.1 hc).1; omega
  have hi:i < l.length:=by omega
  have h1:=a2 i _ v (List.getElem?_eq_getElem hi) hv
  have h2:=fk hgst hpm h1 (m2 i _ _ (List.getElem?_eq_getElem hi) (List.getElem?_eq_getElem hi'))
  exact b2 i _ c (List.getElem?_eq_getElem hi') hc w gc v h2
 have hobs0:=ip hgst hpm hmo (λ p hp=>hs.ob p.1 p.2 (jU hpk p hp))
 have hqo':∀ id cs,look qo id=some cs→eH w gc id cs:=by
  intro id cs h
  obtain ⟨ds,h1,h2⟩:=lS hqo id cs h
  exact mY (hobs0 (id,ds) (dP h1)) h2
 have hpre:∀ {Z:Prop},(Ok0 w gc.st→(∀ i b,gc.ow i=some b→b < w.heap.size∧i < 2*M1)→(∀ i j b,gc.ow i=some b→gc.ow j=some b→i=j)→(∀ i b,M1≤i→gc.ow i=some b→∀ o,¬ gc.st b o)→avs.size=q.length→(∀ (i:Nat) c v,q[i]? = some c→avs[i]? = some v→ARep w gc c v)→(∀ id cs,look qo id=some cs→eH w gc id cs)→Z)→Z:=λ k=>k (by rw [hgst]; exact hs.ok0) (λ j b h=>by
   obtain ⟨i,h4,⟨_,_,h3⟩ | ⟨_,_,h3⟩⟩:=gcinv j b h
   ·exact ⟨(hs.own i b h4).1,h3⟩
   ·exact ⟨(hs.own i b h4).1,by omega⟩) (λ i j b h1 h2=>by
   obtain ⟨i',p3,p⟩:=gcinv i b h1
   obtain ⟨j',q3,q⟩:=gcinv j b h2
   have:=hs.inj i' j' b p3 q3
   subst this
   rcases p with ⟨p1,p2,_⟩ | ⟨p1,p2,p4⟩ <;> rcases q with ⟨q1,q2,_⟩ | ⟨q1,q2,q4⟩
   ·have:=dT hnd _ _ _ p1 q1; omega
   ·have h5:=(hsplit _ (hidD _ _ p1)).2
    rw [hvD _ _ q1] at h5; cases h5
   ·have h5:=(hsplit _ (hidD _ _ q1)).2
    rw [hvD _ _ p1] at h5; cases h5
   ·have:=dT hvd _ _ _ p1 q1; omega) (λ j b hj h=>by rw [hgst]; exact hnst j b hj h) (a1.trans (m1.trans b1)) hargs hqo'
 refine ⟨gc,hpre λ k1 k2 k3 k4 k5 k6 k7=>⟨k1,k2,k3,k4,k5,k6,k7⟩,λ w' v r r' obs' ob' g' hr hob' hA hr' hmo'=>?_⟩
 have nogc:∀ i b,(∀ (k:Nat),ids[k]?≠some i)→(∀ (k:Nat),vids[k]?≠some i)→g.ow i=some b→∀ j,gc.ow j≠some b:=by
  intro i b hi hv hb j hj
  obtain ⟨i',p3,p⟩:=gcinv j b hj
  have:=hs.inj i i' b hb p3
  subst this
  rcases p with ⟨p1,_⟩ | ⟨p1,_⟩
  ·exact hi _ p1
  ·exact hv _ p1
 obtain ⟨g2,hg2⟩:∃ g2:Gh,g2=⟨g'.st,λ i=>if mw NB NE i=true then g'.ow (2*M1+(i - NB)) else if vids.any (Nat.beq i)=true then none else g.ow i⟩:=⟨_,rfl⟩
 have hg2st:g2.st=g'.st:=by rw [hg2]
 have g2old:∀ i,dB vids NB NE i=false→g2.ow i=g.ow i:=λ i h=>by
  obtain ⟨h1,h2⟩:=hsplit i h
  rw [hg2]; simp only [h1,h2,Bool.false_eq_true,if_false]
 have g2new:∀ i,mw NB NE i=true→g2.ow i=g'.ow (2*M1+(i - NB)):=λ i h=>by rw [hg2]; simp only [h,if_true]
 have g2cases:∀ i b,g2.ow i=some b→(mw NB NE i=true∧g'.ow (2*M1+(i - NB))=some b)∨(dB vids NB NE i=false∧g.ow i=some b):=by
  intro i b h
  cases h1:mw NB NE i
  ·cases h2:vids.any (Nat.beq i)
   ·have h3:dB vids NB NE i=false:=by unfold dB; rw [h1,h2]; rfl
    exact .inr ⟨h3,by rw [← g2old i h3]; exact h⟩
   ·rw [hg2] at h; simp only [h1,h2,Bool.false_eq_true,if_false,if_true] at h; cases h
  ·exact .inl ⟨rfl,by rw [← g2new i h1]; exact h⟩
 have hDM:∀ i,M1≤i→dB vids NB NE i=false:=λ i hi=>by
  cases hq:dB vids NB NE i
  ·rfl
  ·unfold dB at hq
   simp only [Bool.or_eq_true] at hq
   rcases hq with hq | hq
   ·exact absurd (Nat.lt_of_lt_of_le (Nat.lt_of_lt_of_le (hDn i hq).2 hdl') hi) (Nat.lt_irrefl _)
   ·obtain ⟨k,hk⟩:=hDv i hq
    exact absurd (Nat.lt_of_lt_of_le (hvll k i hk) hi) (Nat.lt_irrefl _)
 have hbm:∀ j i b,jv ids NB NE j=some i→g'.ow j=some b→g2.ow i=some b:=by
  intro j i b h hb
  rcases pD h with ⟨k,rfl,rfl,h4⟩ | ⟨h3,h4,h5⟩
  ·rw [g2new (NB+k) (by
    unfold mw
    simp only [Bool.and_eq_true]
    exact ⟨Nat.ble_eq_true_of_le (Nat.le_add_right _ _),by rw [Nat.blt_eq]; exact h4⟩),Nat.add_sub_cancel_left]
   exact hb
  ·rw [g2old i (hidD _ i h5)]
   rw [hA.owf j h3 h4] at hb
   obtain ⟨i',p3,⟨p1,_,_⟩ | ⟨_,_,p5⟩⟩:=gcinv j b hb
   ·rw [h5] at p1; cases p1
    exact p3
   ·omega
 have hE:EvO (dB vids NB NE) w g w' g2:=by
  refine ⟨by rw [hg2st]; have:=hA.ev; rw [hgst] at this; exact this,λ id b hq h=>by rw [g2old id hq]; exact h,λ id b c e hq h0 h=>?shape,λ id b o hq h ho=>?_,λ id b es k hq h0 h=>?mpc,λ i hi=>hDM i (p8 hi),λ id b o hq h0 ho=>?stb⟩
  case stb =>
   have hlt:=(hs.own id b h0).1
   by_cases hno:∃ j,gc.ow j=some b
   ·obtain ⟨j,hj⟩:=hno
    obtain ⟨i',p3,⟨p1,_,_⟩ | ⟨p1,_,_⟩⟩:=gcinv j b hj
    ·obtain ⟨cs,hcs⟩:=hidob _ i' p1
     obtain ⟨b',c,e,k1,k2,_,k4,_⟩:=hs.ob i' cs hcs
     rw [p3] at k1; cases k1
     exact absurd ho (k4 o)
    ·have:=hs.inj id i' b h0 p3
     subst this
     have h5:=(hsplit _ hq).2
     rw [hvD _ _ p1] at h5; cases h5
   ·exact hA.fr b hlt (λ j hj=>hno ⟨j,hj⟩)
  case mpc =>
   have hlt:=(hs.own id b h0).1
   by_cases hno:∃ j,gc.ow j=some b
   ·obtain ⟨j,hj⟩:=hno
    obtain ⟨i',p3,⟨p1,_,_⟩ | ⟨p1,_,_⟩⟩:=gcinv j b hj
    ·obtain ⟨cs,hcs⟩:=hidob _ i' p1
     obtain ⟨b',c,e,k1,k2,_⟩:=hs.ob i' cs hcs
     rw [p3] at k1; cases k1
     rw [k2] at h; cases h
    ·have:=hs.inj id i' b h0 p3
     subst this
     have h5:=(hsplit _ hq).2
     rw [hvD _ _ p1] at h5; cases h5
   ·exact (hA.fr b hlt (λ j hj=>hno ⟨j,hj⟩)).trans h
  case shape =>
   have hlt:=(hs.own id b h0).1
   by_cases hno:∃ j,gc.ow j=some b
   ·obtain ⟨j,hj⟩:=hno
    obtain ⟨i',p3,⟨_,p2,_⟩ | ⟨p1,_,_⟩⟩:=gcinv j b hj
    ·exact hA.sh j b c e p2 hj h
    ·have:=hs.inj id i' b h0 p3
     subst this
     have h5:=(hsplit _ hq).2
     rw [hvD _ _ p1] at h5; cases h5
   ·exact ⟨c,(hA.fr b hlt (λ j hj=>hno ⟨j,hj⟩)).trans h,rfl⟩
  rw [hg2st] at ho
  have hlt:=(hs.own id b h).1
  by_cases hno:∃ j,gc.ow j=some b
  ·obtain ⟨j,hj⟩:=hno
   obtain ⟨i',p3,⟨_,p2,_⟩ | ⟨p1,_,_⟩⟩:=gcinv j b hj
   ·exact absurd ho (hA.nst j b p2 hj o)
   ·have:=hs.inj id i' b h p3
    subst this
    have h5:=(hsplit _ hq).2
    rw [hvD _ _ p1] at h5; cases h5
  ·have:=(hA.stf b hlt (λ j hj=>hno ⟨j,hj⟩) o).1 ho
   rw [hgst] at this; exact this
 have hs':St C.n C.w0 C.F g2 ⟨(dF (dB vids NB NE) ⟨sl,ob⟩).sl,ob'++(dF (dB vids NB NE) ⟨sl,ob.filter λ p=>!(ids.any (Nat.beq p.1))⟩).ob⟩ a w':=by
  refine ⟨hs.nd,hs.sz,λ i=>?_,λ id cs h=>?_,λ i j b h1 h2=>?_,λ i b h=>?_,by rw [hg2st]; exact hA.lt,hs.fl,λ b h=>?_,hA.os.trans hs.os,hA.out.trans hs.out,hA.tape.trans hs.tape,Nat.le_trans hs.size hA.size,λ b h o=>?_,λ i h hz=>?_,hs.shf.next (λ i b c e hi hb h=>hE.shape i b c e (hDM i hi) ((hs.owf i hi (C.w0.lo i b hb)).trans hb) h),λ i b h1 h2 o h3=>?_,hs.ev0.trans hE.ev⟩
  ·have h:=(hs.sl i).dem hE
   simp only [AS.get,dF,fT]
   simp only [AS.get] at h
   cases hl:look sl i with
   | none=>simp only [Option.map_none,Option.getD_none]; exact .undef _
   | some x=>rw [hl] at h; simpa using h
  ·dsimp only at h
   rw [dN] at h
   split at h
   ·rename_i x hx
    cases h
    exact ip hg2st hbm hmo' hob' (id,cs) (dP hx)
   ·have hf1:=fm (dB vids NB NE) (ob.filter λ p=>!(ids.any (Nat.beq p.1))) id
    simp only [dF,fT] at h
    rw [hf1] at h
    cases hDi:dB vids NB NE id
    ·simp only [hDi,Bool.false_eq_true,if_false,Option.map_eq_some_iff] at h
     have hf:=fm (λ i=>ids.any (Nat.beq i)) ob id
     rw [hf] at h
     cases hany:ids.any (Nat.beq id)
     ·rw [hany] at h
      simp only [Bool.false_eq_true,if_false] at h
      obtain ⟨ds,h1,rfl⟩:=h
      have hni:∀ (k:Nat),ids[k]?≠some id:=λ k hk=>by
       rw [List.any_eq_false] at hany
       exact hany id (List.mem_of_getElem? hk) (by simp)
      have hnv:∀ (k:Nat),vids[k]?≠some id:=λ k hk=>by
       have h5:=(hsplit _ hDi).2
       rw [hvD _ _ hk] at h5; cases h5
      obtain ⟨b,c,e,k1,k2,k3,k4,k5⟩:=hs.ob id ds h1
      have hlt:=(hs.own id b k1).1
      have hno:=nogc id b hni hnv k1
      refine ⟨b,c,e,by rw [g2old id hDi]; exact k1,(hA.fr b hlt hno).trans k2,by simpa [ea] using k3,λ o ho=>?_,λ i x hx=>?_⟩
      ·rw [hg2st] at ho
       have:=(hA.stf b hlt hno o).1 ho
       rw [hgst] at this; exact k4 o this
      ·simp only [ea,List.getElem?_map,Option.map_eq_some_iff] at hx
       obtain ⟨y,hy,rfl⟩:=hx
       obtain ⟨v,hv,hr⟩:=k5 i y hy
       exact ⟨v,hv,hr.dem hE⟩
     ·rw [hany] at h; simp at h
    ·simp [hDi] at h
  ·have cross:∀ i j b,mw NB NE i=true→g'.ow (2*M1+(i - NB))=some b→dB vids NB NE j=false→g.ow j=some b→False:=by
    intro i j b hi h1 hj h2
    have hlt:=(hs.own j b h2).1
    rcases (hA.own _ b h1).2 with h3 | ⟨j',hj'⟩
    ·omega
    ·obtain ⟨i',p3,⟨p1,p2,p4⟩ | ⟨p1,_,_⟩⟩:=gcinv j' b hj'
     ·have h4:=hA.owf j' p2 p4
      rw [hj'] at h4
      have:=hA.inj _ _ b h1 h4
      omega
     ·have:=hs.inj j i' b h2 p3
      subst this
      have h5:=(hsplit _ hj).2
      rw [hvD _ _ p1] at h5; cases h5
   rcases g2cases i b h1 with ⟨x1,x2⟩ | ⟨x1,x2⟩ <;> rcases g2cases j b h2 with ⟨y1,y2⟩ | ⟨y1,y2⟩
   ·have:=hA.inj _ _ b x2 y2
    have:=hDn i x1
    have:=hDn j y1
    omega
   ·exact (cross i j b x1 x2 y1 y2).elim
   ·exact (cross j i b y1 y2 x1 x2).elim
   ·exact hs.inj i j b x2 y2
  ·rcases g2cases i b h with ⟨x1,x2⟩ | ⟨x1,x2⟩
   ·obtain ⟨k1,k2⟩:=hA.own _ b x2
    refine ⟨k1,λ hF=>?_⟩
    rcases k2 with k2 | ⟨j,hj⟩
    ·have:=hs.fl b hF; have:=hs.size; omega
    ·obtain ⟨i',p3,_⟩:=gcinv j b hj
     exact (hs.own i' b p3).2 hF
   ·have:=hs.own i b x2
    have:=hA.size
    exact ⟨by omega,(hs.own i b x2).2⟩
  ·have hlt:b < w.heap.size:=by have:=hs.fl b h; have:=hs.size; omega
   exact (hA.fr b hlt λ j hj=>by
    obtain ⟨i',p3,_⟩:=gcinv j b hj
    exact (hs.own i' b p3).2 h).trans (hs.fr b h)
  ·have hlt:b < w.heap.size:=by have:=hs.fl b h; have:=hs.size; omega
   rw [hg2st]
   have:=hA.stf b hlt (λ j hj=>by
    obtain ⟨i',p3,_⟩:=gcinv j b hj
    exact (hs.own i' b p3).2 h) o
   rw [hgst] at this
   exact this.trans (hs.stf b h o)
  ·rw [g2old i (hDM i h)]; exact hs.owf i h hz
  ·rw [hg2st] at h3
   have h4:g.ow i=some b:=(hs.owf i h1 (C.w0.lo i b h2)).trans h2
   have hlt:=(hs.own i b h4).1
   by_cases hin:∃ k:Nat,ids[k]? = some i
   ·obtain ⟨k,hk⟩:=hin
    have hj:gc.ow (M1+k)=some b:=by
     rw [hgc]; dsimp only; rw [if_pos (by omega),Nat.add_sub_cancel_left,hk]; exact h4
    exact hA.nst (M1+k) b (by omega) hj o h3
   have hno:=nogc i b (λ k hk=>hin ⟨k,hk⟩) (λ k hk=>by have:=hvll k i hk; omega) h4
   have:=(hA.stf b hlt hno o).1 h3
   rw [hgst] at this
   exact hs.nst i b h1 h2 o this
 exact ⟨g2,hs',fk hg2st hbm hr hr'⟩
theorem ry (ids vids:List Nat)(NB NE:Nat){f:FuncId}{l l' q:List AV}{obs obs0 qo:List (Nat×List AV)}{R:AV→List (Nat×List AV)→Prop}(hc:dx C.P f q qo R)
  (hen:∀ g a w,St C.n C.w0 C.F g ⟨sl,ob⟩ a w→∃ vs:Array Value,(execOp a.eval o).run C.P w=.ok (.enter f vs) w∧vs.size=l.length∧∀ (i:Nat) c v,l[i]? = some c→vs[i]? = some v→ARep w g c v)
  (hd:o.dst=some d) (hn:Nat.blt d C.n=true) (hl':AV.mapA.go (j6 ids vids) l=some l') (hq:iS l' q) (hpk:fc ob ids=some obs) (hmo:fy (j6 ids vids) obs=some obs0) (hqo:leO obs0 qo)
  (hnd:nodupB ids=true) (hids:ids.all (λ i=>Nat.blt i (2*M1))=true) (hil:Nat.ble ids.length M1=true) (hdl:Nat.ble NE M1=true) (hdis:ids.all (λ i=>!(dB vids NB NE i))=true)
  (hvd:nodupB vids=true) (hvl:vids.all (λ i=>Nat.blt i M1)=true) (hvn:Nat.ble vids.length 100000=true)
  (hK:∀ r obs',R r obs'→∃ r' ob',r.mapA (jv ids NB NE)=some r'∧fy (jv ids NB NE) obs'=some ob' ∧
   K ⟨(d,r')::(dF (dB vids NB NE) ⟨sl,ob⟩).sl,ob'++(dF (dB vids NB NE) ⟨sl,ob.filter λ p=>!(ids.any (Nat.beq p.1))⟩).ob⟩):a8 C o K ⟨sl,ob⟩:=by
 intro g a w hs
 obtain ⟨avs,hrun,a1,a2⟩:=hen g a w hs
 obtain ⟨gc,⟨k1,k2,k3,k4,k5,k6,k7⟩,hpost⟩:=pn ids vids NB NE hl' hq hpk hmo hqo hnd hids hil hdl hdis hvd hvl hvn hs a1 a2
 unfold Oper.wp
 rw [hrun]
 simp only [Oper.upon]
 refine (hc w gc avs k1 k2 k3 k4 k5 k6 k7).mono λ e w' ⟨v,r,obs',g',he,hR,hr,hob',hA⟩=>?_
 subst he
 obtain ⟨r',ob',hr',hmo',hK'⟩:=hK r obs' hR
 obtain ⟨g2,hs',hrep⟩:=hpost w' v r r' obs' ob' g' hr hob' hA hr' hmo'
 have hp:=hs'.put (d:=o.dst) (λ t ht=>by rw [hd] at ht; cases ht; exact Nat.blt_eq ▸ hn) hrep
 rw [hd] at hp
 simp only
 rw [hd]
 exact ⟨_,_,hp,hK'⟩
theorem bz (ids vids:List Nat)(NB NE:Nat){f:FuncId}{args:Array Operand}{ts:Array TypeId}{l l' q:List AV}{obs obs0 qo rob ob':List (Nat×List AV)}{r r':AV}(hc:dx C.P f q qo (λ x y=>x=r∧y=rob))(ho:o.op=.call { callee:=.value (.func f),args:=args,argTypes:=ts })
  (hd:o.dst=some d) (hn:Nat.blt d C.n=true) (hl:fG sl args.toList=some l) (hl':AV.mapA.go (j6 ids vids) l=some l') (hq:iS l' q) (hpk:fc ob ids=some obs) (hmo:fy (j6 ids vids) obs=some obs0) (hqo:leO obs0 qo)
  (hnd:nodupB ids=true) (hids:ids.all (λ i=>Nat.blt i (2*M1))=true) (hil:Nat.ble ids.length M1=true) (hdl:Nat.ble NE M1=true) (hdis:ids.all (λ i=>!(dB vids NB NE i))=true)
  (hvd:nodupB vids=true) (hvl:vids.all (λ i=>Nat.blt i M1)=true) (hvn:Nat.ble vids.length 100000=true)
  (henter:∀ vs w,(callFunc f vs).run C.P w=.ok (.enter f vs) w) (hr:r.mapA (jv ids NB NE)=some r') (hob:fy (jv ids NB NE) rob=some ob')
  (hK:K ⟨(d,r')::(dF (dB vids NB NE) ⟨sl,ob⟩).sl,ob'++(dF (dB vids NB NE) ⟨sl,ob.filter λ p=>!(ids.any (Nat.beq p.1))⟩).ob⟩):a8 C o K ⟨sl,ob⟩ :=
 ry ids vids NB NE hc (λ g a w hs=>by
  obtain ⟨a1,a2⟩:=gA hs _ l hl
  exact ⟨args.map a.eval,by simp [execOp,ho,resolve,Act.eval,Deferred.ofValue,invoke,henter],by have:=a1.symm; simpa using this,λ i c v hc hv=>a2 i c v hc (by rw [← Array.toList_map]; simpa using hv)⟩)
  hd hn hl' hq hpk hmo hqo hnd hids hil hdl hdis hvd hvl hvn λ x y ⟨e1,e2⟩=>by
  subst e1 e2
  exact ⟨r',ob',hr,hob,hK⟩
end
end Go.Ab
end
section
namespace Go.Ab
def ec (o:Oper)(k:Nat):Bool:=o.after.toList.any λ e=>Nat.beq e.on k&&Region.binds .any e
def gC (ops:Array Oper):Nat→Oper→Nat→Bool
 | 0,o,a=>ec o a
 | n+1,o,a=>ec o a||ops.toList.zipIdx.any λ p=>ec o p.2&&gC ops n p.1 a
def iZ (ops:Array Oper)(imp:List Nat)(o:Oper)(k j:Nat):Bool :=
 (imp.zipIdx.all λ p=>!(gC ops 4 o p.1)||Nat.blt p.2 j)&&(imp.zipIdx.all λ p=>match ops.toList[p.1]? with
  | some oi=>!(ec oi k)||Nat.ble j p.2
  | none=>true)
def chainB (ops:Array Oper):List Nat→Bool
 | a::b::r=>(match ops.toList[b]? with | some o=>gC ops 4 o a | none=>false)&&chainB ops (b::r)
 | _=>true
def loB (ops:Array Oper)(imp:List Nat)(o:Oper)(j:Nat):Bool:=imp.zipIdx.all λ p=>!(gC ops 4 o p.1)||Nat.blt p.2 j
theorem gf {ops:Array Oper}{listed:Array Bool}(hcl:∀ (k:Nat) o,ops[k]? = some o→listed.getD k false=true→∀ e∈o.after,Region.binds .any e=true→listed.getD e.on false=true) :
  ∀ (n:Nat) (o:Oper) (a:Nat),gC ops n o a=true→(∀ e∈o.after,Region.binds .any e=true→listed.getD e.on false=true)→listed.getD a false=true:=by
 have one:∀ (o:Oper) (a:Nat),ec o a=true→(∀ e∈o.after,Region.binds .any e=true→listed.getD e.on false=true)→listed.getD a false=true:=by
  intro o a h ha
  obtain ⟨e,he,hbe⟩:=List.any_eq_true.1 h
  simp only [Bool.and_eq_true] at hbe
  have h3:=ha e (Array.mem_toList_iff.1 he) hbe.2
  rwa [Nat.eq_of_beq_eq_true hbe.1] at h3
 intro n
 induction n with
 | zero=>exact one
 | succ n ih =>
  intro o a h ha
  simp only [gC,Bool.or_eq_true] at h
  rcases h with h | h
  ·exact one o a h ha
  ·obtain ⟨⟨p,k⟩,hp,h2⟩:=List.any_eq_true.1 h
   simp only [Bool.and_eq_true] at h2
   have hk:=one o k h2.1 ha
   have hpk:ops[k]? = some p:=by
    have:=List.mk_mem_zipIdx_iff_getElem?.1 hp
    simpa using this
   exact ih p a h2.2 (hcl k p hpk hk)
inductive Tr where
 | none
 | some (D:Nat→Bool)
 | fn (f:AV→AV)
def trA:Tr→AV→AV
 | .none,x=>x
 | .some D,x=>x.dem D
 | .fn f,x=>f x
def trL:Tr→List (Nat×AV)→List (Nat×AV)
 | .none,l=>l
 | .some D,l=>l.map λ p=>(p.1,p.2.dem D)
 | .fn f,l=>l.map λ p=>(p.1,f p.2)
theorem iz {D:Tr}{l:List (Nat×AV)}{i:Nat}:look (trL D l) i=(look l i).map (trA D):=by
 cases D with
 | none=>simp only [trL]; cases look l i <;> rfl
 | some D=>simp only [trL,fT]; rfl
 | fn f=>simp only [trL,fT]; rfl
abbrev fe:=List (Nat×Nat×(Nat→AV))
def b7:fe→Nat→Option (Nat×(Nat→AV))
 | [],_=>none
 | (j,p)::r,k=>bif Nat.beq j k then some p else b7 r k
def gQ:fe→Nat→List (Nat×AV)
 | [],_=>[]
 | (_,d,v)::r,j=>(d,v j)::gQ r j
def KnS (bas:List (Nat×AV))(o:Oper)(rev:fe)(j:Nat):List (Nat×AV)→Prop
 | []=>True
 | (i,x)::r=>(look bas i=some x∨∃ k v,ec o k=true∧b7 rev k=some (i,v)∧v j=x)∧KnS bas o rev j r
structure fV where
 m:Nat
 imp:List Nat
 D:Nat→Tr
 bas:Nat→List (Nat×AV)
 obj:Nat→List (Nat×List AV)
def DS (C:Cx)(ops:Array Oper)(S:fV)(K:fe→Prop):List Oper→Nat→fe→Prop
 | [],_,rev=>K rev
 | o::rest,k,rev =>
  match S.imp.findIdx? (Nat.beq k) with
  | none=>∃ d v,o.dst=some d∧(rev.all λ p=>!(Nat.beq p.2.1 d))=true∧(∀ j,look (S.bas j) d=none)∧(∀ j,j < S.m→loB ops S.imp o j=true→v (j+1)=trA (S.D j) (v j)) ∧
    (∀ j,j≤S.m→iZ ops S.imp o k j=true→∃ kn,KnS (S.bas j) o rev j kn∧j5 C ops (S.obj j) o kn d (v j))∧DS C ops S K rest (k+1) ((k,d,v)::rev)
  | some i=>∃ kn,KnS (S.bas i) o rev i kn∧((∃ d v,o.dst=some d∧(rev.all λ p=>!(Nat.beq p.2.1 d))=true∧(∀ j,i < j→look (S.bas j) d=none)∧(∀ j,i < j→j < S.m→v (j+1)=trA (S.D j) (v j)) ∧
     (∀ sl,(∀ i x,look kn i=some x→look sl i=some x)→∀ K:AS→Prop,K ⟨(d,v (i+1))::trL (S.D i) sl,S.obj (i+1)⟩→One C ops o K ⟨sl,S.obj i⟩)∧DS C ops S K rest (k+1) ((k,d,v)::rev)) ∨
    (o.dst=none∧(∀ sl,(∀ i x,look kn i=some x→look sl i=some x)→∀ K:AS→Prop,K ⟨trL (S.D i) sl,S.obj (i+1)⟩→One C ops o K ⟨sl,S.obj i⟩)∧DS C ops S K rest (k+1) rev))
def ii (C:Cx)(ops:Array Oper)(S:fV)(R:Nat→Option (Nat×(Nat→AV)))(o:Oper)(k:Nat):Prop :=
 match S.imp.findIdx? (Nat.beq k) with
 | none=>∃ d v,R k=some (d,v)∧o.dst=some d∧(∀ j,look (S.bas j) d=none)∧(∀ j,j < S.m→loB ops S.imp o j=true→v (j+1)=trA (S.D j) (v j)) ∧
   (∀ j,j≤S.m→iZ ops S.imp o k j=true→∀ sl,(∀ i x,look (S.bas j) i=some x→look sl i=some x)→(∀ k' p,ec o k'=true→R k'=some p→look sl p.1=some (p.2 j))→∀ K:AS→Prop,K ⟨(d,v j)::sl,S.obj j⟩→One C ops o K ⟨sl,S.obj j⟩)
 | some i=>(∃ d v,R k=some (d,v)∧o.dst=some d∧(∀ j,i < j→look (S.bas j) d=none)∧(∀ j,i < j→j < S.m→v (j+1)=trA (S.D j) (v j)) ∧
    (∀ sl,(∀ q x,look (S.bas i) q=some x→look sl q=some x)→(∀ k' p,ec o k'=true→R k'=some p→look sl p.1=some (p.2 i))→∀ K:AS→Prop,K ⟨(d,v (i+1))::trL (S.D i) sl,S.obj (i+1)⟩→One C ops o K ⟨sl,S.obj i⟩)) ∨
   (R k=none∧o.dst=none∧(∀ sl,(∀ q x,look (S.bas i) q=some x→look sl q=some x)→(∀ k' p,ec o k'=true→R k'=some p→look sl p.1=some (p.2 i))→∀ K:AS→Prop,K ⟨trL (S.D i) sl,S.obj (i+1)⟩→One C ops o K ⟨sl,S.obj i⟩))
theorem jj {bas:List (Nat×AV)}{o:Oper}{rev:fe}{j:Nat}{R:Nat→Option (Nat×(Nat→AV))}(hR:∀ k p,b7 rev k=some p→R k=some p){sl:List (Nat×AV)}(h1:∀ i x,look bas i=some x→look sl i=some x)
  (h2:∀ k' p,ec o k'=true→R k'=some p→look sl p.1=some (p.2 j)):∀ {kn:List (Nat×AV)},KnS bas o rev j kn→∀ i x,look kn i=some x→look sl i=some x
 | [],_,i,x,h=>by simp [look] at h
 | (q,y)::r,hk,i,x,h=>by
  rw [aR] at h
  by_cases e:q=i
  ·rw [if_pos e] at h; cases h; subst e
   rcases hk.1 with h3 | ⟨k,v,h3,h4,h5⟩
   ·exact h1 _ _ h3
   ·have:=h2 k _ h3 (hR k _ h4)
    rw [← h5]; exact this
  ·rw [if_neg e] at h
   exact jj hR h1 h2 hk.2 i x h
theorem kP {rev:fe}{k:Nat}(h:∀ p∈rev,p.1 < k):b7 rev k=none:=by
 induction rev with
 | nil=>rfl
 | cons p r ih =>
  obtain ⟨j,q⟩:=p
  have h1:=h (j,q) (by simp)
  simp only [b7]
  have:Nat.beq j k=false:=by
   cases hq:Nat.beq j k
   ·rfl
   ·have:=Nat.eq_of_beq_eq_true hq
    simp only at h1; omega
  rw [this,cond_false]
  exact ih λ p hp=>h p (by simp [hp])
theorem nM {C:Cx}{ops:Array Oper}{S:fV}{K:fe→Prop}:∀ {l:List Oper} {k:Nat} {rev:fe},DS C ops S K l k rev→(∀ p∈rev,p.1 < k) →
  ∃ fin:fe,K fin∧(∀ i,i < k→b7 fin i=b7 rev i)∧(∀ p∈fin,p.1 < k+l.length) ∧
   (∀ (i:Nat) o,l[i]? = some o→ii C ops S (b7 fin) o (k+i)) ∧
   (∃ pre:fe,fin=pre++rev∧(∀ p∈pre,∀ q∈rev,p.2.1≠q.2.1)∧(∀ (i j:Nat) p q,pre[i]? = some p→pre[j]? = some q→p.2.1=q.2.1→i=j)∧(∀ p∈pre,k≤p.1)∧∀ (i j:Nat) p q,pre[i]? = some p→pre[j]? = some q→p.1=q.1→i=j)
 | [],k,rev,h,hlt=>⟨rev,h,λ _ _=>rfl,hlt,λ i o h=>by simp at h,[],rfl,by simp,by simp,by simp,by simp⟩
 | o::rest,k,rev,h,hlt=>by
  -- one more result
  have more:∀ (d:Nat) (v:Nat→AV),(rev.all λ p=>!(Nat.beq p.2.1 d))=true→DS C ops S K rest (k+1) ((k,d,v)::rev) →
    (∀ fin:fe,(∀ q p,b7 rev q=some p→b7 fin q=some p)→b7 fin k=some (d,v)→ii C ops S (b7 fin) o k)→∃ fin:fe,K fin∧(∀ i,i < k→b7 fin i=b7 rev i)∧(∀ p∈fin,p.1 < k+(rest.length+1)) ∧
     (∀ (i:Nat) o',(o::rest)[i]? = some o'→ii C ops S (b7 fin) o' (k+i)) ∧
     (∃ pre:fe,fin=pre++rev∧(∀ p∈pre,∀ q∈rev,p.2.1≠q.2.1)∧(∀ (i j:Nat) p q,pre[i]? = some p→pre[j]? = some q→p.2.1=q.2.1→i=j)∧(∀ p∈pre,k≤p.1)∧∀ (i j:Nat) p q,pre[i]? = some p→pre[j]? = some q→p.1=q.1→i=j):=by
   intro d v hf hrest howes
   obtain ⟨fin,f1,f2,f3,f4,pre,f5,f6,f7,f8,f9⟩:=nM hrest (λ p hp=>by
    rcases List.mem_cons.1 hp with rfl | hp
    ·exact Nat.lt_succ_self k
    ·exact Nat.lt_succ_of_lt (hlt p hp))
   have hkk:b7 fin k=some (d,v):=by
    rw [f2 k (Nat.lt_succ_self k)]
    simp [b7]
   have hsub:∀ q,q < k→b7 fin q=b7 rev q:=by
    intro q hq
    rw [f2 q (Nat.lt_succ_of_lt hq)]
    simp only [b7]
    have:Nat.beq k q=false:=by
     cases hb:Nat.beq k q
     ·rfl
     ·have:=Nat.eq_of_beq_eq_true hb; omega
    rw [this,cond_false]
   have hfrd:∀ q∈rev,q.2.1≠d:=λ q hq e=>by
    have:=List.all_eq_true.1 hf q hq
    simp [e] at this
   refine ⟨fin,f1,hsub,λ p hp=>by have:=f3 p hp; omega,λ i o' ho'=>?_,pre++[(k,d,v)],by rw [f5]; simp,λ p hp q hq=>?_,λ i j p q hi hj e=>?_,λ p hp=>?_,λ i j p q hi hj e=>?_⟩
   ·cases i with
    | zero =>
     simp only [List.getElem?_cons_zero,Option.some.injEq] at ho'
     subst ho'
     refine howes fin (λ q p hq=>?_) hkk
     have hqk:q < k:=by
      by_cases hqk:q < k
      ·exact hqk
      ·exfalso
       have:b7 rev q=none:=kP λ p hp=>Nat.lt_of_lt_of_le (hlt p hp) (Nat.le_of_not_lt hqk)
       rw [this] at hq; cases hq
     rw [hsub q hqk]; exact hq
    | succ i =>
     simp only [List.getElem?_cons_succ] at ho'
     have:=f4 i o' ho'
     rwa [show k+1+i=k+(i+1) by omega] at this
   ·rcases List.mem_append.1 hp with hp | hp
    ·exact f6 p hp q (by simp [hq])
    ·simp only [List.mem_singleton] at hp
     subst hp
     exact λ e=>hfrd q hq e.symm
   ·have key:∀ (i:Nat) p,(pre++[(k,d,v)])[i]? = some p→(i < pre.length∧pre[i]? = some p)∨(i=pre.length∧p=(k,d,v)):=by
     intro i p h
     rcases Nat.lt_or_ge i pre.length with hi | hi
     ·rw [List.getElem?_append_left hi] at h; exact .inl ⟨hi,h⟩
     ·rw [List.getElem?_append_right hi] at h
      have hl:=(List.getElem?_eq_some_iff.1 h).1
      simp at hl
      have hi0:i=pre.length:=by omega
      subst hi0
      simp at h
      exact .inr ⟨rfl,h.symm⟩
    rcases key i p hi with ⟨a1,a2⟩ | ⟨a1,rfl⟩ <;> rcases key j q hj with ⟨b1,b2⟩ | ⟨b1,rfl⟩
    ·exact f7 i j p q a2 b2 e
    ·exact absurd e (f6 p (List.mem_of_getElem? a2) (k,d,v) (by simp))
    ·exact absurd e.symm (f6 q (List.mem_of_getElem? b2) (k,d,v) (by simp))
    ·omega
   ·rcases List.mem_append.1 hp with hp | hp
    ·have:=f8 p hp; omega
    ·simp only [List.mem_singleton] at hp; subst hp; exact Nat.le_refl _
   ·have key:∀ (i:Nat) p,(pre++[(k,d,v)])[i]? = some p→(i < pre.length∧pre[i]? = some p)∨(i=pre.length∧p=(k,d,v)):=by
     intro i p h
     rcases Nat.lt_or_ge i pre.length with hi | hi
     ·rw [List.getElem?_append_left hi] at h; exact .inl ⟨hi,h⟩
     ·rw [List.getElem?_append_right hi] at h
      have hl:=(List.getElem?_eq_some_iff.1 h).1
      simp at hl
      have hi0:i=pre.length:=by omega
      subst hi0
      simp at h
      exact .inr ⟨rfl,h.symm⟩
    rcases key i p hi with ⟨a1,a2⟩ | ⟨a1,rfl⟩ <;> rcases key j q hj with ⟨b1,b2⟩ | ⟨b1,rfl⟩
    ·exact f9 i j p q a2 b2 e
    ·have:=f8 p (List.mem_of_getElem? a2); simp only at e; omega
    ·have:=f8 q (List.mem_of_getElem? b2); simp only at e; omega
    ·omega
  unfold DS at h
  cases hi:S.imp.findIdx? (Nat.beq k) with
  | none =>
   rw [hi] at h
   obtain ⟨d,v,hd,hf,hb,hv,hs,hrest⟩:=h
   refine more d v hf hrest λ fin hR hk=>?_
   unfold ii
   rw [hi]
   refine ⟨d,v,hk,hd,hb,hv,λ j hj hal sl h1 h2 K hK=>?_⟩
   obtain ⟨kn,hkn,hst⟩:=hs j hj hal
   exact hst sl (jj hR h1 h2 hkn) K hK
  | some i =>
   rw [hi] at h
   obtain ⟨kn,hkn,⟨d,v,hd,hf,hb,hv,hst,hrest⟩ | ⟨hd,hst,hrest⟩⟩:=h
   ·refine more d v hf hrest λ fin hR hk=>?_
    unfold ii
    rw [hi]
    exact .inl ⟨d,v,hk,hd,hb,hv,λ sl h1 h2 K hK=>hst sl (jj hR h1 h2 hkn) K hK⟩
   ·obtain ⟨fin,f1,f2,f3,f4,pre,f5,f6,f7,f8,f9⟩:=nM hrest (λ p hp=>Nat.lt_succ_of_lt (hlt p hp))
    refine ⟨fin,f1,λ q hq=>f2 q (Nat.lt_succ_of_lt hq),λ p hp=>by have:=f3 p hp; simp only [List.length_cons]; omega,λ q o' ho'=>?_,pre,f5,f6,f7,λ p hp=>by have:=f8 p hp; omega,f9⟩
    cases q with
    | zero =>
     simp only [List.getElem?_cons_zero,Option.some.injEq] at ho'
     subst ho'
     have hkn':b7 fin k=none:=by
      rw [f2 k (Nat.lt_succ_self k)]
      exact kP hlt
     unfold ii
     rw [Nat.add_zero,hi]
     refine .inr ⟨hkn',hd,λ sl h1 h2 K hK=>hst sl (jj (λ q p hq=>?_) h1 h2 hkn) K hK⟩
     have hqk:q < k:=by
      by_cases hqk:q < k
      ·exact hqk
      ·exfalso
       have:b7 rev q=none:=kP λ p hp=>Nat.lt_of_lt_of_le (hlt p hp) (Nat.le_of_not_lt hqk)
       rw [this] at hq; cases hq
     rw [f2 q (Nat.lt_succ_of_lt hqk)]; exact hq
    | succ q =>
     simp only [List.getElem?_cons_succ] at ho'
     have:=f4 q o' ho'
     rwa [show k+1+q=k+(q+1) by omega] at this
theorem gt:∀ {rev:fe} {k:Nat} {p:Nat×(Nat→AV)},b7 rev k=some p→(k,p)∈rev
 | [],k,p,h=>by simp [b7] at h
 | (j,q)::r,k,p,h=>by
  simp only [b7] at h
  cases hb:Nat.beq j k
  ·rw [hb,cond_false] at h
   exact List.mem_cons_of_mem _ (gt h)
  ·rw [hb,cond_true] at h
   cases h
   have:=Nat.eq_of_beq_eq_true hb
   subst this
   simp
theorem lx:∀ {rev:fe} {j i:Nat} {x:AV},(i,x)∈gQ rev j→∃ k v,(k,i,v)∈rev∧v j=x
 | [],j,i,x,h=>by simp [gQ] at h
 | (k,d,v)::r,j,i,x,h=>by
  simp only [gQ] at h
  rcases List.mem_cons.1 h with e | h
  ·cases e; exact ⟨k,v,by simp,rfl⟩
  ·obtain ⟨k',v',h1,h2⟩:=lx h
   exact ⟨k',v',List.mem_cons_of_mem _ h1,h2⟩
theorem oR {ops:Array Oper}:∀ {imp:List Nat},chainB ops imp=true→∀ (i a b:Nat) o,imp[i]? = some a→imp[i+1]? = some b→ops[b]? = some o→gC ops 4 o a=true
 | [],_,i,a,b,o,h,_,_=>by simp at h
 | [x],_,i,a,b,o,h1,h2,_=>by
  cases i with
  | zero=>simp at h2
  | succ i=>simp at h1
 | x::y::r,hc,i,a,b,o,h1,h2,h3=>by
  simp only [chainB,Bool.and_eq_true] at hc
  cases i with
  | zero =>
   simp only [List.getElem?_cons_zero,Option.some.injEq,List.getElem?_cons_succ] at h1 h2
   subst h1 h2
   have:=hc.1
   rw [Array.getElem?_toList,h3] at this
   exact this
  | succ i =>
   simp only [List.getElem?_cons_succ] at h1 h2
   exact oR hc.2 i a b o h1 (by simpa using h2) h3
theorem nZ {ops:Array Oper}{listed:Array Bool}(hs:listed.size=ops.size)(hord:∀ (j:Nat) o,ops[j]? = some o→∀ e∈o.after,Region.binds .any e=true→e.on < j)(h:Region.ready .any ops listed=[]) :
  ∀ j,j < ops.size→listed.getD j false=true:=by
 intro j
 induction j using Nat.strongRecOn with
 | ind j ih =>
  intro hj
  cases hv:listed.getD j false with
  | true=>rfl
  | false =>
   have hjl:j < listed.size:=by omega
   have:j∈Region.ready .any ops listed:=by
    rw [mem_ready]
    refine ⟨?_,ops[j],Array.getElem?_eq_getElem hj,λ e he hb=>?_⟩
    ·simp only [Array.getD_eq_getD_getElem?,Array.getElem?_eq_getElem hjl,Option.getD_some] at hv ⊢
     exact hv
    ·have hlt:=hord j _ (Array.getElem?_eq_getElem hj) e he hb
     exact ih e.on hlt (by omega)
   rw [h] at this
   cases this
structure tY (C:Cx)(ops:Array Oper)(S:fV)(fin:fe):Prop where
 owes:∀ (k:Nat) o,ops[k]? = some o→ii C ops S (b7 fin) o k
 lt:∀ k p,b7 fin k=some p→k < ops.size
 same:∀ k k' p p',b7 fin k=some p→b7 fin k'=some p'→p.1=p'.1→k=k'
 num:∀ (i j:Nat) p q,fin[i]? = some p→fin[j]? = some q→p.1=q.1→i=j
 len:S.imp.length=S.m
 bas:∀ j,j < S.m→fq (trL (S.D j) (S.bas j)) (S.bas (j+1))
 nd:nodupB S.imp=true
 inn:S.imp.all (λ i=>Nat.blt i ops.size)=true
 ord:∀ (j:Nat) o,ops[j]? = some o→∀ e∈o.after,Region.binds .any e=true→e.on < j
theorem tY.mk' {C:Cx}{ops:Array Oper}{S:fV}{K:fe→Prop}(hlen:S.imp.length=S.m)
  (hbas:∀ j,j < S.m→fq (trL (S.D j) (S.bas j)) (S.bas (j+1))) (hnd:nodupB S.imp=true) (hin:S.imp.all (λ i=>Nat.blt i ops.size)=true)
  (hord:(ops.toList.zipIdx.all λ p=>p.1.after.toList.all λ e=>!(Region.binds .any e)||Nat.blt e.on p.2)=true) (h:DS C ops S K ops.toList 0 []):∃ fin,K fin∧tY C ops S fin:=by
 obtain ⟨fin,hfin,_,hfl,howes,pre,hpre,_,hdst,_,hnum⟩:=nM h (by simp)
 rw [List.append_nil] at hpre
 subst hpre
 simp only [Nat.zero_add,Array.length_toList] at hfl howes
 have howes':∀ (k:Nat) o,ops[k]? = some o→ii C ops S (b7 fin) o k:=λ k o ho=>howes k o (by rw [Array.getElem?_toList]; exact ho)
 have hord':∀ (j:Nat) o,ops[j]? = some o→∀ e∈o.after,Region.binds .any e=true→e.on < j:=by
  intro j o ho e he hbe
  have h1:=List.all_eq_true.1 hord (o,j) (by
   rw [List.mem_iff_getElem?]
   exact ⟨j,by rw [List.getElem?_zipIdx,Array.getElem?_toList,ho]; simp⟩)
  have h2:=List.all_eq_true.1 h1 e (Array.mem_toList_iff.2 he)
  simp only [hbe,Bool.not_true,Bool.false_or] at h2
  exact Nat.blt_eq ▸ h2
 have hlt:∀ k p,b7 fin k=some p→k < ops.size:=λ k p h=>hfl _ (gt h)
 have hsame:∀ k k' p p',b7 fin k=some p→b7 fin k'=some p'→p.1=p'.1→k=k':=by
  intro k k' p p' h1 h2 e
  obtain ⟨i,hi⟩:=List.mem_iff_getElem?.1 (gt h1)
  obtain ⟨i',hi'⟩:=List.mem_iff_getElem?.1 (gt h2)
  have:=hdst i i' _ _ hi hi' e
  subst this
  rw [hi] at hi'; cases hi'; rfl
 have hdstOf:∀ k o p,ops[k]? = some o→b7 fin k=some p→o.dst=some p.1:=by
  intro k o p ho hk
  have h:=howes' k o ho
  unfold ii at h
  split at h
  ·obtain ⟨d,v,h1,h2,_⟩:=h
   rw [hk] at h1; cases h1; exact h2
  ·rcases h with ⟨d,v,h1,h2,_⟩ | ⟨h1,_⟩
   ·rw [hk] at h1; cases h1; exact h2
   ·rw [hk] at h1; cases h1
 exact ⟨fin,hfin,howes',hlt,hsame,hnum,hlen,hbas,hnd,hin,hord'⟩
def tF (ops:Array Oper)(S:fV)(listed:Array Bool)(j:Nat):Prop:=j≤S.m∧(∀ (i k:Nat),S.imp[i]? = some k→(listed.getD k false=true↔i < j))∧(∀ (k:Nat) o,ops[k]? = some o→listed.getD k false=true→∀ e∈o.after,Region.binds .any e=true→listed.getD e.on false=true)
def PKn (S:fV)(fin:fe)(listed:Array Bool)(j:Nat)(sl':List (Nat×AV)):Prop:=(∀ i x,look (S.bas j) i=some x→look sl' i=some x)∧(∀ k p,listed.getD k false=true→b7 fin k=some p→look sl' p.1=some (p.2 j))
structure PAt (C:Cx)(ops:Array Oper)(S:fV)(fin:fe)(fuel:Nat)(listed:Array Bool)(g:Gh)(a:Act)(w:World)(sl':List (Nat×AV))(j:Nat):Prop where
 sz:listed.size=ops.size
 un:unl ops.size listed=fuel
 inv:tF ops S listed j
 kn:PKn S fin listed j sl'
 st:St C.n C.w0 C.F g ⟨sl',S.obj j⟩ a w
theorem AS.le_refl (s:AS):s.le s:=⟨λ j x h=>by unfold AS.get; rw [h]; exact AV.sub_refl _,λ id cs h=>⟨cs,h,Nat.le_refl _,λ i c d h1 h2=>by rw [h1] at h2; cases h2; exact AV.sub_refl _⟩⟩
theorem ra {C:Cx}{ops:Array Oper}{Q:Exit→AS→Prop}{S:fV}{fin:fe}(hP:tY C ops S fin){t:AS}(hle:(⟨gQ fin S.m++S.bas S.m,S.obj S.m⟩:AS).le t)(hfin:Q .normal t)(j0:Nat)
  (hsw:∀ (fuel:Nat) (listed:Array Bool) (g:Gh) (a:Act) (w:World) (sl':List (Nat×AV)) (j:Nat),j0≤j→PAt C ops S fin (fuel+1) listed g a w sl' j→∀ i q,i∈Region.ready .any ops listed→S.imp[q]? = some i→j < q →
   wpOp C.P ops (λ e a' w'=>∃ g' s',St C.n C.w0 C.F g' s' a' w'∧Q e s') i (wpAny C.P .any ops (λ e a' w'=>∃ g' s',St C.n C.w0 C.F g' s' a' w'∧Q e s') fuel (listed.setIfInBounds i true)) a w) :
  (∀ (fuel:Nat) (listed:Array Bool) (g:Gh) (a:Act) (w:World) (sl':List (Nat×AV)) (j:Nat),j0≤j→PAt C ops S fin fuel listed g a w sl' j→wpAny C.P .any ops (λ e a' w'=>∃ g' s',St C.n C.w0 C.F g' s' a' w'∧Q e s') fuel listed a w) ∧
  (∀ (fuel:Nat) (listed:Array Bool) (g:Gh) (a:Act) (w:World) (sl':List (Nat×AV)) (j i:Nat),(j0≤j∨(j0≤j+1∧S.imp[j]? = some i))→i∈Region.ready .any ops listed→PAt C ops S fin (fuel+1) listed g a w sl' j →
   wpOp C.P ops (λ e a' w'=>∃ g' s',St C.n C.w0 C.F g' s' a' w'∧Q e s') i (wpAny C.P .any ops (λ e a' w'=>∃ g' s',St C.n C.w0 C.F g' s' a' w'∧Q e s') fuel (listed.setIfInBounds i true)) a w):=by
 obtain ⟨howes',hlt,hsame,hnum,hlen,hbas,hnd,hin,hord'⟩:=hP
 have himp:∀ {k i:Nat},S.imp.findIdx? (Nat.beq k)=some i→S.imp[i]? = some k:=λ h=>eC h
 have himp2:∀ {k i:Nat},S.imp[i]? = some k→S.imp.findIdx? (Nat.beq k)=some i:=by
  intro k i h
  cases hf:S.imp.findIdx? (Nat.beq k) with
  | none =>
   have:=List.findIdx?_eq_none_iff.1 hf k (List.mem_of_getElem? h)
   simp at this
  | some i' =>
   have:=dT hnd _ _ _ (himp hf) h
   rw [this]
 have done:∀ (listed:Array Bool) (g:Gh) (a:Act) (w:World) (sl':List (Nat×AV)) (j:Nat),(∀ k,k < ops.size→listed.getD k false=true)→tF ops S listed j→PKn S fin listed j sl'→St C.n C.w0 C.F g ⟨sl',S.obj j⟩ a w →
   ∃ g' s',St C.n C.w0 C.F g' s' a w∧Q .normal s':=by
  intro listed g a w sl' j hall hI hK hs
  have hj:j=S.m:=by
   rcases Nat.lt_or_ge j S.m with hlt | hge
   ·exfalso
    have hjl:j < S.imp.length:=by omega
    have h1:=(hI.2.1 j S.imp[j] (List.getElem?_eq_getElem hjl)).1 (hall _ (by
     have:=List.all_eq_true.1 hin S.imp[j] (List.getElem_mem hjl)
     exact Nat.blt_eq ▸ this))
    omega
   ·exact Nat.le_antisymm hI.1 hge
  subst hj
  refine ⟨g,t,(hs.weaken (t:=⟨gQ fin S.m++S.bas S.m,S.obj S.m⟩) ?_).weaken hle,hfin⟩
  refine s9 λ i x hx=>?_
  rw [dN] at hx
  cases hq:look (gQ fin S.m) i with
  | none=>rw [hq] at hx; exact hK.1 i x (by simpa using hx)
  | some y =>
   rw [hq] at hx
   simp only [Option.some.injEq] at hx
   subst hx
   obtain ⟨k,v,h1,h2⟩:=lx (dP hq)
   have hk:b7 fin k=some (i,v):=by
    obtain ⟨q,hq'⟩:=List.mem_iff_getElem?.1 h1
    cases hl:b7 fin k with
    | none =>
     exfalso
     have hno:∀ {rev:fe} {k:Nat} {p:Nat×(Nat→AV)},(k,p)∈rev→b7 rev k≠none:=by
      intro rev
      induction rev with
      | nil=>intro k p h; simp at h
      | cons z r ih =>
       intro k p h
       obtain ⟨j,q⟩:=z
       simp only [b7]
       cases hb:Nat.beq j k
       ·rw [cond_false]
        rcases List.mem_cons.1 h with e | h
        ·cases e; simp at hb
        ·exact ih h
       ·rw [cond_true]; simp
     exact hno h1 hl
    | some p =>
     obtain ⟨q2,hq2⟩:=List.mem_iff_getElem?.1 (gt hl)
     have:=hnum q q2 _ _ hq' hq2 rfl
     subst this
     rw [hq'] at hq2; cases hq2; rfl
   have:=hK.2 k _ (hall k (hlt k _ hk)) hk
   rw [← h2]; exact this
 have step:∀ (fuel:Nat),(∀ (listed:Array Bool) (g:Gh) (a:Act) (w:World) (sl':List (Nat×AV)) (j:Nat),j0≤j→PAt C ops S fin fuel listed g a w sl' j→wpAny C.P .any ops (λ e a' w'=>∃ g' s',St C.n C.w0 C.F g' s' a' w'∧Q e s') fuel listed a w) →
   ∀ (listed:Array Bool) (g:Gh) (a:Act) (w:World) (sl':List (Nat×AV)) (j i:Nat),(j0≤j∨(j0≤j+1∧S.imp[j]? = some i))→i∈Region.ready .any ops listed→PAt C ops S fin (fuel+1) listed g a w sl' j →
    wpOp C.P ops (λ e a' w'=>∃ g' s',St C.n C.w0 C.F g' s' a' w'∧Q e s') i (wpAny C.P .any ops (λ e a' w'=>∃ g' s',St C.n C.w0 C.F g' s' a' w'∧Q e s') fuel (listed.setIfInBounds i true)) a w:=by
   intro fuel ih' listed g a w sl' j i hwhen hi hat
   have hi0:=hi
   obtain ⟨hsz,hu,hI,hK,hs⟩:=hat
   have ih:∀ (listed:Array Bool) (g:Gh) (a:Act) (w:World) (sl':List (Nat×AV)) (j:Nat),listed.size=ops.size→unl ops.size listed=fuel→tF ops S listed j→PKn S fin listed j sl'→St C.n C.w0 C.F g ⟨sl',S.obj j⟩ a w→j0≤j →
     wpAny C.P .any ops (λ e a' w'=>∃ g' s',St C.n C.w0 C.F g' s' a' w'∧Q e s') fuel listed a w:=λ listed g a w sl' j h1 h2 h3 h4 h5 h6=>ih' listed g a w sl' j h6 ⟨h1,h2,h3,h4,h5⟩
   obtain ⟨h1,o,ho,hafter⟩:=mem_ready.1 hi
   have hil:i < ops.size:=(Array.getElem?_eq_some_iff.1 ho).1
   have h1':listed.getD i false=false:=by
    have hil2:i < listed.size:=by omega
    simp only [Array.getD_eq_getD_getElem?,Array.getElem?_eq_getElem hil2,Option.getD_some] at h1 ⊢
    exact h1
   have hbo:∀ k,ec o k=true→listed.getD k false=true:=by
    intro k hk
    obtain ⟨e,he,hbe⟩:=List.any_eq_true.1 hk
    simp only [Bool.and_eq_true] at hbe
    have:=Nat.eq_of_beq_eq_true hbe.1
    subst this
    exact hafter e (Array.mem_toList_iff.1 he) hbe.2
   have hget:∀ q,(listed.setIfInBounds i true).getD q false=true→q=i∨listed.getD q false=true:=by
    intro q hq
    by_cases e:q=i
    ·exact .inl e
    ·rw [getD_set_ne false (λ h=>e h.symm)] at hq; exact .inr hq
   have hget2:∀ q,listed.getD q false=true→(listed.setIfInBounds i true).getD q false=true:=by
    intro q hq
    have hne:q≠i:=λ e=>by subst e; rw [h1'] at hq; cases hq
    rw [getD_set_ne false (λ h=>hne h.symm)]; exact hq
   have hgeti:(listed.setIfInBounds i true).getD i false=true:=by
    have hil2:i < listed.size:=by omega
    simp [Array.getD_eq_getD_getElem?,hil2]
   have hclosed:∀ k o',ops[k]? = some o'→(listed.setIfInBounds i true).getD k false=true→∀ e∈o'.after,Region.binds .any e=true→(listed.setIfInBounds i true).getD e.on false=true:=by
    intro k o' ho' hk e he hbe
    rcases hget k hk with rfl | hk
    ·rw [ho] at ho'; cases ho'
     exact hget2 _ (hafter e he hbe)
    ·exact hget2 _ (hI.2.2 k o' ho' hk e he hbe)
   have howe:=howes' i o ho
   unfold ii at howe
   cases hfi:S.imp.findIdx? (Nat.beq i) with
   | none =>
    rw [hfi] at howe
    obtain ⟨d,v,hRk,hd,hnb,hv,hst⟩:=howe
    have hj0:j0≤j:=by
     rcases hwhen with h | ⟨_,h⟩
     ·exact h
     ·rw [himp2 h] at hfi; cases hfi
    have hal:iZ ops S.imp o i j=true:=by
     unfold iZ
     simp only [Bool.and_eq_true,List.all_eq_true]
     refine ⟨λ p hp=>?_,λ p hp=>?_⟩
     ·obtain ⟨q,hq⟩:=List.mem_iff_getElem?.1 hp
      rw [List.getElem?_zipIdx] at hq
      simp only [Option.map_eq_some_iff,Nat.zero_add] at hq
      obtain ⟨x,hx,rfl⟩:=hq
      cases hbx:gC ops 4 o x
      ·simp
      ·have:=(hI.2.1 q x hx).1 (gf hI.2.2 4 o x hbx hafter)
       simp only [Bool.not_true,Bool.false_or]
       rw [Nat.blt_eq]; exact this
     ·obtain ⟨q,hq⟩:=List.mem_iff_getElem?.1 hp
      rw [List.getElem?_zipIdx] at hq
      simp only [Option.map_eq_some_iff,Nat.zero_add] at hq
      obtain ⟨x,hx,rfl⟩:=hq
      simp only [Array.getElem?_toList]
      cases hox:ops[x]? with
      | none=>rfl
      | some ox =>
       simp only
       cases hbx:ec ox i
       ·simp
       ·simp only [Bool.not_true,Bool.false_or]
        refine Nat.ble_eq_true_of_le (Nat.le_of_not_lt λ hlt=>?_)
        have hl:=(hI.2.1 q x hx).2 hlt
        obtain ⟨e,he,hbe⟩:=List.any_eq_true.1 hbx
        simp only [Bool.and_eq_true] at hbe
        have:=Nat.eq_of_beq_eq_true hbe.1
        subst this
        have:=hI.2.2 x ox hox hl e (Array.mem_toList_iff.1 he) hbe.2
        rw [h1'] at this; cases this
    have hone:=hst j hI.1 hal sl' hK.1 (λ k' p hb hk'=>hK.2 k' p (hbo k' hb) hk') (λ s=>s=⟨(d,v j)::sl',S.obj j⟩) rfl i ho
    refine kG (hone g a w hs) ?_
    rintro a' w' ⟨g',s',hs',rfl⟩
    refine ih _ g' a' w' ((d,v j)::sl') j (by simpa using hsz) ?_ ⟨hI.1,λ q k hq=>?_,hclosed⟩ ⟨λ q x hx=>?_,λ k p hk hp=>?_⟩ hs' hj0
    ·have:=kD hsz hil h1; omega
    ·have hne:k≠i:=λ e=>by subst e; rw [himp2 hq] at hfi; cases hfi
     rw [getD_set_ne false (λ h=>hne h.symm)]; exact hI.2.1 q k hq
    ·rw [aR,if_neg]
     ·exact hK.1 q x hx
     ·intro e; subst e; rw [hnb j] at hx; cases hx
    ·rw [aR]
     rcases hget k hk with rfl | hk
     ·rw [hRk] at hp; cases hp; rw [if_pos rfl]
     ·rw [if_neg]
      ·exact hK.2 k p hk hp
      ·intro e
       have:=hsame i k _ _ hRk hp e
       subst this
       rw [h1'] at hk; cases hk
   | some q =>
    rw [hfi] at howe
    have hq:=himp hfi
    -- its stage
    have h2:¬ q < j:=λ h=>by have:=(hI.2.1 q i hq).2 h; rw [h1'] at this; cases this
    by_cases hqj:j < q
    ·rcases hwhen with hj0 | ⟨_,hji⟩
     ·exact hsw fuel listed g a w sl' j hj0 ⟨hsz,hu,hI,hK,hs⟩ i q hi0 hq hqj
     ·have:=dT hnd _ _ _ hji hq; omega
    have hqj:q=j:=by omega
    have hj1:j0≤j+1:=by
     rcases hwhen with h | ⟨h,_⟩ <;> omega
    subst hqj
    have hqm:q < S.m:=by have:=(List.getElem?_eq_some_iff.1 hq).1; omega
    have hbnext:∀ (sl'':List (Nat×AV)),(∀ z x,look sl' z=some x→look sl'' z=some (trA (S.D q) x))→∀ z x,look (S.bas (q+1)) z=some x→look sl'' z=some x:=by
     intro sl'' hsl z x hx
     have hx:=fZ (hbas q hqm) z x hx
     rw [iz,Option.map_eq_some_iff] at hx
     obtain ⟨y,hy,rfl⟩:=hx
     exact hsl z y (hK.1 z y hy)
    have hInext:tF ops S (listed.setIfInBounds i true) (q+1):=by
     refine ⟨hqm,λ z k hz=>?_,hclosed⟩
     by_cases e:k=i
     ·subst e
      have:=dT hnd _ _ _ hz hq
      subst this
      exact ⟨λ _=>Nat.lt_succ_self _,λ _=>hgeti⟩
     ·rw [getD_set_ne false (λ h=>e h.symm),hI.2.1 z k hz]
      constructor
      ·intro h; omega
      ·intro h
       rcases Nat.lt_or_ge z q with h5 | h5
       ·exact h5
       ·have:z=q:=by omega
        subst this
        rw [hq] at hz; cases hz; exact absurd rfl e
    have hvnext:∀ k p,listed.getD k false=true→b7 fin k=some p→p.2 (q+1)=trA (S.D q) (p.2 q):=by
     intro k p hk hp
     have hkl:=hlt k p hp
     have hok:=howes' k ops[k] (Array.getElem?_eq_getElem hkl)
     unfold ii at hok
     split at hok
     ·obtain ⟨d,v,e1,_,_,e2,_⟩:=hok
      rw [hp] at e1; cases e1
      refine e2 q hqm (List.all_eq_true.2 λ p hp'=>?_)
      obtain ⟨z,hz⟩:=List.mem_iff_getElem?.1 hp'
      rw [List.getElem?_zipIdx] at hz
      simp only [Option.map_eq_some_iff,Nat.zero_add] at hz
      obtain ⟨x,hx,rfl⟩:=hz
      cases hbx:gC ops 4 ops[k] x
      ·rfl
      ·have:=(hI.2.1 z x hx).1 (gf hI.2.2 4 _ x hbx (hI.2.2 k _ (Array.getElem?_eq_getElem hkl) hk))
       simp only [Bool.not_true,Bool.false_or]
       rw [Nat.blt_eq]; exact this
     ·rename_i z hz
      have hzq:z < q:=(hI.2.1 z k (himp hz)).1 hk
      rcases hok with ⟨d,v,e1,_,_,e2,_⟩ | ⟨e1,_⟩
      ·rw [hp] at e1; cases e1; exact e2 q hzq hqm
      ·rw [hp] at e1; cases e1
    rcases howe with ⟨d,v,hRk,hd,hnb,hv,hst⟩ | ⟨hRk,hd,hst⟩
    ·have hone:=hst sl' hK.1 (λ k' p hb hk'=>hK.2 k' p (hbo k' hb) hk') (λ s=>s=⟨(d,v (q+1))::trL (S.D q) sl',S.obj (q+1)⟩) rfl i ho
     refine kG (hone g a w hs) ?_
     rintro a' w' ⟨g',s',hs',rfl⟩
     refine ih _ g' a' w' ((d,v (q+1))::trL (S.D q) sl') (q+1) (by simpa using hsz) ?_ hInext ⟨λ z x hx=>?_,λ k p hk hp=>?_⟩ hs' hj1
     ·have:=kD hsz hil h1; omega
     ·rw [aR,if_neg]
      ·exact hbnext (trL (S.D q) sl') (λ z x h=>by rw [iz,h]; rfl) z x hx
      ·intro e; subst e; rw [hnb (q+1) (Nat.lt_succ_self q)] at hx; cases hx
     ·rw [aR]
      rcases hget k hk with rfl | hk
      ·rw [hRk] at hp; cases hp; rw [if_pos rfl]
      ·rw [if_neg]
       ·rw [iz,hK.2 k p hk hp,hvnext k p hk hp]; rfl
       ·intro e
        have:=hsame i k _ _ hRk hp e
        subst this
        rw [h1'] at hk; cases hk
    ·have hone:=hst sl' hK.1 (λ k' p hb hk'=>hK.2 k' p (hbo k' hb) hk') (λ s=>s=⟨trL (S.D q) sl',S.obj (q+1)⟩) rfl i ho
     refine kG (hone g a w hs) ?_
     rintro a' w' ⟨g',s',hs',rfl⟩
     refine ih _ g' a' w' (trL (S.D q) sl') (q+1) (by simpa using hsz) ?_ hInext ⟨λ z x hx=>?_,λ k p hk hp=>?_⟩ hs' hj1
     ·have:=kD hsz hil h1; omega
     ·exact hbnext (trL (S.D q) sl') (λ z x h=>by rw [iz,h]; rfl) z x hx
     ·rcases hget k hk with rfl | hk
      ·rw [hRk] at hp; cases hp
      ·rw [iz,hK.2 k p hk hp,hvnext k p hk hp]; rfl
 have main:∀ (fuel:Nat) (listed:Array Bool) (g:Gh) (a:Act) (w:World) (sl':List (Nat×AV)) (j:Nat),j0≤j→PAt C ops S fin fuel listed g a w sl' j→wpAny C.P .any ops (λ e a' w'=>∃ g' s',St C.n C.w0 C.F g' s' a' w'∧Q e s') fuel listed a w:=by
  intro fuel
  induction fuel with
  | zero =>
   intro listed g a w sl' j hj0 ⟨hsz,hu,hI,hK,hs⟩
   have hall:=nX hu
   refine ⟨?_,done listed g a w sl' j hall hI hK hs⟩
   rw [List.eq_nil_iff_forall_not_mem]
   intro i hi
   obtain ⟨h1,o,ho,_⟩:=mem_ready.1 hi
   have hil:i < ops.size:=(Array.getElem?_eq_some_iff.1 ho).1
   have h2:=hall i hil
   have hil2:i < listed.size:=by omega
   simp only [Array.getD_eq_getD_getElem?,Array.getElem?_eq_getElem hil2,Option.getD_some] at h1 h2
   rw [h1] at h2; cases h2
  | succ fuel ih =>
   intro listed g a w sl' j hj0 hat
   exact ⟨λ hr=>done listed g a w sl' j (nZ hat.sz hord' hr) hat.inv hat.kn hat.st,λ i hi=>step fuel (λ listed g a w sl' j h1 h2=>ih listed g a w sl' j h1 h2) listed g a w sl' j i (.inl hj0) hi hat⟩
 exact ⟨main,λ fuel listed g a w sl' j i=>step fuel (main fuel) listed g a w sl' j i⟩
theorem PAt.start {C:Cx}{ops:Array Oper}{S:fV}{fin:fe}{sl:List (Nat×AV)}{g:Gh}{a:Act}{w:World}(hb:fq sl (S.bas 0))(hs:St C.n C.w0 C.F g ⟨sl,S.obj 0⟩ a w) :
  PAt C ops S fin ops.size (Array.replicate ops.size false) g a w sl 0:=by
 refine ⟨by simp,?_,⟨Nat.zero_le _,λ i k hk=>?_,λ k o ho hk=>?_⟩,⟨λ i x hx=>fZ hb i x hx,λ k p hk _=>?_⟩,hs⟩
 ·unfold unl
  rw [List.filter_eq_self.2,List.length_range]
  intro j hj
  have:=List.mem_range.1 hj
  simp [this]
 ·constructor
  ·intro h
   exfalso
   rw [Array.getD_eq_getD_getElem?,Array.getElem?_replicate] at h
   split at h <;> simp at h
  ·intro h; omega
 ·exfalso
  rw [Array.getD_eq_getD_getElem?,Array.getElem?_replicate] at hk
  split at hk <;> simp at hk
 ·exfalso
  rw [Array.getD_eq_getD_getElem?,Array.getElem?_replicate] at hk
  split at hk <;> simp at hk
theorem qN {C:Cx}{id:Nat}{ops:Array Oper}{Q:Exit→AS→Prop}{sl:List (Nat×AV)}{ob:List (Nat×List AV)}(S:fV)(hm:C.P.follows .mixedOrders=true)(hlen:S.imp.length=S.m)(hob:S.obj 0=ob)(hb:fq sl (S.bas 0))
  (hbas:∀ j,j < S.m→fq (trL (S.D j) (S.bas j)) (S.bas (j+1))) (hnd:nodupB S.imp=true) (hin:S.imp.all (λ i=>Nat.blt i ops.size)=true) (hch:chainB ops S.imp=true)
  (hord:(ops.toList.zipIdx.all λ p=>p.1.after.toList.all λ e=>!(Region.binds .any e)||Nat.blt e.on p.2)=true) (h:DS C ops S (λ rev=>Q .normal ⟨gQ rev S.m++S.bas S.m,S.obj S.m⟩) ops.toList 0 []):awp C (.region id ops true) Q ⟨sl,ob⟩:=by
 subst hob
 intro g a w hs
 obtain ⟨fin,hfin,hP⟩:=tY.mk' hlen hbas hnd hin hord h
 refine wp_region_any hm ?_
 refine (ra hP (AS.le_refl _) hfin 0 ?_).1 _ _ g a _ sl 0 (Nat.zero_le _) (PAt.start hb hs.drew)
 intro fuel listed g a w sl' j _ hat i q hi hq hjq
 exfalso
 obtain ⟨h1,o,ho,hafter⟩:=mem_ready.1 hi
 cases q with
 | zero=>omega
 | succ q =>
  have hql:q < S.imp.length:=by have:=(List.getElem?_eq_some_iff.1 hq).1; omega
  have hb:=oR hch q S.imp[q] i o (List.getElem?_eq_getElem hql) hq ho
  have h3:=gf hat.inv.2.2 4 o S.imp[q] hb hafter
  have:=(hat.inv.2.1 q S.imp[q] (List.getElem?_eq_getElem hql)).1 h3
  omega
section
variable {C:Cx} {o:Oper} {K:AS→Prop} {sl:List (Nat×AV)} {ob:List (Nat×List AV)} {d:Nat}
end
end Go.Ab
end
section
namespace Go.Ab
def dK (P:Program)(f:FuncId)(args:List AV)(R:AV→Prop):Prop :=
 ∀ (w:World) (st:Nat→Nat→Prop) (vs:Array Value),Ok0 w st→vs.size=args.length →
  (∀ (i:Nat) c v,args[i]? = some c→vs[i]? = some v→ARep w ⟨st,λ _=>none⟩ c v) →
  Calls P f vs w λ e w'=>∃ v r g',e=.returned v∧R r∧ARep w' g' r v∧After w st w' g'
theorem dK.of_sub {P:Program}{f:FuncId}{args:List AV}{r:AV}(h:dK P f args (λ x=>x.sub r)):dK P f args (·=r) :=
 λ w st vs h0 h1 h2=>(h w st vs h0 h1 h2).mono λ _e _w' ⟨v,_,g',h3,h4,h5,h6⟩=>⟨v,r,g',h3,rfl,h4 _ _ _ h5,h6⟩
theorem aE.q {P:Program}{f:FuncId}{args:List PV}{R:AV→Prop}(h:aE P f args R):dK P f (args.map .p) R:=by
 intro w st vs h0 h1 h2
 refine h w st vs h0 (by simpa using h1) λ i c v hc hv=>?_
 have:=h2 i (.p c) v (by simp [hc]) hv
 cases this with | p h=>exact h
theorem np {P:Program}{tt:List (Nat×TI)}(good:ce P tt){f:FuncId}{fn:Func}{c:Code}{args:List AV}{r:AV}(hf:P.funcs[f]? = some fn)(hb:fn.body=some c)(hn:Nat.ble args.length fn.ntmps=true)(hnl:Nat.ble fn.ntmps M1=true)
  (h:∀ w0,awp ⟨P,tt,good,fn.ntmps,hnl,w0,λ b=>b < w0.w.heap.size⟩ c (qU tt fn (λ x=>x.sub r)) ⟨dV args,[]⟩):dK P f args (·=r):=by
 refine dK.of_sub ?_
 intro w st vs h0 h1 h2
 refine calls_of_wp hf hb ?_
 have hn:=Nat.le_of_ble_eq_true hn
 have hs:St fn.ntmps ⟨w,st,λ _=>none,h0.gl,(λ _ _ h=>nomatch h),[]⟩ (λ b=>b < w.heap.size) ⟨st,λ _=>none⟩ ⟨dV args,[]⟩ { tmps:=vs++Array.replicate (fn.ntmps - vs.size) Go.undef,defers:=[] } w:=by
  refine ⟨rfl,?_,?_,?_,?_,?_,?_,?_,?_,rfl,rfl,rfl,Nat.le_refl _,λ b _ o=>Iff.rfl,λ _ _ _=>rfl,eZ.refl _ _,λ i b _ h=>(by cases h),Ev.refl _ _⟩
  ·simp only [Array.size_append,Array.size_replicate]; omega
  ·intro i
   have:=iq args 0 i
   simp only [AS.get,dV,this,Nat.zero_le,if_true,Nat.sub_zero]
   cases ha:args[i]? with
   | none=>exact .undef _
   | some x =>
    have hi:i < args.length:=(List.getElem?_eq_some_iff.1 ha).1
    have hi2:i < vs.size:=by omega
    have e:(vs++Array.replicate (fn.ntmps - vs.size) Go.undef).getD i Go.undef=vs[i]:=by
     simp [Array.getD_eq_getD_getElem?,Array.getElem?_append,hi2]
    simp only [Option.getD_some]
    rw [e]
    exact h2 i x _ ha (Array.getElem?_eq_getElem hi2)
  ·intro id cs h; simp [look] at h
  ·intro i j b h; simp at h
  ·intro i b h; simp at h
  ·intro b o h; exact h0.lt b o h
  ·intro b h; exact h
  ·intro b h; rfl
 refine wp_mono (h ⟨w,st,λ _=>none,h0.gl,(λ _ _ h=>nomatch h),[]⟩ _ _ w hs) ?_
 rintro e a' w' ⟨g',s',h3,he,l,hl,hR⟩
 obtain ⟨v,hv,hr⟩:=gJ good h3 fn l hl
 have fin:∃ v,(results fn a'.tmps).run P w'=.ok v w'∧∃ v1 r1 g',Ending.returned v=.returned v1∧r1.sub r∧ARep w' g' r1 v1∧After w st w' g':=by
  refine ⟨v,hv,v,_,g',rfl,hR,hr,⟨h3.os,h3.out,h3.tape,h3.size,λ b hb=>h3.fr b hb,λ i b hi=>?_,h3.inj,h3.lt,h3.stf⟩⟩
  have:=h3.own i b hi
  exact ⟨Nat.le_of_not_lt this.2,this.1⟩
 rcases he with rfl | rfl
 ·exact ⟨h3.nd,fin⟩
 ·exact ⟨h3.nd,fin⟩
section
variable {C:Cx} {o:Oper} {K:AS→Prop} {sl:List (Nat×AV)} {ob:List (Nat×List AV)} {d:Nat}
theorem jY {f:FuncId}{q:List AV}{vs:Array Value}{R:AV→Prop}{g:Gh}{a:Act}{w:World}(hs:St C.n C.w0 C.F g ⟨sl,ob⟩ a w)(hc:dK C.P f q R)(hd:o.dst=some d)(hn:Nat.blt d C.n=true)
  (hsz:vs.size=q.length) (hargs:∀ (i:Nat) c v,q[i]? = some c→vs[i]? = some v→ARep w ⟨g.st,λ _=>none⟩ c v) (hrun:(execOp a.eval o).run C.P w=.ok (.enter f vs) w)
  (hK:∀ r,R r→∃ r',r.settle=some r'∧K ⟨(d,r')::sl,ob⟩):o.wp C.P a w (λ a' w'=>∃ g' s',St C.n C.w0 C.F g' s' a' w'∧K s') (λ _ _ _=>False):=by
 have hcall:=hc w g.st vs hs.ok0 hsz hargs
 unfold Oper.wp
 rw [hrun]
 simp only [Oper.upon]
 refine hcall.mono λ e w' ⟨v,r,g',he,hR,hr,hA⟩=>?_
 subst he
 obtain ⟨r',hr',hK'⟩:=hK r hR
 have hs':St C.n C.w0 C.F ⟨g'.st,g.ow⟩ ⟨sl,ob⟩ a w':=by
  refine hs.evolve0 (λ b o h=>?_) (λ id b h=>?_) hs.inj (λ i b h=>?_) hA.lt (λ b h=>?_) hA.os hA.out hA.tape hA.size (λ b hb o=>?_) (λ _ _=>rfl)
  ·have hlt:=hs.lt b o h
   exact ⟨(hA.stf b hlt o).2 h,by simp only [World.cell?,hA.fr b hlt]⟩
  ·have hlt:=(hs.own id b h).1
   exact ⟨h,hA.fr b hlt,λ o ho=>(hA.stf b hlt o).1 ho⟩
  ·have:=hs.own i b h; have:=hA.size; exact ⟨by omega,(hs.own i b h).2⟩
  ·have:=hs.fl b h; have:=hs.size; exact hA.fr b (by omega)
  ·have:=hs.fl b hb; have:=hs.size; exact hA.stf b (by omega) o
 have hp:=hs'.put (d:=o.dst) (λ t ht=>by rw [hd] at ht; cases ht; exact Nat.blt_eq ▸ hn) (lk (g:=g') (g':=⟨g'.st,g.ow⟩) rfl hr' hr)
 rw [hd] at hp
 simp only
 rw [hd]
 exact ⟨_,_,hp,hK'⟩
theorem uH {n:Nat}{w0:Base}{w:World}{F:Nat→Prop}{g:Gh}{a:Act}(hs:St n w0 F g ⟨sl,ob⟩ a w){args:Array Operand}{l l' q:List AV}(hl:fG sl args.toList=some l)(hl':AV.mapA.go (λ _=>none) l=some l')(hq:iS l' q) :
  (args.map a.eval).size=q.length∧∀ (i:Nat) c v,q[i]? = some c→(args.map a.eval)[i]? = some v→ARep w ⟨g.st,λ _=>none⟩ c v:=by
 obtain ⟨a1,a2⟩:=gA hs _ l hl
 obtain ⟨m1,m2⟩:=iC hl'
 obtain ⟨b1,b2⟩:=fJ hq
 refine ⟨by have hlen:=a1.symm.trans (m1.trans b1); simpa using hlen,λ i c v hc hv=>?_⟩
 have hi':i < l'.length:=by have:=(List.getElem?_eq_some_iff.1 hc).1; omega
 have hi:i < l.length:=by omega
 have hv':(args.toList.map a.eval)[i]? = some v:=by rw [← Array.toList_map]; simpa using hv
 have h1:=a2 i _ v (List.getElem?_eq_getElem hi) hv'
 have h2:=fk (g:=g) (g':=⟨g.st,λ _=>none⟩) rfl (λ i j b h _=>by cases h) h1 (m2 i _ _ (List.getElem?_eq_getElem hi) (List.getElem?_eq_getElem hi'))
 exact b2 i _ c (List.getElem?_eq_getElem hi') hc w _ v h2
theorem jl {f:FuncId}{args:Array Operand}{ts:Array TypeId}{l l' q:List AV}{r r':AV}(hc:dK C.P f q (·=r))(ho:o.op=.call { callee:=.value (.func f),args:=args,argTypes:=ts })
  (hd:o.dst=some d) (hn:Nat.blt d C.n=true) (hl:fG sl args.toList=some l) (hl':AV.mapA.go (λ _=>none) l=some l') (hq:iS l' q) (henter:∀ vs w,(callFunc f vs).run C.P w=.ok (.enter f vs) w)
  (hr:r.settle=some r') (hK:K ⟨(d,r')::sl,ob⟩):a8 C o K ⟨sl,ob⟩:=by
 intro g a w hs
 obtain ⟨h1,h2⟩:=uH hs hl hl' hq
 exact jY hs hc hd hn h1 h2 (by simp [execOp,ho,resolve,Act.eval,Deferred.ofValue,invoke,henter]) λ _ e=>e ▸ ⟨r',hr,hK⟩
theorem fj {F:FuncId}{caps:List AV}{t:Nat}{args:Array Operand}{ts:Array TypeId}{l l' q:List AV}{r r':AV}(hc:dK C.P F (q++caps) (·=r))(ho:o.op=.call { callee:=.value (.tmp t),args:=args,argTypes:=ts })
  (hd:o.dst=some d) (hn:Nat.blt d C.n=true) (hf:evo sl (.tmp t)=some (.func (.func F) caps)) (hcl:AV.mapA.go (λ _=>none) caps=some caps) (hl:fG sl args.toList=some l) (hl':AV.mapA.go (λ _=>none) l=some l') (hq:iS l' q)
  (henter:∀ vs w,(callFunc F vs).run C.P w=.ok (.enter F vs) w)
  (hr:r.settle=some r') (hK:K ⟨(d,r')::sl,ob⟩):a8 C o K ⟨sl,ob⟩:=by
 intro g a w hs
 obtain ⟨h1,h2⟩:=uH hs hl hl' hq
 have hfr:=bG hs hf
 generalize hv:a.eval (.tmp t)=v at hfr
 cases hfr with
 | func hcs hcr =>
  rename_i vs
  obtain ⟨m1,m2⟩:=iC hcl
  refine jY hs (vs:=args.map a.eval++vs) hc hd hn (by rw [Array.size_append,List.length_append,h1,hcs]) (λ i c v hc hv=>?_) (by simp [execOp,ho,resolve,hv,Deferred.ofValue,invoke,henter]) λ _ e=>e ▸ ⟨r',hr,hK⟩
  rw [List.getElem?_append] at hc
  rw [Array.getElem?_append] at hv
  split at hc
  ·rename_i hlt
   rw [if_pos (by omega)] at hv
   exact h2 i c v hc hv
  ·rename_i hge
   rw [if_neg (by omega),h1] at hv
   have h3:=hcr _ c v hc hv
   exact fk (g:=g) (g':=⟨g.st,λ _=>none⟩) rfl (λ i j b h _=>by cases h) h3 (m2 _ _ _ hc hc)
end
end Go.Ab
namespace Go.Ab
def by2 {α:Type}(a b:α):Nat→α
 | 0=>a
 | _+1=>b
def by3 {α:Type}(a b c:α):Nat→α
 | 0=>a
 | 1=>b
 | _+2=>c
theorem bO {p:Nat→Prop}(h0:p 0)(h1:∀ j,p (j+1)):∀ j,p j
 | 0=>h0
 | j+1=>h1 j
theorem gk {p:Nat→Prop}(h0:p 0)(h1:p 1)(h2:∀ j,p (j+2)):∀ j,p j
 | 0=>h0
 | 1=>h1
 | j+2=>h2 j
theorem lt1 {p:Nat→Prop}(h0:p 0):∀ j,j < 1→p j
 | 0,_=>h0
 | j+1,h=>absurd h (by omega)
theorem lt2 {p:Nat→Prop}(h0:p 0)(h1:p 1):∀ j,j < 2→p j
 | 0,_=>h0
 | 1,_=>h1
 | j+2,h=>absurd h (by omega)
def Stg (C:Cx)(ops:Array Oper)(S:fV)(o:Oper)(k:Nat)(rev:fe)(d:Nat)(v:Nat→AV):Nat→Prop
 | 0=>True
 | j+1=>(iZ ops S.imp o k j=true→∃ kn,KnS (S.bas j) o rev j kn∧j5 C ops (S.obj j) o kn d (v j))∧Stg C ops S o k rev d v j
section
variable {C:Cx} {ops:Array Oper} {S:fV} {K:fe→Prop} {o:Oper} {k:Nat} {rev:fe} {d:Nat} {v:Nat→AV}
theorem aN:Stg C ops S o k rev d v 0:=trivial
theorem bo {j:Nat}(h:iZ ops S.imp o k j=false)(r:Stg C ops S o k rev d v j):Stg C ops S o k rev d v (j+1):=⟨λ h'=>(Bool.noConfusion (h.symm.trans h')),r⟩
theorem aC {j:Nat}(kn:List (Nat×AV))(h1:KnS (S.bas j) o rev j kn)(h2:j5 C ops (S.obj j) o kn d (v j))(r:Stg C ops S o k rev d v j):Stg C ops S o k rev d v (j+1):=⟨λ _=>⟨kn,h1,h2⟩,r⟩
theorem sE:∀ {m:Nat},Stg C ops S o k rev d v m→∀ j,j < m→iZ ops S.imp o k j=true→∃ kn,KnS (S.bas j) o rev j kn∧j5 C ops (S.obj j) o kn d (v j)
 | 0,_,j,h,_=>absurd h (Nat.not_lt_zero _)
 | m+1,hm,j,h,ha=>by
  by_cases e:j=m
  ·subst e; exact hm.1 ha
  ·exact sE hm.2 j (by omega) ha
theorem aO {rest:List Oper}(v:Nat→AV)(hk:S.imp.findIdx? (Nat.beq k)=none)(hd:o.dst=some d)(hf:(rev.all λ p=>!(Nat.beq p.2.1 d))=true)(hb:∀ j,look (S.bas j) d=none)(hv:∀ j,j < S.m→v (j+1)=trA (S.D j) (v j))
  (hs:Stg C ops S o k rev d v (S.m+1)) (h:DS C ops S K rest (k+1) ((k,d,v)::rev)):DS C ops S K (o::rest) k rev:=by
 unfold DS
 rw [hk]
 exact ⟨d,v,hd,hf,hb,λ j hj _=>hv j hj,λ j hj ha=>sE hs j (by omega) ha,h⟩
theorem nl {b:Bool}{p:Prop}(hb:b=false)(h:b=true):p:=Bool.noConfusion (hb.symm.trans h)
theorem kQ {rest:List Oper}{i:Nat}(v:Nat→AV)(kn:List (Nat×AV))(hk:S.imp.findIdx? (Nat.beq k)=some i)(hkn:KnS (S.bas i) o rev i kn)(hd:o.dst=some d)(hf:(rev.all λ p=>!(Nat.beq p.2.1 d))=true)(hb:∀ j,look (S.bas (j+(i+1))) d=none)
  (hv:∀ j,j < S.m→i < j→v (j+1)=trA (S.D j) (v j))
  (hst:∀ sl,(∀ i x,look kn i=some x→look sl i=some x)→∀ K:AS→Prop,K ⟨(d,v (i+1))::trL (S.D i) sl,S.obj (i+1)⟩→One C ops o K ⟨sl,S.obj i⟩) (h:DS C ops S K rest (k+1) ((k,d,v)::rev)):DS C ops S K (o::rest) k rev:=by
 unfold DS
 rw [hk]
 exact ⟨kn,hkn,.inl ⟨d,v,hd,hf,λ j hj=>by have:=hb (j - (i+1)); rwa [show j - (i+1)+(i+1)=j by omega] at this,λ j h1 h2=>hv j h2 h1,hst,h⟩⟩
theorem sV {rest:List Oper}{i:Nat}(kn:List (Nat×AV))(hk:S.imp.findIdx? (Nat.beq k)=some i)(hkn:KnS (S.bas i) o rev i kn)(hd:o.dst=none)
  (hst:∀ sl,(∀ i x,look kn i=some x→look sl i=some x)→∀ K:AS→Prop,K ⟨trL (S.D i) sl,S.obj (i+1)⟩→One C ops o K ⟨sl,S.obj i⟩) (h:DS C ops S K rest (k+1) rev):DS C ops S K (o::rest) k rev:=by
 unfold DS
 rw [hk]
 exact ⟨kn,hkn,.inr ⟨hd,hst,h⟩⟩
theorem nB (h:K rev):DS C ops S K [] k rev:=h
end
theorem gT {m:Nat→Option Nat}:AV.mapA.go m []=some []:=rfl
theorem cv {m:Nat→Option Nat}{x y:AV}{r l:List AV}(h1:x.mapA m=some y)(h2:AV.mapA.go m r=some l):AV.mapA.go m (x::r)=some (y::l):=by
 simp only [AV.mapA.go,h1,h2]
theorem iD {m:Nat→Option Nat}{f:Fn}{cs l:List AV}(h:AV.mapA.go m cs=some l):(AV.func f cs).mapA m=some (.func f l):=by
 simp only [AV.mapA,h]
theorem jB {sl:List (Nat×AV)}{k:Nat}:gg sl k []=some []:=rfl
theorem fK {sl:List (Nat×AV)}{k:Nat}{x:Operand}{r:List (Nat×Operand)}{y:AV}{z:PV}{l:List PV}(h1:evo sl x=some y)(h2:y.toPV=some z)(h3:gg sl (k+1) r=some l):gg sl k ((k,x)::r)=some (z::l):=by
 have hb:Nat.beq k k=true:=by simp
 simp only [gg,hb,cond_true,h1,h3,h2]
theorem mF {sl:List (Nat×AV)}:dS sl []=some []:=rfl
theorem eQ {sl:List (Nat×AV)}{i:Nat}{x:Operand}{r:List (Nat×Operand)}{y:AV}{l:List (Nat×AV)}(h1:evo sl x=some y)(h2:dS sl r=some l):dS sl ((i,x)::r)=some ((i,y)::l):=by
 simp only [dS,h1,h2]
theorem pg {C:Cx}{c:Code}{Q:Exit→AS→Prop}{s:AS}(h:awp C c (λ e s=>∃ t,cT C s t∧Q e t) s):awp C c Q s:=by
 intro g a w hs
 refine wp_mono (h g a w hs) ?_
 rintro e a' w' ⟨g',s',h3,t,hg,hq⟩
 obtain ⟨g2,h4⟩:=hg g' a' w' h3
 exact ⟨g2,t,h4,hq⟩
def pJ (C:Cx)(tt:List (Nat×TI))(fn:Func)(ts ids:List Nat)(r:AV)(rob:List (Nat×List AV))(e:Exit)(s:AS):Prop :=
 ∃ t,cT C s t∧m7 tt fn ts ids (λ x y=>x.sub r∧leO y rob) e t
theorem pR {P:Program}{tt:List (Nat×TI)}(good:ce P tt){f:FuncId}{fn:Func}{c:Code}{args:List AV}{obs rob:List (Nat×List AV)}{r:AV}(ts ids:List Nat)(hf:P.funcs[f]? = some fn)(hb:fn.body=some c)
  (hn:Nat.ble args.length fn.ntmps=true) (hnl:Nat.ble fn.ntmps M1=true) (hts:ts.all (λ i=>Nat.blt i M1)=true) (hnd:nodupB ts=true)
  (h:∀ w0 F,awp ⟨P,tt,good,fn.ntmps,hnl,w0,F⟩ c (pJ ⟨P,tt,good,fn.ntmps,hnl,w0,F⟩ tt fn ts ids r rob) ⟨dV args,obs⟩):dx P f args obs (λ x y=>x=r∧y=rob) :=
 u6 good ts ids hf hb hn hnl hts hnd λ w0 F=>pg (h w0 F)
theorem ut {C:Cx}{tt:List (Nat×TI)}{fn:Func}{ts ids:List Nat}{r r1:AV}{rob obs obs':List (Nat×List AV)}{s t:AS}{l:List AV}(hg:cT C s t)(h1:g7 tt fn.results.toList t=some l)(h2:(kx l).mapA (hG ts)=some r1)
  (h3:fc t.ob ids=some obs) (h4:fy (hG ts) obs=some obs') (h5:r1.sub r) (h6:leO obs' rob):pJ C tt fn ts ids r rob .ret s:=⟨t,hg,sH h1 h2 h3 h4 ⟨h5,h6⟩⟩
theorem tW {C:Cx}{tt:List (Nat×TI)}{fn:Func}{ts ids:List Nat}{r r1:AV}{rob obs obs':List (Nat×List AV)}{s t:AS}{l:List AV}(hg:cT C s t)(h1:g7 tt fn.results.toList t=some l)(h2:(kx l).mapA (hG ts)=some r1)
  (h3:fc t.ob ids=some obs) (h4:fy (hG ts) obs=some obs') (h5:r1.sub r) (h6:leO obs' rob):pJ C tt fn ts ids r rob .normal s:=⟨t,hg,si h1 h2 h3 h4 ⟨h5,h6⟩⟩
end Go.Ab
end
section
namespace Go.Ab
section
variable {C:Cx} {o:Oper} {K:AS→Prop} {sl:List (Nat×AV)} {ob:List (Nat×List AV)} {d:Nat}
theorem eF {a:Int}(h:inR a):IntKind.wrap .i64 a=a:=IntWalk.i64_in a h
def dvI:BinOp→Int→Int→Option Int
 | .rem,a,b=>some (a.tmod b)
 | .quo,a,b=>some (IntKind.wrap .i64 (a.tdiv b))
 | _,_,_=>none
theorem rS {P:Program}{w:World}{op:BinOp}{t:TypeId}{a b c:Int}(hb:b≠0)(h:dvI op a b=some c) :
  (binOp op t (.int .i64 a) (.int .i64 b)).run P w=.ok (.int .i64 c) w:=by
 cases op <;> simp only [dvI,Option.some.injEq,reduceCtorEq] at h <;> subst h <;> simp [binOp,Op.intDiv,hb]
theorem vT {op:BinOp}{t t':TypeId}{x y:Operand}{a b c:Int}(ho:o.op=.binOp op t x y t')(hd:o.dst=some d)(hn:Nat.blt d C.n=true)
  (hx:evo sl x=some (.p (.val (.int .i64 a)))) (hy:evo sl y=some (.p (.val (.int .i64 b)))) (hc:dvI op a b=some c) (hb:b≠0)
  (hK:K ⟨(d,.p (.val (.int .i64 c)))::sl,ob⟩):a8 C o K ⟨sl,ob⟩ :=
 ok_one hd hn (λ g a w hs=>⟨_,by
  simp only [execOp,ho,bv hs hx,bv hs hy,Sem.run_bind,ff,Result.andThen_ok,rS hb hc,Sem.run_pure],.p (.val _)⟩) hK
end
end Go.Ab
end
section
namespace Go.Ab
open Go.Proofs
def tt:List (Nat×TI):=[
 (2,⟨.int .i64,1,8,[.int .i64 0]⟩),
 (3,⟨.int .i64,1,8,[.int .i64 0]⟩),
 (4,⟨.bool,1,1,[.bool false]⟩),
 (5,⟨.int .u8,1,1,[.int .u8 0]⟩),
 (6,⟨.int .u8,1,1,[.int .u8 0]⟩),
 (7,⟨.struct [(0,2),(1,3),(2,4),(3,6)],4,24,[.int .i64 0,.int .i64 0,.bool false,.int .u8 0]⟩),
 (8,⟨.struct [(0,2),(1,3),(2,4),(3,6)],4,24,[.int .i64 0,.int .i64 0,.bool false,.int .u8 0]⟩),
 (9,⟨.string,1,16,[.string ⟨#[]⟩]⟩),
 (10,⟨.string,1,16,[.string ⟨#[]⟩]⟩),
 (11,⟨.string,1,16,[.string ⟨#[]⟩]⟩),
 (12,⟨.int .u64,1,8,[.int .u64 0]⟩),
 (13,⟨.struct [(0,9),(1,12)],2,24,[.string ⟨#[]⟩,.int .u64 0]⟩),
 (14,⟨.struct [(0,9),(1,12)],2,24,[.string ⟨#[]⟩,.int .u64 0]⟩),
 (15,⟨.ptr 133,1,8,[.pointer none]⟩),
 (16,⟨.ptr 136,1,8,[.pointer none]⟩),
 (17,⟨.ptr 144,1,8,[.pointer none]⟩),
 (18,⟨.struct [(0,17)],1,8,[.pointer none]⟩),
 (19,⟨.struct [(0,17)],1,8,[.pointer none]⟩),
 (20,⟨.iface,1,16,[.nilIface]⟩),
 (21,⟨.int .i32,1,4,[.int .i32 0]⟩),
 (22,⟨.int .i64,1,8,[.int .i64 0]⟩),
 (23,⟨.int .i64,1,8,[.int .i64 0]⟩),
 (24,⟨.int .i64,1,8,[.int .i64 0]⟩),
 (25,⟨.slice 28,1,24,[.slice none 0 0]⟩),
 (26,⟨.slice 9,1,24,[.slice none 0 0]⟩),
 (27,⟨.struct [(0,24),(1,3),(2,9),(3,25),(4,26)],5,80,[.int .i64 0,.int .i64 0,.string ⟨#[]⟩,.slice none 0 0,.slice none 0 0]⟩),
 (28,⟨.struct [(0,24),(1,3),(2,9),(3,25),(4,26)],5,80,[.int .i64 0,.int .i64 0,.string ⟨#[]⟩,.slice none 0 0,.slice none 0 0]⟩),
 (29,⟨.slice 31,1,24,[.slice none 0 0]⟩),
 (30,⟨.struct [(0,22),(1,23),(2,9),(3,9),(4,28),(9,29),(10,3)],11,160,[.int .i64 0,.int .i64 0,.string ⟨#[]⟩,.string ⟨#[]⟩,.int .i64 0,.int .i64 0,.string ⟨#[]⟩,.slice none 0 0,.slice none 0 0,.slice none 0 0,.int .i64 0]⟩),
 (31,⟨.struct [(0,22),(1,23),(2,9),(3,9),(4,28),(9,29),(10,3)],11,160,[.int .i64 0,.int .i64 0,.string ⟨#[]⟩,.string ⟨#[]⟩,.int .i64 0,.int .i64 0,.string ⟨#[]⟩,.slice none 0 0,.slice none 0 0,.slice none 0 0,.int .i64 0]⟩),
 (39,⟨.int .i64,1,8,[.int .i64 0]⟩),
 (42,⟨.struct [(0,9),(1,31),(12,3)],13,184,[.string ⟨#[]⟩,.int .i64 0,.int .i64 0,.string ⟨#[]⟩,.string ⟨#[]⟩,.int .i64 0,.int .i64 0,.string ⟨#[]⟩,.slice none 0 0,.slice none 0 0,.slice none 0 0,.int .i64 0,.int .i64 0]⟩),
 (43,⟨.struct [(0,9),(1,31),(12,3)],13,184,[.string ⟨#[]⟩,.int .i64 0,.int .i64 0,.string ⟨#[]⟩,.string ⟨#[]⟩,.int .i64 0,.int .i64 0,.string ⟨#[]⟩,.slice none 0 0,.slice none 0 0,.slice none 0 0,.int .i64 0,.int .i64 0]⟩),
 (44,⟨.slice 43,1,24,[.slice none 0 0]⟩),
 (45,⟨.slice 49,1,24,[.slice none 0 0]⟩),
 (46,⟨.struct [(0,44),(1,45)],2,48,[.slice none 0 0,.slice none 0 0]⟩),
 (47,⟨.struct [(0,44),(1,45)],2,48,[.slice none 0 0,.slice none 0 0]⟩),
 (48,⟨.struct [(0,9),(1,26),(2,47),(4,3)],5,96,[.string ⟨#[]⟩,.slice none 0 0,.slice none 0 0,.slice none 0 0,.int .i64 0]⟩),
 (49,⟨.struct [(0,9),(1,26),(2,47),(4,3)],5,96,[.string ⟨#[]⟩,.slice none 0 0,.slice none 0 0,.slice none 0 0,.int .i64 0]⟩),
 (62,⟨.ptr 65,1,8,[.pointer none]⟩),
 (63,⟨.slice 5,1,24,[.slice none 0 0]⟩),
 (64,⟨.struct [(0,62),(1,63)],2,32,[.pointer none,.slice none 0 0]⟩),
 (65,⟨.struct [(0,62),(1,63)],2,32,[.pointer none,.slice none 0 0]⟩),
 (76,⟨.iface,1,16,[.nilIface]⟩),
 (77,⟨.iface,1,16,[.nilIface]⟩),
 (84,⟨.array 16 9,16,256,[.string ⟨#[]⟩,.string ⟨#[]⟩,.string ⟨#[]⟩,.string ⟨#[]⟩,.string ⟨#[]⟩,.string ⟨#[]⟩,.string ⟨#[]⟩,.string ⟨#[]⟩,.string ⟨#[]⟩,.string ⟨#[]⟩,.string ⟨#[]⟩,.string ⟨#[]⟩,.string ⟨#[]⟩,.string ⟨#[]⟩,.string ⟨#[]⟩,.string ⟨#[]⟩]⟩),
 (85,⟨.ptr 5,1,8,[.pointer none]⟩),
 (100,⟨.array 24 5,24,24,[.int .u8 0,.int .u8 0,.int .u8 0,.int .u8 0,.int .u8 0,.int .u8 0,.int .u8 0,.int .u8 0,.int .u8 0,.int .u8 0,.int .u8 0,.int .u8 0,.int .u8 0,.int .u8 0,.int .u8 0,.int .u8 0,.int .u8 0,.int .u8 0,.int .u8 0,.int .u8 0,.int .u8 0,.int .u8 0,.int .u8 0,.int .u8 0]⟩),
 (101,⟨.int .u64,1,8,[.int .u64 0]⟩),
 (113,⟨.array 20 101,20,160,[.int .u64 0,.int .u64 0,.int .u64 0,.int .u64 0,.int .u64 0,.int .u64 0,.int .u64 0,.int .u64 0,.int .u64 0,.int .u64 0,.int .u64 0,.int .u64 0,.int .u64 0,.int .u64 0,.int .u64 0,.int .u64 0,.int .u64 0,.int .u64 0,.int .u64 0,.int .u64 0]⟩),
 (114,⟨.int .u32,1,4,[.int .u32 0]⟩),
 (116,⟨.int .u64,1,8,[.int .u64 0]⟩),
 (121,⟨.array 256 5,256,256,List.replicate 256 (.int .u8 0)⟩),
 (122,⟨.struct [(0,5),(1,5)],2,2,[.int .u8 0,.int .u8 0]⟩),
 (123,⟨.struct [(0,5),(1,5)],2,2,[.int .u8 0,.int .u8 0]⟩),
 (124,⟨.array 16 123,32,32,[.int .u8 0,.int .u8 0,.int .u8 0,.int .u8 0,.int .u8 0,.int .u8 0,.int .u8 0,.int .u8 0,.int .u8 0,.int .u8 0,.int .u8 0,.int .u8 0,.int .u8 0,.int .u8 0,.int .u8 0,.int .u8 0,.int .u8 0,.int .u8 0,.int .u8 0,.int .u8 0,.int .u8 0,.int .u8 0,.int .u8 0,.int .u8 0,.int .u8 0,.int .u8 0,.int .u8 0,.int .u8 0,.int .u8 0,.int .u8 0,.int .u8 0,.int .u8 0]⟩),
 (127,⟨.array 32 5,32,32,[.int .u8 0,.int .u8 0,.int .u8 0,.int .u8 0,.int .u8 0,.int .u8 0,.int .u8 0,.int .u8 0,.int .u8 0,.int .u8 0,.int .u8 0,.int .u8 0,.int .u8 0,.int .u8 0,.int .u8 0,.int .u8 0,.int .u8 0,.int .u8 0,.int .u8 0,.int .u8 0,.int .u8 0,.int .u8 0,.int .u8 0,.int .u8 0,.int .u8 0,.int .u8 0,.int .u8 0,.int .u8 0,.int .u8 0,.int .u8 0,.int .u8 0,.int .u8 0]⟩),
 (132,⟨.struct [(0,17),(1,17),(2,17),(3,9)],4,40,[.pointer none,.pointer none,.pointer none,.string ⟨#[]⟩]⟩),
 (133,⟨.struct [(0,17),(1,17),(2,17),(3,9)],4,40,[.pointer none,.pointer none,.pointer none,.string ⟨#[]⟩]⟩),
 (134,⟨.array 0 16,0,0,[]⟩),
 (135,⟨.struct [(0,134)],0,0,[]⟩),
 (136,⟨.struct [(0,134)],0,0,[]⟩),
 (138,⟨.int .u8,1,1,[.int .u8 0]⟩),
 (139,⟨.int .u8,1,1,[.int .u8 0]⟩),
 (141,⟨.int .i32,1,4,[.int .i32 0]⟩),
 (142,⟨.int .i32,1,4,[.int .i32 0]⟩),
 (143,⟨.struct [(0,12),(1,12),(2,114),(3,138),(4,5),(5,5),(6,139),(7,140),(8,85),(9,141),(10,142)],11,48,[.int .u64 0,.int .u64 0,.int .u32 0,.int .u8 0,.int .u8 0,.int .u8 0,.int .u8 0,.nilFunc,.pointer none,.int .i32 0,.int .i32 0]⟩),
 (144,⟨.struct [(0,12),(1,12),(2,114),(3,138),(4,5),(5,5),(6,139),(7,140),(8,85),(9,141),(10,142)],11,48,[.int .u64 0,.int .u64 0,.int .u32 0,.int .u8 0,.int .u8 0,.int .u8 0,.int .u8 0,.nilFunc,.pointer none,.int .i32 0,.int .i32 0]⟩)]
theorem good:ce Tryd.prog tt:=by
 unfold tt
 simp only [ce]
 refine ⟨?_,?_,?_,?_,?_,?_,?_,?_,?_,?_,?_,?_,?_,?_,?_,?_,?_,?_,?_,?_,?_,?_,?_,?_,?_,?_,?_,?_,?_,?_,?_,?_,?_,?_,?_,?_,?_,?_,?_,?_,?_,?_,?_,?_,?_,?_,?_,?_,?_,?_,?_,?_,?_,?_,?_,?_,?_,?_,?_,?_,?_,?_,?_,?_,?_,?_,?_,?_,trivial⟩
 all_goals exact ⟨by kernel_rfl,by kernel_rfl⟩
end Go.Ab
end
section
namespace Go.Ab
def de (k:IntKind)(a b:Int):Int:=k.wrap ((BitVec.ofInt k.bits a &&& BitVec.ofInt k.bits b).toNat:Nat)
def iOr (k:IntKind)(a b:Int):Int:=k.wrap ((BitVec.ofInt k.bits a ||| BitVec.ofInt k.bits b).toNat:Nat)
def iXor (k:IntKind)(a b:Int):Int:=k.wrap ((BitVec.ofInt k.bits a ^^^ BitVec.ofInt k.bits b).toNat:Nat)
def qf (k:IntKind)(a b:Int):Int:=k.wrap ((BitVec.ofInt k.bits a &&& ~~~(BitVec.ofInt k.bits b)).toNat:Nat)
def tI (k:IntKind):BinOp→Int→Int→Option Int
 | .and,a,b=>some (de k a b)
 | .or,a,b=>some (iOr k a b)
 | .xor,a,b=>some (iXor k a b)
 | .andNot,a,b=>some (qf k a b)
 | _,_,_=>none
def ep (k:IntKind)(a b:Int):Int:=k.wrap (a*2 ^ (min b.toNat k.bits))
def iShr (k:IntKind)(a b:Int):Int:=a.fdiv (2 ^ (min b.toNat k.bits))
def shI (k:IntKind):BinOp→Int→Int→Option Int
 | .shl,a,b=>some (ep k a b)
 | .shr,a,b=>some (iShr k a b)
 | _,_,_=>none
theorem qR {P:Program}{w:World}{op:BinOp}{t:TypeId}{k:IntKind}{a b c:Int}(h:tI k op a b=some c) :
  (binOp op t (.int k a) (.int k b)).run P w=.ok (.int k c) w:=by
 cases op <;> simp only [tI,Option.some.injEq,reduceCtorEq] at h <;> subst h <;> simp [binOp,Op.intBits,de,iOr,iXor,qf]
theorem sA {P:Program}{w:World}{op:BinOp}{t:TypeId}{k k':IntKind}{a b c:Int}(hb:0≤b)(h:shI k op a b=some c) :
  (binOp op t (.int k a) (.int k' b)).run P w=.ok (.int k c) w:=by
 have hb':¬ b < 0:=by omega
 cases op <;> simp only [shI,Option.some.injEq,reduceCtorEq] at h <;> subst h <;> simp [binOp,Op.shift,hb',ep,iShr]
section
variable {C:Cx} {o:Oper} {K:AS→Prop} {sl:List (Nat×AV)} {ob:List (Nat×List AV)} {d:Nat}
theorem uY {op:BinOp}{t t':TypeId}{x y:Operand}{k:IntKind}{a b c:Int}(ho:o.op=.binOp op t x y t')(hd:o.dst=some d)(hn:Nat.blt d C.n=true)
  (hx:evo sl x=some (.p (.val (.int k a)))) (hy:evo sl y=some (.p (.val (.int k b)))) (hc:tI k op a b=some c)
  (hK:K ⟨(d,.p (.val (.int k c)))::sl,ob⟩):a8 C o K ⟨sl,ob⟩ :=
 ok_one hd hn (λ g a w hs=>⟨_,by
  simp only [execOp,ho,bv hs hx,bv hs hy,Sem.run_bind,ff,Result.andThen_ok,qR hc,Sem.run_pure],.p (.val _)⟩) hK
theorem mL {op:BinOp}{t t':TypeId}{x y:Operand}{k k':IntKind}{a b c:Int}(ho:o.op=.binOp op t x y t')(hd:o.dst=some d)(hn:Nat.blt d C.n=true)
  (hx:evo sl x=some (.p (.val (.int k a)))) (hy:evo sl y=some (.p (.val (.int k' b)))) (hc:shI k op a b=some c) (hb:0≤b)
  (hK:K ⟨(d,.p (.val (.int k c)))::sl,ob⟩):a8 C o K ⟨sl,ob⟩ :=
 ok_one hd hn (λ g a w hs=>⟨_,by
  simp only [execOp,ho,bv hs hx,bv hs hy,Sem.run_bind,ff,Result.andThen_ok,sA hb hc,Sem.run_pure],.p (.val _)⟩) hK
end
def eU (b:UInt8):PV:=.val (.int .u8 (b.toNat:Int))
def u8 (n:Int):UInt8:=UInt8.ofNat n.toNat
theorem vU {n:Int}(h:(0:Int)≤n∧n < 256):eK .u8 n=eU (u8 n):=by
 unfold eK eU u8
 have:(((UInt8.ofNat n.toNat).toNat:Nat):Int)=n:=by
  rw [UInt8.toNat_ofNat',Nat.mod_eq_of_lt (by omega)]; omega
 rw [this]
theorem u0 (b:UInt8):u8 (b.toNat:Int)=b:=by simp [u8]
section
variable {C:Cx} {o:Oper} {K:AS→Prop} {sl:List (Nat×AV)} {ob:List (Nat×List AV)} {d:Nat}
theorem sF (l0 l:Bytes){t tx e:TypeId}{x y:Operand}{k ty:Nat}{i ie j:TI}(ho:o.op=.call { callee:=.builtin .append,args:=#[x,y],argTypes:=#[t,tx] })(hd:o.dst=some d)(hn:Nat.blt d C.n=true)
  (hi:look C.tt t=some i) (hik:i.k=.slice e) (hie:look C.tt e=some ie) (hj:look C.tt tx=some j) (hjk:j.k=.string) (hx:evo sl x=some (.vec k 1 ty (l0.map eU))) (hk:Nat.blt k M1=true)
  (hy:evo sl y=some (.p (eS l))) (h1:ie.size=1) (hzl:Nat.beq ie.zero.length ie.size=true) (hby:Nat.blt 0 ie.bytes=true)
  (hty:(Nat.beq ty 0||Nat.beq ty (e+1))=true) (hlen:(l0.length+l.length)*ie.bytes≤140737488355328)
  (hK:K ⟨(d,.vec d 1 ty ((l0++l).map eU))::(dF (λ i=>Nat.beq i k||Nat.beq i d) ⟨sl,ob⟩).sl,(dF (λ i=>Nat.beq i k||Nat.beq i d) ⟨sl,ob⟩).ob⟩):a8 C o K ⟨sl,ob⟩:=by
 have hby':1≤ie.bytes:=Nat.succ_le_of_lt (by simpa using hby)
 have h2:(l0.length+l.length)*1≤(l0.length+l.length)*ie.bytes:=Nat.mul_le_mul_left _ hby'
 exact j9 ho hd hn hi hik hie hx hk h1 (ys:=l.map eU) (h1 ▸ qV hj hjk hy) (λ y hy=>by obtain ⟨x,_,rfl⟩:=List.mem_map.1 hy; rw [h1]; rfl) (by rw [h1]; rfl) hzl (by rw [List.length_map,List.length_map]; exact hlen) (by rw [List.length_map,List.length_map]; omega) hty
  (by rw [← List.map_append]; exact hK)
def eE (b:Bool):PV:=bif b then .ifc else .val .nilIface
theorem sM {st dt:TypeId}{x:Operand}{k k':IntKind}{a:Int}{i j:TI}(ho:o.op=.convert st dt x)(hd:o.dst=some d)(hn:Nat.blt d C.n=true)
  (hi:look C.tt st=some i) (hik:i.k=.int k') (hj:look C.tt dt=some j) (hjk:j.k=.int k) (hx:evo sl x=some (.p (.val (.int k' a))))
  (hK:K ⟨(d,.p (.val (.int k (k.wrap a))))::sl,ob⟩):a8 C o K ⟨sl,ob⟩:=by
 obtain ⟨u,h1,h2⟩:=bw C.good hj
 have h3:=gv (h2.trans hjk)
 obtain ⟨u',h1',h2'⟩:=bw C.good hi
 have h3':=gv (h2'.trans hik)
 subst h3 h3'
 exact ok_one hd hn (λ g b w hs=>⟨_,by simp [execOp,ho,bv hs hx,convert,run_underlying h1,run_underlying h1',Conv.intToInt],.p (.val _)⟩) hK
end
theorem lY {u:TypeDesc}{n e:Nat}(h:kindOf u=.array n e):u=.array n e:=by cases u <;> simp [kindOf] at h; obtain ⟨rfl,rfl⟩:=h; rfl
section
variable {C:Cx} {o:Oper} {K:AS→Prop} {sl:List (Nat×AV)} {ob:List (Nat×List AV)} {d:Nat}
theorem oO {t m e:Nat}{parts:Array (Nat×Operand)}{i ie:TI}{ps:List (Nat×AV)}{cs:List AV}{y:AV}(ho:o.op=.build t parts)(hd:o.dst=some d)(hn:Nat.blt d C.n=true)
  (hi:look C.tt t=some i) (hik:i.k=.array m e) (hie:look C.tt e=some ie) (hps:dS sl parts.toList=some ps) (hf:ka (λ (k:Nat)=>some (k*ie.size,ie.size)) (cM i) ps=some cs) (hy:some (iU cs)=some y)
  (hK:K ⟨(d,y)::sl,ob⟩):a8 C o K ⟨sl,ob⟩:=by
 cases hy
 obtain ⟨u,h1,h2⟩:=bw C.good hi
 have h3:=lY (h2.trans hik)
 subst h3
 refine ok_one hd hn (λ g a w hs=>?_) hK
 obtain ⟨z,hz1,hz2⟩:=eY C.good hi w
 obtain ⟨q1,q2⟩:=ij hs _ ps hps
 obtain ⟨c',f1,f2,f3⟩:=jC (place:=λ (k:Nat)=>some (k*ie.size,ie.size)) ps (parts.toList.map λ p=>(p.1,a.eval p.2)) (cM i) cs z.cells q1 q2 (by simp [cM,← hz2]) (λ k x v hx hv=>by
  simp only [cM,List.getElem?_map,Option.map_eq_some_iff,← hz2,Array.getElem?_toList] at hx
  obtain ⟨u,hu,rfl⟩:=hx
  rw [hv] at hu; cases hu
  exact .p (.val _)) hf
 refine ⟨.agg c',?_,iJ f2 f3⟩
 have e1:(parts.map λ (i,x)=>(i,a.eval x)).toList=parts.toList.map λ p=>(p.1,a.eval p.2):=by rw [Array.toList_map]
 simp only [execOp,ho,Instr.build,Sem.run_bind,hz1,Result.andThen_ok,run_underlying h1,run_sizeOf C.good hie,e1,f1,Sem.run_pure]
theorem lU {t m e:Nat}{x y:Operand}{i ie:TI}{k:IntKind}{n:Int}{id q:Nat}(ho:o.op=.indexAddr t x y)(hd:o.dst=some d)(hn:Nat.blt d C.n=true)
  (hi:look C.tt t=some i) (hik:i.k=.array m e) (hie:look C.tt e=some ie) (hx:evo sl x=some (.ptr id q))
  (hy:evo sl y=some (.p (.val (.int k n)))) (hb:0≤n∧n < m)
  (hK:K ⟨(d,.ptr id (q+n.toNat*ie.size))::sl,ob⟩):a8 C o K ⟨sl,ob⟩:=by
 obtain ⟨u,h1,h2⟩:=bw C.good hi
 have h3:=lY (h2.trans hik)
 subst h3
 refine ok_one hd hn (λ g a w hs=>?_) hK
 have h5:=bG hs hx
 generalize hv:a.eval x=v at h5
 cases h5 with
 | ptr how =>
  rename_i b
  exact ⟨.pointer (some ⟨b,q+n.toNat*ie.size,none⟩),by simp [execOp,ho,hv,bv hs hy,Instr.indexAt,Instr.sureAddr,asIntOf,run_underlying h1,hb.1,hb.2,run_sizeOf C.good hie,add_lit],.ptr how⟩
theorem kq {t m e:Nat}{x y:Operand}{i ie:TI}{k:IntKind}{n:Int}{id:Nat}(ho:o.op=.indexAddr t x y)(hd:o.dst=some d)(hn:Nat.blt d C.n=true)
  (hi:look C.tt t=some i) (hik:i.k=.array m e) (hie:look C.tt e=some ie) (hs1:ie.size=1) (hx:evo sl x=some (.ptr id 0))
  (hy:evo sl y=some (.p (.val (.int k n)))) (hb:0≤n∧n < m)
  (hK:K ⟨(d,.ptr id n.toNat)::sl,ob⟩):a8 C o K ⟨sl,ob⟩ :=
 lU ho hd hn hi hik hie hx hy hb (by rw [hs1,Nat.mul_one,Nat.zero_add]; exact hK)
end
end Go.Ab
end
section
namespace Go.Ab
theorem bq {c:Int}(h1:-9223372036854775808≤c)(h2:c≤9223372036854775807):inR c:=⟨h1,h2⟩
theorem iH (l:Bytes)(k:Nat):byt l (k:Int)=((l.getD k 0).toNat:Int):=rfl
theorem p9 {α:Type} [Inhabited α] (l:List α)(k:Nat):lat l (k:Int)=l.getD k default:=rfl
theorem qy {α:Type}(l:List α)(i j:Nat):sub l (i:Int) (j:Int)=(l.take j).drop i:=rfl
theorem sJ {α:Type}(l:List α)(i:Int):sub l i (l.length:Int)=l.drop i.toNat:=by
 show (l.take (l.length:Int).toNat).drop i.toNat=_
 rw [Int.toNat_natCast,List.take_length]
theorem vx {α β:Type}(v:α)(k:α→Option β):jn (some (.inl v)) k=k v:=rfl
theorem vq {α β:Type}(x:β)(k:α→Option β):jn (some (.inr x)) k=some x:=rfl
end Go.Ab
namespace Go.Ab
def Ev2 {α:Type}(f:Nat→Nat→Option α)(P:α→Prop):Prop:=∃ r,P r∧∃ N,∀ n m,N≤n→N≤m→f n m=some r
section
variable {α β γ:Type} {P:α→Prop} {Q:β→Prop}
theorem ac {r:α}(h:P r):Ev2 (λ _ _=>some r) P:=⟨r,h,0,λ _ _ _ _=>rfl⟩
theorem ap {p:Prop} [Decidable p] {f:Nat→Nat→Option α}(hp:p)(h:Ev2 f P):Ev2 (λ n m=>ck p (f n m)) P:=by
 obtain ⟨r,h1,N,h2⟩:=h
 exact ⟨r,h1,N,λ n m hn hm=>(bL hp).trans (h2 n m hn hm)⟩
theorem aB {p:Prop} [Decidable p] {f g:Nat→Nat→Option α}(h1:p→Ev2 f P)(h2:¬p→Ev2 g P):Ev2 (λ n m=>if p then f n m else g n m) P:=by
 by_cases h:p
 ·simpa only [if_pos h] using h1 h
 ·simpa only [if_neg h] using h2 h
theorem aT {p:Prop} [Decidable p] {f g:Nat→Nat→Option α}(hp:p)(h:Ev2 f P):Ev2 (λ n m=>if p then f n m else g n m) P:=aB (λ _=>h) (λ k=>absurd hp k)
theorem ai {p:Prop} [Decidable p] {f g:Nat→Nat→Option α}(hp:¬p)(h:Ev2 g P):Ev2 (λ n m=>if p then f n m else g n m) P:=aB (λ k=>absurd k hp) (λ _=>h)
theorem dd {f:Nat→Nat→Option α}{P':α→Prop}(h:Ev2 f P)(hp:∀ r,P r→P' r):Ev2 f P':=by
 obtain ⟨r,h1,h2⟩:=h
 exact ⟨r,hp r h1,h2⟩
theorem ub {g:Nat→Nat→Option β}{k:Nat→Nat→β→Option α}(h:Ev2 g (λ x=>Ev2 (λ n m=>k n m x) P)):Ev2 (λ n m=>(g n m).bind (k n m)) P:=by
 obtain ⟨x,⟨r,h1,N,h2⟩,M,h3⟩:=h
 exact ⟨r,h1,N+M,λ n m hn hm=>(congrArg (λ o=>Option.bind o (k n m)) (h3 n m (by omega) (by omega))).trans (h2 n m (by omega) (by omega))⟩
theorem bj {g:Nat→Nat→Option β}{k:Nat→Nat→β→Option α}(Q:β→Prop)(h:Ev2 g Q)(hk:∀ x,Q x→Ev2 (λ n m=>k n m x) P):Ev2 (λ n m=>(g n m).bind (k n m)) P :=
 ub (dd h hk)
theorem kY {g:Nat→Nat→Option (β⊕α)}{k:Nat→Nat→β→Option α}(h:Ev2 g (λ s=>match s with | .inl x=>Ev2 (λ n m=>k n m x) P | .inr y=>P y)):Ev2 (λ n m=>jn (g n m) (k n m)) P:=by
 obtain ⟨s,h1,M,h3⟩:=h
 cases s with
 | inl x =>
  obtain ⟨r,h1,N,h2⟩:=h1
  exact ⟨r,h1,N+M,λ n m hn hm=>(congrArg (λ o=>jn o (k n m)) (h3 n m (by omega) (by omega))).trans (h2 n m (by omega) (by omega))⟩
 | inr y=>exact ⟨y,h1,M,λ n m hn hm=>(congrArg (λ o=>jn o (k n m)) (h3 n m hn hm)).trans rfl⟩
theorem nu {g:Nat→Nat→Option (β⊕α)}{k:Nat→Nat→β→Option α}(x:β)(h:Ev2 g (·=.inl x))(hk:Ev2 (λ n m=>k n m x) P):Ev2 (λ n m=>jn (g n m) (k n m)) P :=
 kY (dd h λ r hr=>by subst hr; exact hk)
theorem rN {g:Nat→Nat→Option (β⊕α)}{k:Nat→Nat→β→Option α}(y:α)(h:Ev2 g (·=.inr y))(hy:P y):Ev2 (λ n m=>jn (g n m) (k n m)) P :=
 kY (dd h λ r hr=>by subst hr; exact hy)
theorem bM {f:Nat→Option α}(h:Ev2 (λ n _=>f (n+1)) P):Ev2 (λ n _=>f n) P:=by
 obtain ⟨r,h1,N,h2⟩:=h
 refine ⟨r,h1,N+1,λ n m hn hm=>?_⟩
 obtain ⟨n,rfl⟩:∃ k,n=k+1:=⟨n - 1,by omega⟩
 exact h2 n n (by omega) (by omega)
theorem aW {f:Nat→Nat→Option α}(h:Ev2 (λ n m=>f n (m+1)) P):Ev2 f P:=by
 obtain ⟨r,h1,N,h2⟩:=h
 refine ⟨r,h1,N+1,λ n m hn hm=>?_⟩
 obtain ⟨m,rfl⟩:∃ k,m=k+1:=⟨m - 1,by omega⟩
 exact h2 n m (by omega) (by omega)
theorem cS {f:Nat→Nat→Option α}(h:Ev2 f P):Ev2 (λ n _=>f n n) P:=by
 obtain ⟨r,h1,N,h2⟩:=h
 exact ⟨r,h1,N,λ n _ hn _=>h2 n n hn hn⟩
theorem vz {f:Nat→Option α}(h:Ev2 (λ n _=>f n) P):∃ n r,f n=some r∧P r:=by
 obtain ⟨r,h1,N,h2⟩:=h
 exact ⟨N,r,h2 N N (Nat.le_refl _) (Nat.le_refl _),h1⟩
theorem aP {o:Option α}{r:α}(h:o=some r)(hp:P r):Ev2 (λ _ _=>o) P:=⟨r,hp,0,λ _ _ _ _=>h⟩
theorem tH {f:Nat→Nat→Option α}{P':α→Prop}(h:Ev2 f P)(h':Ev2 f P'):∃ r,P r∧P' r∧Ev2 f (·=r):=by
 obtain ⟨r,h1,N,h2⟩:=h
 obtain ⟨r',h1',N',h2'⟩:=h'
 have:=(h2 (N+N') (N+N') (by omega) (by omega)).symm.trans (h2' (N+N') (N+N') (by omega) (by omega))
 cases this
 exact ⟨r,h1,h1',r,rfl,N,h2⟩
end
theorem vr {i:Int}{l:Nat}(h:0≤i∧i < (l:Int)):∃ k:Nat,i=k∧k < l:=⟨i.toNat,by omega,by omega⟩
theorem kH {α:Type} [Inhabited α] (l:List α)(k:Nat)(h:k < l.length):lat l (k:Int)=l[k]:=by
 rw [p9,List.getD_eq_getElem?_getD,List.getElem?_eq_getElem h]; rfl
theorem dX {α:Type} [Inhabited α] {l:List α}{i:Int}(h:0≤i∧i < (l.length:Int)):lat l i∈l:=by
 obtain ⟨k,rfl,hk⟩:=vr h
 rw [kH l k hk]; exact List.getElem_mem hk
end Go.Ab
end
section
namespace Go.Ab
class UW (p:Prop) (q:outParam Prop):Prop where
 go:q→p
class UO (p:Prop) (b:outParam Bool) (q:outParam Prop):Prop where
 go:b=false→q→p
section
variable {K P:AS→Prop} {Q:Exit→AS→Prop} {s:AS} {id id':Nat}
instance:UW (jp K Q .ret s) (Q .ret s):=⟨qT⟩
instance:UW (jp K Q (.exit id) s) (Q (.exit id) s):=⟨oX⟩
instance:UW (eD id Q .ret s) (Q .ret s):=⟨pT⟩
instance:UW (eD id Q .normal s) (Q .normal s):=⟨mf⟩
instance:UW (eD id Q (.exit id) s) (Q .normal s):=⟨j4⟩
instance:UO (eD id Q (.exit id') s) (Nat.beq id' id) (Q (.exit id') s):=⟨ji⟩
instance:UW (noGoto Q .ret s) (Q .ret s):=⟨noGoto_ret⟩
instance:UW (noGoto Q (.exit id) s) (Q (.exit id) s):=⟨noGoto_exit⟩
instance:UW (noGoto Q .normal s) (Q .normal s):=⟨noGoto_normal⟩
instance:UW (exQ id P Q (.exit id) s) (P s):=⟨ug⟩
instance:UO (exQ id P Q (.exit id') s) (Nat.beq id' id) (Q (.exit id') s):=⟨mR⟩
instance:UW (exQ id P Q .ret s) (Q .ret s):=⟨qv⟩
instance:UW (exQ id P Q .normal s) (Q .normal s):=⟨l8⟩
end
theorem oi {α:Type}{a b:α}(h:some a=some b):a=b:=Option.some.inj h
theorem dt {p:Prop} [Decidable p] (h:p):decide p=true:=decide_eq_true h
theorem df {p:Prop} [Decidable p] (h:¬p):decide p=false:=decide_eq_false h
theorem sr {x:AV}:x.sub x:=AV.sub_refl x
theorem er {s:List (Nat×AV)}{j:Nat}{x:AV}(h:look s j=some x):∃ y,look s j=some y∧y.sub x:=⟨x,h,sr⟩
end Go.Ab
namespace Go.Ab
def Le {α:Type}(o o':Option α):Prop:=∀ r,o=some r→o'=some r
section
variable {α β:Type}
theorem ar (o:Option α):Le o o:=λ _ h=>h
theorem bT (o:Option α):Le none o:=λ _ h=>by cases h
theorem cC {p:Prop} [Decidable p] {o o':Option α}(h:Le o o'):Le (ck p o) (ck p o'):=λ r hr=>by
 unfold ck at hr ⊢
 split at hr
 ·rename_i hp; rw [if_pos hp]; exact h r hr
 ·cases hr
theorem bE {p:Prop} [Decidable p] {a b a' b':Option α}(h:Le a a')(k:Le b b'):Le (if p then a else b) (if p then a' else b'):=by
 by_cases hp:p
 ·simpa only [if_pos hp] using h
 ·simpa only [if_neg hp] using k
theorem bf {g g':Option β}{k k':β→Option α}(h:Le g g')(hk:∀ x,Le (k x) (k' x)):Le (g.bind k) (g'.bind k'):=λ r hr=>by
 cases g with
 | none=>cases hr
 | some x=>rw [h x rfl]; exact hk x r hr
theorem cB {g g':Option (β⊕α)}{k k':β→Option α}(h:Le g g')(hk:∀ x,Le (k x) (k' x)):Le (jn g k) (jn g' k'):=λ r hr=>by
 cases g with
 | none=>cases hr
 | some x=>rw [h x rfl]; cases x with
  | inl x=>exact hk x r hr
  | inr y=>exact hr
theorem tL {f:Nat→Option α}(N:Nat){r:α}(h:f N=some r)(hm:∀ n,N≤n→Le (f N) (f n)){P:α→Prop}(hp:P r):Ev2 (λ n _=>f n) P:=⟨r,hp,N,λ n _ hn _=>hm n hn r h⟩
end
end Go.Ab
namespace Go.Ab
open Go.RowKit
end Go.Ab
namespace Go.Ab
/- The steps that occur most,their closed facts by themselves. -/
section
variable {C:Cx} {ops:Array Oper} {K:AS→Prop} {sl:List (Nat×AV)} {ob:List (Nat×List AV)} {r:List Oper} {o:Oper} {d:Nat}
end
end Go.Ab
namespace Go.Ab
section
variable {C:Cx} {ops:Array Oper} {K:AS→Prop} {sl base:List (Nat×AV)} {ob:List (Nat×List AV)} {r:List Oper} {o:Oper} {d k:Nat} {rev:Rev}
def mvX:Op→Option Operand
 | .move x=>some x
 | .assign x=>some x
 | _=>none
def mvF (n:Nat)(o:Oper)(sl:List (Nat×AV)):Option (Nat×AV) :=
 match mvX o.op with
 | some x=>(match o.dst with
  | some d=>bif Nat.blt d n then (match evo sl x with | some y=>some (d,y) | none=>none) else none
  | none=>none)
 | none=>none
def gdF (ops:Array Oper)(o:Oper)(sl:List (Nat×AV)):Option (Bool×AV) :=
 match o.guard with
 | some (j,w)=>(match (ops.toList[j]?).bind (·.dst) with
  | some t=>(match look sl t with | some x=>some (w,x) | none=>none)
  | none=>none)
 | none=>none
theorem jD {w:Bool}{x:AV}(h:gdF ops o sl=some (w,x)):∃ j t,o.guard=some (j,w)∧(ops.toList[j]?).bind (·.dst)=some t∧look sl t=some x:=by
 unfold gdF at h
 cases hg:o.guard with
 | none=>rw [hg] at h; cases h
 | some p =>
  obtain ⟨j,w'⟩:=p
  rw [hg] at h
  simp only at h
  cases ht:(ops.toList[j]?).bind (·.dst) with
  | none=>rw [ht] at h; cases h
  | some t =>
   rw [ht] at h
   simp only at h
   cases hl:look sl t with
   | none=>rw [hl] at h; cases h
   | some z=>rw [hl] at h; cases h; exact ⟨j,t,rfl,ht,hl⟩
theorem gy {w b:Bool}(hb:b=w)(h:gdF ops o sl=some (w,.p (.val (.bool b))))(h1:a8 C o (eM C ops r K) ⟨sl,ob⟩):eM C ops (o::r) K ⟨sl,ob⟩:=by
 obtain ⟨j,t,hg,hj,hv⟩:=jD h
 exact lK hg hj hv hb h1
def dsF (n:Nat)(o:Oper):Option Nat:=match o.dst with
 | some d=>bif Nat.blt d n then some d else none
 | none=>none
theorem ez {n:Nat}(h:dsF n o=some d):o.dst=some d∧Nat.blt d n=true:=by
 unfold dsF at h
 cases hd:o.dst with
 | none=>rw [hd] at h; cases h
 | some e =>
  rw [hd] at h
  cases hn:Nat.blt e n with
  | false=>simp only [hn,cond_false] at h; cases h
  | true=>simp only [hn,cond_true] at h; cases h; exact ⟨rfl,hn⟩
def knK:Rev→Nat→Option Nat
 | [],_=>none
 | (k,i,_)::r,j=>bif Nat.beq i j then some k else knK r j
def knX (base:List (Nat×AV))(o:Oper)(rev:Rev)(i:Nat):Option AV :=
 match look base i with
 | some x=>some x
 | none=>(match knK rev i with
  | some k=>bif (o.after.toList.any λ e=>Nat.beq e.on k&&Region.binds .any e) then (match j7 rev k with
    | some (j,x)=>bif Nat.beq j i then some x else none
    | none=>none) else none
  | none=>none)
def sR (base:List (Nat×AV))(o:Oper)(rev:Rev):List Nat→Option (List (Nat×AV))
 | []=>some []
 | i::r=>match knX base o rev i with
  | some x=>(match sR base o rev r with | some l=>some ((i,x)::l) | none=>none)
  | none=>none
theorem rI {i:Nat}{x:AV}(h:knX base o rev i=some x):look base i=some x∨∃ k,(o.after.toList.any λ e=>Nat.beq e.on k&&Region.binds .any e)=true∧j7 rev k=some (i,x):=by
 unfold knX at h
 cases hb:look base i with
 | some y=>rw [hb] at h; exact .inl h
 | none =>
  rw [hb] at h
  simp only at h
  cases hk:knK rev i with
  | none=>rw [hk] at h; cases h
  | some k =>
   rw [hk] at h
   simp only at h
   cases ha:(o.after.toList.any λ e=>Nat.beq e.on k&&Region.binds .any e) with
   | false=>rw [ha] at h; cases h
   | true =>
    rw [ha] at h
    simp only [cond_true] at h
    cases hl:j7 rev k with
    | none=>rw [hl] at h; cases h
    | some p =>
     obtain ⟨j,y⟩:=p
     rw [hl] at h
     simp only at h
     cases hj:Nat.beq j i with
     | false=>rw [hj] at h; cases h
     | true=>rw [hj] at h; cases h; exact .inr ⟨k,ha,by rw [hl,Nat.eq_of_beq_eq_true hj]⟩
theorem qE:∀ {l:List Nat} {kn:List (Nat×AV)},sR base o rev l=some kn→rc base o rev kn
 | [],kn,h=>by cases h; trivial
 | i::l,kn,h=>by
  unfold sR at h
  cases hx:knX base o rev i with
  | none=>rw [hx] at h; cases h
  | some x =>
   rw [hx] at h
   simp only at h
   cases hr:sR base o rev l with
   | none=>rw [hr] at h; cases h
   | some m=>rw [hr] at h; cases h; exact ⟨rI hx,qE hr⟩
def nwF (base:List (Nat×AV))(rev:Rev)(o:Oper):Option Nat:=match o.dst with
 | some d=>bif (rev.all λ p=>!(Nat.beq p.2.1 d)) then (match look base d with | none=>some d | some _=>none) else none
 | none=>none
theorem iW (h:nwF base rev o=some d):o.dst=some d∧(rev.all λ p=>!(Nat.beq p.2.1 d))=true∧look base d=none:=by
 unfold nwF at h
 cases hd:o.dst with
 | none=>rw [hd] at h; cases h
 | some e =>
  rw [hd] at h
  simp only at h
  cases ha:(rev.all λ p=>!(Nat.beq p.2.1 e)) with
  | false=>rw [ha] at h; cases h
  | true =>
   rw [ha] at h
   simp only [cond_true] at h
   cases hl:look base e with
   | some _=>rw [hl] at h; cases h
   | none=>rw [hl] at h; cases h; exact ⟨rfl,ha,hl⟩
theorem dq {rest:List Oper}{kn:List (Nat×AV)}(x:AV)(l:List Nat)(hk:sR base o rev l=some kn)(hs:j5 C ops ob o kn d x)(hn:nwF base rev o=some d)(h:DQ C ops base ob K rest (k+1) ((k,d,x)::rev)):DQ C ops base ob K (o::rest) k rev :=
 qB x kn (qE hk) hs (iW hn).1 (iW hn).2.1 (iW hn).2.2 h
theorem jT {kn:List (Nat×AV)}(hs:∀ i x,look kn i=some x→look sl i=some x){x:Operand}{y:AV}(h:evo kn x=some y):evo sl x=some y:=by
 cases x with
 | tmp t=>exact hs _ _ h
 | const v=>exact h
 | func f=>exact h
 | global g=>exact h
end
abbrev fa:=@cK
abbrev l1:=@eg
abbrev st:=@lm
abbrev cs:=@gD
abbrev nt:=@sZ
abbrev cc:=@aM
abbrev sq:=@qe
abbrev sk:=@oq
abbrev gl:=@fI
abbrev lb:=@Nat.le_of_ble_eq_true
end Go.Ab
namespace Go.Ab
inductive Fr where
 | sq (y:Code)
 | bk (id:Nat)
 | ng
 | jo (P:AS→Prop)
 | je (id:Nat) (P:AS→Prop)
inductive Ct where
 | cd (c:Code)
 | op (ops:Array Oper) (r:List Oper)
 | ex (e:Exit)
structure Cf where
 c:Ct
 k:List Fr
 s:AS
def dn (C:Cx)(Q:Exit→AS→Prop):List Fr→Exit→AS→Prop
 | []=>λ e s=>∃ t,cT C s t∧Q e t
 | .sq y::k=>jp (awp C y (dn C Q k)) (dn C Q k)
 | .bk id::k=>eD id (dn C Q k)
 | .ng::k=>noGoto (dn C Q k)
 | .jo P::k=>jp (λ s=>∃ t,cT C s t∧P t) (dn C Q k)
 | .je id P::k=>exQ id (λ s=>∃ t,cT C s t∧P t) (dn C Q k)
def M (C:Cx)(Q:Exit→AS→Prop):Cf→Prop
 | ⟨.cd c,k,s⟩=>awp C c (dn C Q k) s
 | ⟨.op ops r,k,s⟩=>eM C ops r (dn C Q k .normal) s
 | ⟨.ex e,k,s⟩=>dn C Q k e s
def pop:List Fr→Exit→AS→Option Cf
 | [],e,s=>some ⟨.ex e,[],s⟩
 | .sq y::k,.normal,s=>some ⟨.cd y,k,s⟩
 | .sq _::k,.exit i,s=>pop k (.exit i) s
 | .sq _::k,.ret,s=>pop k .ret s
 | .bk _::k,.normal,s=>pop k .normal s
 | .bk id::k,.exit i,s=>(match Nat.beq i id with | true=>pop k .normal s | false=>pop k (.exit i) s)
 | .bk _::k,.ret,s=>pop k .ret s
 | .ng::k,.normal,s=>pop k .normal s
 | .ng::k,.exit i,s=>pop k (.exit i) s
 | .ng::k,.ret,s=>pop k .ret s
 | .jo P::k,.normal,s=>some ⟨.ex .normal,.jo P::k,s⟩
 | .jo _::k,.exit i,s=>pop k (.exit i) s
 | .jo _::k,.ret,s=>pop k .ret s
 | .je _ _::k,.normal,s=>pop k .normal s
 | .je id P::k,.exit i,s=>(match Nat.beq i id with | true=>some ⟨.ex (.exit i),.je id P::k,s⟩ | false=>pop k (.exit i) s)
 | .je _ _::k,.ret,s=>pop k .ret s
 | _,_,_=>none
section
variable {C:Cx} {Q:Exit→AS→Prop} {ops:Array Oper} {K:AS→Prop} {sl:List (Nat×AV)} {ob:List (Nat×List AV)} {r:List Oper} {o:Oper} {d:Nat} {s s':AS} {k:List Fr}
theorem dv:∀ {k:List Fr} {e:Exit} {c:Cf},pop k e s=some c→M C Q c→dn C Q k e s
 | [],e,c,h,hM=>by simp only [pop,Option.some.injEq] at h; subst h; exact hM
 | .sq y::k,e,c,h,hM=>by
  cases e <;> simp only [pop,Option.some.injEq,reduceCtorEq] at h
  ·subst h; exact hM
  ·exact dv (k:=k) h hM
  ·exact dv (k:=k) h hM
 | .bk id::k,e,c,h,hM=>by
  cases e <;> simp only [pop,reduceCtorEq] at h
  ·exact dv (k:=k) h hM
  ·rename_i i
   split at h
   ·rename_i hb
    rw [Nat.eq_of_beq_eq_true hb]
    exact j4 (dv (k:=k) h hM)
   ·rename_i hb; exact ji hb (dv (k:=k) h hM)
  ·exact dv (k:=k) h hM
 | .ng::k,e,c,h,hM=>by
  cases e <;> simp only [pop,reduceCtorEq] at h
  ·exact dv (k:=k) h hM
  ·exact dv (k:=k) h hM
  ·exact dv (k:=k) h hM
 | .jo P::k,e,c,h,hM=>by
  cases e <;> simp only [pop,Option.some.injEq,reduceCtorEq] at h
  ·subst h; exact hM
  ·exact dv (k:=k) h hM
  ·exact dv (k:=k) h hM
 | .je id P::k,e,c,h,hM=>by
  cases e <;> simp only [pop,reduceCtorEq] at h
  ·exact l8 (dv (k:=k) h hM)
  ·rename_i i
   split at h
   ·rename_i hb
    cases h; exact hM
   ·rename_i hb; exact mR hb (dv (k:=k) h hM)
  ·exact qv (dv (k:=k) h hM)
def og (C:Cx)(o:Oper):AS→AV→Option AS
 | ⟨sl,ob⟩,y=>match o.dst with
  | some d=>(match Nat.blt d C.n with | true=>some ⟨(d,y)::sl,ob⟩ | false=>none)
  | none=>none
theorem gM {y:AV}(h:og C o ⟨sl,ob⟩ y=some s'):∃ d,o.dst=some d∧Nat.blt d C.n=true∧s'=⟨(d,y)::sl,ob⟩:=by
 simp only [og] at h
 split at h
 ·rename_i d hd
  split at h
  ·rename_i hn; cases h; exact ⟨d,hd,hn,rfl⟩
  ·cases h
 ·cases h
def ikE (a b:IntKind):Bool:=Nat.beq a.ctorIdx b.ctorIdx
theorem rJ {a b:IntKind}(h:ikE a b=true):a=b:=by cases a <;> cases b <;> first | rfl | cases h
def pkP (sl:List (Nat×AV))(x y:Operand):Option AV→Option AV
 | some (.p (.val (.bool true)))=>evo sl x
 | some (.p (.val (.bool false)))=>evo sl y
 | _=>none
def bnP (C:Cx)(op:BinOp)(t:TypeId):Option AV→Option AV→Option AV
 | some (.p (.val (.int k a))),some (.p (.val (.int k' b)))=>(match ikE k' k with
  | true=>(match tQ op a b with
   | some c=>some (.p (.val (.bool c)))
   | none=>(match tI k op a b with
    | some c=>some (.p (.val (.int k c)))
    | none=>(match ikE k .i64 with
     | true=>none
     | false=>(match arI op a b with
      | some c=>some (.p (.val (.int k (k.wrap c))))
      | none=>none))))
  | false=>none)
 | some (.p (.val (.bool a))),some (.p (.val (.bool b)))=>(match look C.tt t with
  | some i=>(match i.k with
   | .bool=>(match uN op a b with | some c=>some (.p (.val (.bool c))) | none=>none)
   | _=>none)
  | none=>none)
 | _,_=>none
def faP (C:Cx)(t f:Nat)(X:Option AV):Option AV:=match look C.tt t with
 | some i=>(match i.k with
  | .struct fs=>(match fs[f]? with
   | some (off,ft)=>(match look C.tt ft with
    | some j=>(match Nat.beq j.size 0 with
     | false=>(match X with
      | some (.ptr id k)=>some (.ptr id (k+off))
      | some (.rptr cs)=>some (.rptr (cs.drop off))
      | _=>none)
     | true=>none)
    | none=>none)
   | none=>none)
  | _=>none)
 | none=>none
def ldP (C:Cx)(ob:List (Nat×List AV))(t:Nat)(X:Option AV):Option AV:=match look C.tt t with
 | some i=>(match X with
  | some (.ptr id k)=>(match look ob id with
   | some cs=>(match i.k.isAgg with
    | false=>cs[k]?
    | true=>(match Nat.ble (k+i.size) cs.length with
     | true=>(match iU ((cs.drop k).take i.size) with
      | .p y=>some (.p y)
      | .agg l=>some (.agg l)
      | _=>none)
     | false=>none))
   | none=>none)
  | some (.rptr cs)=>(match i.k.isAgg with
   | false=>(match cs.head? with | some y=>some (.p y) | none=>none)
   | true=>(match Nat.ble i.size cs.length with
    | true=>some (.p (.agg (cs.take i.size)))
    | false=>none))
  | _=>none)
 | none=>none
def nrm {α:Type}:List α→Option (List α)
 | []=>some []
 | x::r=>(match nrm r with | some l=>some (x::l) | none=>none)
theorem jJ {α:Type}:∀ {l l':List α},nrm l=some l'→l'=l
 | [],l',h=>by cases h; rfl
 | x::r,l',h=>by
  unfold nrm at h
  split at h
  ·rename_i m hm; cases h; rw [jJ hm]
  ·cases h
def stP (C:Cx)(o:Oper)(sl:List (Nat×AV))(ob:List (Nat×List AV))(t:Nat)(x v:Operand):Option AS:=match o.dst with
 | none=>(match look C.tt t with
  | some i=>(match evo sl x with
   | some (.ptr id k)=>(match evo sl v with
    | some y=>(match y.cellsA with
     | some xs=>(match Nat.beq xs.length i.size with
      | true=>(match look ob id with
       | some cs=>(match Nat.ble (k+xs.length) cs.length with
        | true=>(match nrm (nJ cs k xs) with
         | some ds=>some ⟨sl,(id,ds)::ob⟩
         | none=>none)
        | false=>none)
       | none=>none)
      | false=>none)
     | none=>none)
    | none=>none)
   | _=>none)
  | none=>none)
 | some _=>none
def frc:AV→Option AV
 | .undef=>some .undef
 | .p x=>some (.p x)
 | .agg cs=>some (.agg cs)
 | .vec a b c e=>some (.vec a b c e)
 | .arr a b c e=>some (.arr a b c e)
 | .ptr a b=>some (.ptr a b)
 | .bptr a b c=>some (.bptr a b c)
 | .rptr cs=>some (.rptr cs)
 | .tuple vs=>some (.tuple vs)
 | .func f cs=>some (.func f cs)
 | .mp a b=>some (.mp a b)
 | .mpr a b c d e=>some (.mpr a b c d e)
 | .stk a b c=>some (.stk a b c)
 | .sem R=>some (.sem R)
 | .it a b c=>some (.it a b c)
 | .vecp a b c e=>some (.vecp a b c e)
 | .elp a b=>some (.elp a b)
theorem sx {x y:AV}(h:frc x=some y):y=x:=by cases x <;> (cases h; rfl)
def dmS (D:Nat→Bool):List (Nat×AV)→Option (List (Nat×AV))
 | []=>some []
 | (i,x)::r=>(match frc (x.dem D) with
  | some y=>(match dmS D r with | some l=>some ((i,y)::l) | none=>none)
  | none=>none)
theorem tj {D:Nat→Bool}:∀ {l l':List (Nat×AV)},dmS D l=some l'→l'=l.map λ p=>(p.1,p.2.dem D)
 | [],l',h=>by cases h; rfl
 | (i,x)::r,l',h=>by
  unfold dmS at h
  split at h
  ·rename_i y hy
   split at h
   ·rename_i m hm; cases h; rw [sx hy,tj hm]; rfl
   ·cases h
  ·cases h
def dmC (D:Nat→Bool):List AV→Option (List AV)
 | []=>some []
 | x::r=>(match frc (x.dem D) with
  | some y=>(match dmC D r with | some l=>some (y::l) | none=>none)
  | none=>none)
theorem pF {D:Nat→Bool}:∀ {l l':List AV},dmC D l=some l'→l'=g6 D l
 | [],l',h=>by cases h; rfl
 | x::r,l',h=>by
  unfold dmC at h
  split at h
  ·rename_i y hy
   split at h
   ·rename_i m hm; cases h; rw [sx hy,pF hm]; rfl
   ·cases h
  ·cases h
def dmO (D:Nat→Bool):List (Nat×List AV)→Option (List (Nat×List AV))
 | []=>some []
 | (i,cs)::r=>(match D i with
  | true=>dmO D r
  | false=>(match dmC D cs with
   | some ds=>(match dmO D r with | some l=>some ((i,ds)::l) | none=>none)
   | none=>none))
theorem pH {D:Nat→Bool}:∀ {l l':List (Nat×List AV)},dmO D l=some l'→l'=(l.filter λ p=>!D p.1).map λ p=>(p.1,g6 D p.2)
 | [],l',h=>by cases h; rfl
 | (i,cs)::r,l',h=>by
  unfold dmO at h
  split at h
  ·rename_i hD; rw [pH h]; simp [hD]
  ·rename_i hD
   split at h
   ·rename_i ds hds
    split at h
    ·rename_i m hm; cases h; rw [pF hds,pH hm]; simp [hD]
    ·cases h
   ·cases h
def nwP (C:Cx)(o:Oper)(sl0:List (Nat×AV))(ob0:List (Nat×List AV))(cs:List AV):Option AS:=match o.dst with
 | some d=>(match Nat.blt d C.n with
  | true=>(match dmS (λ i=>Nat.beq i d) sl0 with
   | some sl=>(match dmC (λ i=>Nat.beq i d) cs with
    | some ds=>(match dmO (λ i=>Nat.beq i d) ob0 with
     | some ob=>some ⟨(d,.ptr d 0)::sl,(d,ds)::ob⟩
     | none=>none)
    | none=>none)
   | none=>none)
  | false=>none)
 | none=>none
theorem sY {cs:List AV}(h:nwP C o sl ob cs=some s'):∃ d,o.dst=some d∧Nat.blt d C.n=true∧s'=⟨(d,.ptr d 0)::(dF (λ i=>Nat.beq i d) ⟨sl,ob⟩).sl,(d,g6 (λ i=>Nat.beq i d) cs)::(dF (λ i=>Nat.beq i d) ⟨sl,ob⟩).ob⟩:=by
 unfold nwP at h
 split at h
 ·rename_i d hd
  split at h
  ·rename_i hn
   split at h
   ·rename_i a ha
    split at h
    ·rename_i b hb
     split at h
     ·rename_i c hc
      cases h
      exact ⟨d,hd,hn,by rw [tj ha,pF hb,pH hc]; rfl⟩
     ·cases h
    ·cases h
   ·cases h
  ·cases h
 ·cases h
def ncP:Option AV→Option AV
 | some (.ptr id k)=>some (.ptr id k)
 | _=>none
def xtP (k:Nat):Option AV→Option AV
 | some (.tuple l)=>l[k]?
 | _=>none
def ntP:Option AV→Option AV
 | some (.p (.val (.bool b)))=>some (.p (.val (.bool (!b))))
 | _=>none
def flP (C:Cx)(t f:Nat)(X:Option AV):Option AV:=match look C.tt t with
 | some i=>(match i.k with
  | .struct fs=>(match fs[f]? with
   | some (off,ft)=>(match look C.tt ft with
    | some j=>(match X with
     | some (.p (.agg cs))=>(match j.k.isAgg with
      | false=>(match cs[off]? with | some c=>some (.p c) | none=>none)
      | true=>(match Nat.ble (off+j.size) cs.length with
       | true=>(match nrm ((cs.drop off).take j.size) with
        | some ds=>some (.p (.agg ds))
        | none=>none)
       | false=>none))
     | _=>none)
    | none=>none)
   | none=>none)
  | _=>none)
 | none=>none
def cvP (C:Cx)(st dt:Nat)(X:Option AV):Option AV:=match look C.tt st with
 | some i=>(match i.k with
  | .int k'=>(match look C.tt dt with
   | some j=>(match j.k with
    | .int k=>(match X with
     | some (.p (.val (.int k2 a)))=>(match ikE k2 k' with
      | true=>(match ikE k .i64 with
       | true=>none
       | false=>some (.p (.val (.int k (k.wrap a)))))
      | false=>none)
     | _=>none)
    | _=>none)
   | none=>none)
  | _=>none)
 | none=>none
def agP (cs:List AV):Option AV:=match nrm cs with
 | some ds=>(match iU ds with
  | .p y=>some (.p y)
  | .agg l=>some (.agg l)
  | _=>none)
 | none=>none
def buP (C:Cx)(t:Nat)(X:Option (List (Nat×AV))):Option AV:=match look C.tt t with
 | some i=>(match i.k with
  | .struct fs=>(match iK C.tt fs with
   | some pl=>(match X with
    | some ps=>(match ka (λ (i:Nat)=>pl[i]?) (cM i) ps with
     | some cs=>agP cs
     | none=>none)
    | none=>none)
   | none=>none)
  | .array _ e=>(match look C.tt e with
   | some ie=>(match X with
    | some ps=>(match ka (λ (k:Nat)=>some (k*ie.size,ie.size)) (cM i) ps with
     | some cs=>agP cs
     | none=>none)
    | none=>none)
   | none=>none)
  | _=>none)
 | none=>none
def laP (C:Cx)(c:Call)(sl:List (Nat×AV)):Option AV:=match c with
 | ⟨.builtin .len,⟨[x]⟩,⟨[t]⟩⟩=>(match look C.tt t with
  | some i=>(match i.k with
   | .slice _=>(match evo sl x with
    | some (.arr _ _ _ m)=>some (.p (.val (.int .i64 (m:Int))))
    | _=>none)
   | _=>none)
  | none=>none)
 | _=>none
def alP (C:Cx)(o:Oper)(sl:List (Nat×AV))(ob:List (Nat×List AV))(t:Nat):Option AS:=match look C.tt t with
 | some i=>(match AV.cellsA (.agg (cM i)) with
  | some cs=>(match nrm cs with | some ds=>nwP C o sl ob ds | none=>none)
  | none=>none)
 | none=>none
def bxP (C:Cx)(o:Oper)(sl:List (Nat×AV))(ob:List (Nat×List AV))(v:Operand):Option AS:=match evo sl v with
 | some x=>(match x.cellsA with
  | some cs=>(match nrm cs with | some ds=>nwP C o sl ob ds | none=>none)
  | none=>none)
 | none=>none
def opV (C:Cx)(o:Oper)(sl:List (Nat×AV))(ob:List (Nat×List AV)):Option AV:=match o.op with
 | .move x=>evo sl x
 | .assign x=>evo sl x
 | .pick c x y=>pkP sl x y (evo sl c)
 | .binOp op t x y _=>bnP C op t (evo sl x) (evo sl y)
 | .unOp .not _ x=>ntP (evo sl x)
 | .fieldAddr t x f=>faP C t f (evo sl x)
 | .load t x=>ldP C ob t (evo sl x)
 | .nilCheck x=>ncP (evo sl x)
 | .extract x k=>xtP k (evo sl x)
 | .field t x f=>flP C t f (evo sl x)
 | .convert st dt x=>cvP C st dt (evo sl x)
 | .build t parts=>buP C t (dS sl parts.toList)
 | .call c=>laP C c sl
 | _=>none
def opF (C:Cx)(o:Oper):AS→Option AS
 | ⟨sl,ob⟩=>match o.op with
 | .store t x v=>stP C o sl ob t x v
 | .box _ v=>bxP C o sl ob v
 | .alloc t=>alP C o sl ob t
 | .move x=>(match evo sl x with
  | some y=>og C o ⟨sl,ob⟩ y
  | none=>og C o ⟨sl,ob⟩ .undef)
 | .assign x=>(match evo sl x with
  | some y=>og C o ⟨sl,ob⟩ y
  | none=>og C o ⟨sl,ob⟩ .undef)
 | _=>(match opV C o sl ob with
  | some y=>og C o ⟨sl,ob⟩ y
  | none=>none)
theorem vi {c x y:Operand}{z:AV}(ho:o.op=.pick c x y)(h:pkP sl x y (evo sl c)=some z)(hd:o.dst=some d)(hn:Nat.blt d C.n=true)(hK:K ⟨(d,z)::sl,ob⟩):a8 C o K ⟨sl,ob⟩:=by
 generalize hc:evo sl c=v at h
 unfold pkP at h
 split at h
 ·exact nE ho hd hn hc rfl h hK
 ·exact mq ho hd hn hc rfl h hK
 ·cases h
theorem vg {op:BinOp}{t t':TypeId}{x y:Operand}{z:AV}(ho:o.op=.binOp op t x y t')(h:bnP C op t (evo sl x) (evo sl y)=some z)(h1:o.dst=some d)(h2:Nat.blt d C.n=true)(hK:K ⟨(d,z)::sl,ob⟩):a8 C o K ⟨sl,ob⟩:=by
 generalize hx:evo sl x=X at h
 generalize hy:evo sl y=Y at h
 unfold bnP at h
 split at h
 ·rename_i k a k' b
  split at h
  ·rename_i hk
   have:=rJ hk; subst this
   split at h
   ·rename_i c hc
    cases h; exact uR ho h1 h2 hx hy hc hK
   ·split at h
    ·rename_i c hc
     cases h; exact uY ho h1 h2 hx hy hc hK
    ·split at h
     ·cases h
     ·split at h
      ·rename_i c hc
       cases h; exact sw ho h1 h2 hx hy hc hK
      ·cases h
  ·cases h
 ·split at h
  ·rename_i i hi
   split at h
   ·rename_i hk
    split at h
    ·rename_i c hc
     cases h; exact uq ho h1 h2 hi hk hx hy hc hK
    ·cases h
   ·cases h
  ·cases h
 ·cases h
theorem uV {t f:Nat}{x:Operand}{z:AV}(ho:o.op=.fieldAddr t x f)(h:faP C t f (evo sl x)=some z)(h1:o.dst=some d)(h2:Nat.blt d C.n=true)(hK:K ⟨(d,z)::sl,ob⟩):a8 C o K ⟨sl,ob⟩:=by
 generalize hx:evo sl x=X at h
 unfold faP at h
 split at h
 ·rename_i i hi
  split at h
  ·rename_i fs hk
   split at h
   ·rename_i off ft hf
    split at h
    ·rename_i j hj
     split at h
     ·rename_i hs
      split at h
      ·cases h; exact cK ho h1 h2 hi hk hf hj hs hx hK
      ·cases h; exact mC ho h1 h2 hi hk hf hj hs hx hK
      ·cases h
     ·cases h
    ·cases h
   ·cases h
  ·cases h
 ·cases h
theorem vF {t:Nat}{x:Operand}{z:AV}(ho:o.op=.load t x)(h:ldP C ob t (evo sl x)=some z)(h1:o.dst=some d)(h2:Nat.blt d C.n=true)(hK:K ⟨(d,z)::sl,ob⟩):a8 C o K ⟨sl,ob⟩:=by
 generalize hx:evo sl x=X at h
 unfold ldP at h
 split at h
 ·rename_i i hi
  split at h
  ·rename_i id k
   split at h
   ·rename_i cs hob
    split at h
    ·rename_i ha
     exact eg ho h1 h2 hi ha hx hob h hK
    ·rename_i ha
     split at h
     ·rename_i hl
      split at h
      ·rename_i y hy
       cases h; exact fE ho h1 h2 hi ha hx hob hl (congrArg some hy) hK
      ·rename_i y hy
       cases h; exact fE ho h1 h2 hi ha hx hob hl (congrArg some hy) hK
      ·cases h
     ·cases h
   ·cases h
  ·rename_i cs
   split at h
   ·rename_i ha
    split at h
    ·rename_i y hy
     cases h; exact q8 ho h1 h2 hi ha hx hy hK
    ·cases h
   ·rename_i ha
    split at h
    ·rename_i hl
     cases h; exact eV ho h1 h2 hi ha hx hl hK
    ·cases h
  ·cases h
 ·cases h
theorem vy {t:Nat}{x v:Operand}(ho:o.op=.store t x v)(h:stP C o sl ob t x v=some s')(hK:K s'):a8 C o K ⟨sl,ob⟩:=by
 unfold stP at h
 split at h
 ·rename_i hd
  split at h
  ·rename_i i hi
   split at h
   ·rename_i id k hx
    split at h
    ·rename_i y hv
     split at h
     ·rename_i xs hc
      split at h
      ·rename_i hsz
       split at h
       ·rename_i cs hob
        split at h
        ·rename_i hl
         split at h
         ·rename_i ds hds
          cases h
          rw [jJ hds] at hK
          exact lm ho hd hi hx hv hc (Nat.eq_of_beq_eq_true hsz) hob (Nat.le_of_ble_eq_true hl) hK
         ·cases h
        ·cases h
       ·cases h
      ·cases h
     ·cases h
    ·cases h
   ·cases h
  ·cases h
 ·cases h
theorem uP {t:Nat}{v:Operand}(ho:o.op=.box t v)(h:bxP C o sl ob v=some s')(hK:K s'):a8 C o K ⟨sl,ob⟩:=by
 unfold bxP at h
 split at h
 ·rename_i x hx
  split at h
  ·rename_i cs hc
   split at h
   ·rename_i ds hds
    obtain ⟨d,h1,h2,rfl⟩:=sY h
    rw [jJ hds] at hK
    exact uQ ho h1 h2 hx hc hK
   ·cases h
  ·cases h
 ·cases h
theorem vf {t:Nat}(ho:o.op=.alloc t)(h:alP C o sl ob t=some s')(hK:K s'):a8 C o K ⟨sl,ob⟩:=by
 unfold alP at h
 split at h
 ·rename_i i hi
  split at h
  ·rename_i cs hc
   split at h
   ·rename_i ds hds
    obtain ⟨d,h1,h2,rfl⟩:=sY h
    rw [jJ hds] at hK
    have e:cs=cM i:=by
     simp only [AV.cellsA] at hc
     cases hb:AV.onesB (cM i) <;> rw [hb] at hc <;> cases hc
     rfl
    subst e
    exact ou ho h1 h2 hi hc hK
   ·cases h
  ·cases h
 ·cases h
theorem uX {x:Operand}{z:AV}(ho:o.op=.nilCheck x)(h:ncP (evo sl x)=some z)(h1:o.dst=some d)(h2:Nat.blt d C.n=true)(hK:K ⟨(d,z)::sl,ob⟩):a8 C o K ⟨sl,ob⟩:=by
 generalize hx:evo sl x=X at h
 unfold ncP at h
 split at h
 ·cases h; exact nL ho h1 h2 hx hK
 ·cases h
theorem vj {x:Operand}{n:Nat}{z:AV}(ho:o.op=.extract x n)(h:xtP n (evo sl x)=some z)(h1:o.dst=some d)(h2:Nat.blt d C.n=true)(hK:K ⟨(d,z)::sl,ob⟩):a8 C o K ⟨sl,ob⟩:=by
 generalize hx:evo sl x=X at h
 unfold xtP at h
 split at h
 ·exact pO ho h1 h2 hx h hK
 ·cases h
theorem vG {t:TypeId}{x:Operand}{z:AV}(ho:o.op=.unOp .not t x)(h:ntP (evo sl x)=some z)(h1:o.dst=some d)(h2:Nat.blt d C.n=true)(hK:K ⟨(d,z)::sl,ob⟩):a8 C o K ⟨sl,ob⟩:=by
 generalize hx:evo sl x=X at h
 unfold ntP at h
 split at h
 ·cases h; exact sZ ho h1 h2 hx hK
 ·cases h
theorem uZ {t f:Nat}{x:Operand}{z:AV}(ho:o.op=.field t x f)(h:flP C t f (evo sl x)=some z)(h1:o.dst=some d)(h2:Nat.blt d C.n=true)(hK:K ⟨(d,z)::sl,ob⟩):a8 C o K ⟨sl,ob⟩:=by
 generalize hx:evo sl x=X at h
 unfold flP at h
 split at h
 ·rename_i i hi
  split at h
  ·rename_i fs hk
   split at h
   ·rename_i off ft hf
    split at h
    ·rename_i j hj
     split at h
     ·rename_i cs
      split at h
      ·rename_i ha
       split at h
       ·rename_i c hc
        cases h; exact rl ho h1 h2 hi hk hf hj ha hx hc hK
       ·cases h
      ·rename_i ha
       split at h
       ·rename_i hl
        split at h
        ·rename_i ds hds
         rw [jJ hds] at h
         cases h; exact q9 ho h1 h2 hi hk hf hj ha hx hl hK
        ·cases h
       ·cases h
     ·cases h
    ·cases h
   ·cases h
  ·cases h
 ·cases h
theorem vl {st dt:Nat}{x:Operand}{z:AV}(ho:o.op=.convert st dt x)(h:cvP C st dt (evo sl x)=some z)(h1:o.dst=some d)(h2:Nat.blt d C.n=true)(hK:K ⟨(d,z)::sl,ob⟩):a8 C o K ⟨sl,ob⟩:=by
 generalize hx:evo sl x=X at h
 unfold cvP at h
 split at h
 ·rename_i i hi
  split at h
  ·rename_i k' hk'
   split at h
   ·rename_i j hj
    split at h
    ·rename_i k hk
     split at h
     ·rename_i k2 a
      split at h
      ·rename_i hb
       have:=rJ hb; subst this
       split at h
       ·cases h
       ·cases h; exact sM ho h1 h2 hi hk' hj hk hx hK
      ·cases h
     ·cases h
    ·cases h
   ·cases h
  ·cases h
 ·cases h
theorem sL {cs:List AV}{z:AV}(h:agP cs=some z):some (iU cs)=some z:=by
 unfold agP at h
 split at h
 ·rename_i ds hds
  have e:=jJ hds
  subst e
  split at h
  ·rename_i y hy; cases h; exact congrArg some hy
  ·rename_i y hy; cases h; exact congrArg some hy
  ·cases h
 ·cases h
theorem vB {t:Nat}{parts:Array (Nat×Operand)}{z:AV}(ho:o.op=.build t parts)(h:buP C t (dS sl parts.toList)=some z)(h1:o.dst=some d)(h2:Nat.blt d C.n=true)(hK:K ⟨(d,z)::sl,ob⟩):a8 C o K ⟨sl,ob⟩:=by
 generalize hps:dS sl parts.toList=X at h
 unfold buP at h
 split at h
 ·rename_i i hi
  split at h
  ·rename_i fs hk
   split at h
   ·rename_i pl hpl
    split at h
    ·rename_i ps
     split at h
     ·rename_i cs hcs
      exact lR ho h1 h2 hi hk hpl hps hcs (sL h) hK
     ·cases h
    ·cases h
   ·cases h
  ·rename_i m e hk
   split at h
   ·rename_i ie hie
    split at h
    ·rename_i ps
     split at h
     ·rename_i cs hcs
      exact oO ho h1 h2 hi hk hie hps hcs (sL h) hK
     ·cases h
    ·cases h
   ·cases h
  ·cases h
 ·cases h
theorem vu {c:Call}{z:AV}(ho:o.op=.call c)(h:laP C c sl=some z)(h1:o.dst=some d)(h2:Nat.blt d C.n=true)(hK:K ⟨(d,z)::sl,ob⟩):a8 C o K ⟨sl,ob⟩:=by
 unfold laP at h
 split at h
 ·split at h
  ·rename_i i hi
   split at h
   ·rename_i e hk
    split at h
    ·rename_i hx
     cases h; exact uE ho h1 h2 hi hk hx hK
    ·cases h
   ·cases h
  ·cases h
 ·cases h
theorem pm {y:AV}(h:opV C o sl ob=some y)(h1:o.dst=some d)(h2:Nat.blt d C.n=true)(hK:K ⟨(d,y)::sl,ob⟩):a8 C o K ⟨sl,ob⟩:=by
 unfold opV at h
 split at h
 ·rename_i ho; exact dj ho h1 h2 h hK
 ·rename_i ho; exact iE ho h1 h2 h hK
 ·rename_i ho; exact vi ho h h1 h2 hK
 ·rename_i ho; exact vg ho h h1 h2 hK
 ·rename_i ho; exact vG ho h h1 h2 hK
 ·rename_i ho; exact uV ho h h1 h2 hK
 ·rename_i ho; exact vF ho h h1 h2 hK
 ·rename_i ho; exact uX ho h h1 h2 hK
 ·rename_i ho; exact vj ho h h1 h2 hK
 ·rename_i ho; exact uZ ho h h1 h2 hK
 ·rename_i ho; exact vl ho h h1 h2 hK
 ·rename_i ho; exact vB ho h h1 h2 hK
 ·rename_i ho; exact vu ho h h1 h2 hK
 ·cases h
theorem pj (h:opF C o ⟨sl,ob⟩=some s')(hK:K s'):a8 C o K ⟨sl,ob⟩:=by
 unfold opF at h
 dsimp only at h
 split at h
 ·rename_i ho; exact vy ho h hK
 ·rename_i ho; exact uP ho h hK
 ·rename_i ho; exact vf ho h hK
 ·rename_i ho
  split at h
  ·rename_i y hy; obtain ⟨d,h1,h2,rfl⟩:=gM h; exact dj ho h1 h2 hy hK
  ·obtain ⟨d,h1,h2,rfl⟩:=gM h; exact oT ho h1 h2 hK
 ·rename_i ho
  split at h
  ·rename_i y hy; obtain ⟨d,h1,h2,rfl⟩:=gM h; exact iE ho h1 h2 hy hK
  ·obtain ⟨d,h1,h2,rfl⟩:=gM h; exact mB ho h1 h2 hK
 ·split at h
  ·rename_i y hy; obtain ⟨d,h1,h2,rfl⟩:=gM h; exact pm hy h1 h2 hK
  ·cases h
def isU:Value→Bool
 | .tuple a=>Nat.beq a.size 0
 | _=>false
theorem sC {v:Value}(h:isU v=true):v=Go.undef:=by
 unfold isU at h
 split at h
 ·rename_i a
  have:=Nat.eq_of_beq_eq_true h
  have:=Array.eq_empty_of_size_eq_zero this
  subst this; rfl
 ·cases h
def qp (C:Cx)(o:Oper)(s:AS):Option AS:=og C o s (.p (.val Go.undef))
def guF (C:Cx)(o:Oper)(s:AS):Option (Bool×AV)→Option AS
 | some (true,.p (.val (.bool true)))=>opF C o s
 | some (true,.p (.val (.bool false)))=>qp C o s
 | some (false,.p (.val (.bool true)))=>qp C o s
 | some (false,.p (.val (.bool false)))=>opF C o s
 | some (_,.p (.val v))=>(match isU v with | true=>qp C o s | false=>none)
 | _=>none
def oF (C:Cx)(ops:Array Oper)(o:Oper):AS→Option AS
 | ⟨sl,ob⟩=>match o.guard with
  | none=>opF C o ⟨sl,ob⟩
  | some _=>guF C o ⟨sl,ob⟩ (gdF ops o sl)
theorem vR (h:oF C ops o ⟨sl,ob⟩=some s')(hK:eM C ops r K s'):eM C ops (o::r) K ⟨sl,ob⟩:=by
 unfold oF at h
 dsimp only at h
 split at h
 ·rename_i hg; exact ql hg (pj h hK)
 ·rename_i p hg
  have pass:∀ {w:Bool} {b:Bool},gdF ops o sl=some (w,.p (.val (.bool b)))→b=(!w)→qp C o ⟨sl,ob⟩=some s'→eM C ops (o::r) K ⟨sl,ob⟩:=by
   intro w b hgd hb hp
   obtain ⟨d,h1,h2,rfl⟩:=gM hp
   obtain ⟨j,t,hg,hj,hv⟩:=jD hgd
   exact mi hg hj hv hb h1 h2 hK
  generalize hgd:gdF ops o sl=G at h
  unfold guF at h
  split at h
  ·exact gy rfl hgd (pj h hK)
  ·exact pass hgd rfl h
  ·exact pass hgd rfl h
  ·exact gy rfl hgd (pj h hK)
  ·rename_i v hno1 hno2 hno3 hno4
   split at h
   ·rename_i hu
    have:=sC hu; subst this
    obtain ⟨d,h1,h2,rfl⟩:=gM h
    obtain ⟨j,t,hg,hj,hv⟩:=jD hgd
    exact kr hg hj hv h1 h2 hK
   ·cases h
  ·cases h
def cdE (s:AS)(x:Operand):Option AV:=match s with | ⟨sl,_⟩=>evo sl x
def cdF (_C:Cx)(k:List Fr)(s:AS):Code→Option Cf
 | .seq x y=>some ⟨.cd x,.sq y::k,s⟩
 | .block id x=>some ⟨.cd x,.bk id::k,s⟩
 | .scope x=>some ⟨.cd x,.ng::k,s⟩
 | .skip=>pop k .normal s
 | .label _=>pop k .normal s
 | .exit id=>pop k (.exit id) s
 | .ret=>pop k .ret s
 | .region _ ops draw=>(match draw with | false=>some ⟨.op ops ops.toList,k,s⟩ | true=>none)
 | .cond c x y=>(match cdE s c with
  | some (.p (.val (.bool true)))=>some ⟨.cd x,k,s⟩
  | some (.p (.val (.bool false)))=>some ⟨.cd y,k,s⟩
  | _=>none)
 | _=>none
def stp (C:Cx):Cf→Option Cf
 | ⟨.ex e,k,s⟩=>pop k e s
 | ⟨.op _ [],k,s⟩=>pop k .normal s
 | ⟨.op ops (o::r),k,s⟩=>(match oF C ops o s with | some s'=>some ⟨.op ops r,k,s'⟩ | none=>none)
 | ⟨.cd c,k,s⟩=>cdF C k s c
theorem vA {c:Code}{c':Cf}(h:cdF C k s c=some c')(hM:M C Q c'):awp C c (dn C Q k) s:=by
 unfold cdF at h
 split at h
 ·cases h; exact qe hM
 ·cases h; exact ri hM
 ·cases h; exact rq hM
 ·exact oq (dv h hM)
 ·exact rp (dv h hM)
 ·exact su (dv h hM)
 ·exact tM (dv h hM)
 ·split at h
  ·cases h; exact uf hM
  ·cases h
 ·have hs:∀ c,cdE s c=evo s.sl c:=λ c=>by cases s; rfl
  split at h
  ·rename_i hc; cases h; exact tg (s5 ((hs _).symm.trans hc)) rfl hM
  ·rename_i hc; cases h; exact rv (s5 ((hs _).symm.trans hc)) rfl hM
  ·cases h
 ·cases h
theorem u9 {c c':Cf}(h:stp C c=some c')(hM:M C Q c'):M C Q c:=by
 unfold stp at h
 split at h
 ·exact dv h hM
 ·exact rW (dv h hM)
 ·split at h
  ·rename_i s0 hs; cases h; exact vR hs hM
  ·cases h
 ·exact vA h hM
def run (C:Cx):Nat→Cf→Option Cf
 | 0,c=>some c
 | n+1,c=>(match stp C c with | some c'=>run C n c' | none=>none)
theorem nx:∀ (n:Nat) {c c':Cf},run C n c=some c'→M C Q c'→M C Q c
 | 0,c,c',h,hM=>by cases h; exact hM
 | n+1,c,c',h,hM=>by
  unfold run at h
  split at h
  ·rename_i c1 h1; exact u9 h1 (nx n h hM)
  ·cases h
theorem hQ:∀ {k:List Fr} {e:Exit} {s t:AS},cT C s t→dn C Q k e t→dn C Q k e s
 | [],e,s,t,hg,⟨u,h1,h2⟩=>⟨u,bh hg h1,h2⟩
 | .sq y::k,e,s,t,hg,h=>by
  cases e with
  | normal=>exact jS hg h
  | _=>exact hQ (k:=k) hg h
 | .bk id::k,e,s,t,hg,h=>by
  cases e with
  | exit i =>
   simp only [dn,eD] at h ⊢
   split
   ·rename_i e; rw [if_pos e] at h; exact hQ (k:=k) hg h
   ·rename_i e; rw [if_neg e] at h; exact hQ (k:=k) hg h
  | _=>exact hQ (k:=k) hg h
 | .ng::k,e,s,t,hg,h=>by
  cases e with
  | goto l=>exact h
  | _=>exact hQ (k:=k) hg h
 | .jo P::k,e,s,t,hg,h=>by
  cases e with
  | normal=>obtain ⟨u,h1,h2⟩:=h; exact ⟨u,bh hg h1,h2⟩
  | _=>exact hQ (k:=k) hg h
 | .je id P::k,e,s,t,hg,h=>by
  cases e with
  | exit i =>
   simp only [dn,exQ] at h ⊢
   split
   ·rename_i e; rw [if_pos e] at h; obtain ⟨u,h1,h2⟩:=h; exact ⟨u,bh hg h1,h2⟩
   ·rename_i e; rw [if_neg e] at h; exact hQ (k:=k) hg h
  | _=>exact hQ (k:=k) hg h
theorem mG {c:Ct}{t:AS}(hg:cT C s t)(h:M C Q ⟨c,k,t⟩):M C Q ⟨c,k,s⟩:=by
 cases c with
 | cd c=>exact jS hg h
 | op ops r=>exact pI hg h
 | ex e=>exact hQ hg h
theorem kX {c:Code}{σ:Type}(A:σ→Prop)(mk:σ→AS)(h2:∀ v,A v→M C Q ⟨.ex .normal,k,mk v⟩)(h1:M C Q ⟨.cd c,.jo (λ t=>∃ v,A v∧t=mk v)::k,s⟩):M C Q ⟨.cd c,k,s⟩ :=
 te _ (λ _s' ⟨_,hg,v,hv,e⟩=>hQ hg (e ▸ h2 v hv)) h1
theorem kEx (id:Nat){c:Code}{σ:Type}(A:σ→Prop)(mk:σ→AS)(h2:∀ v,A v→M C Q ⟨.ex (.exit id),k,mk v⟩)(h1:M C Q ⟨.cd c,.je id (λ t=>∃ v,A v∧t=mk v)::k,s⟩):M C Q ⟨.cd c,k,s⟩ :=
 tr id _ (λ _s' ⟨_,hg,v,hv,e⟩=>hQ hg (e ▸ h2 v hv)) h1
theorem eX {σ:Type}{A:σ→Prop}{mk:σ→AS}(v:σ)(hv:A v)(hg:cT C s (mk v)):M C Q ⟨.ex .normal,.jo (λ t=>∃ v,A v∧t=mk v)::k,s⟩:=⟨mk v,hg,v,hv,rfl⟩
theorem eXi {σ:Type}{A:σ→Prop}{mk:σ→AS}{id:Nat}(v:σ)(hv:A v)(hg:cT C s (mk v)):M C Q ⟨.ex (.exit id),.je id (λ t=>∃ v,A v∧t=mk v)::k,s⟩:=by
 show dn C Q (.je id (λ t=>∃ v,A v∧t=mk v)::k) (.exit id) s
 simp only [dn,exQ,if_true]; exact ⟨mk v,hg,v,hv,rfl⟩
theorem lG {c:Code}{σ O:Type}(mk:σ→AS)(lp:Nat→σ→Option O)(hz:∀ q,lp 0 q=none){o:O}{n:Nat}(q0:σ)(h0:lp n q0=some o)(hle:cT C s (mk q0))
  (round:∀ m q,lp (m+1) q=some o→M C Q ⟨.cd c,.jo (λ t=>∃ q',lp m q'=some o∧t=mk q')::k,mk q⟩):M C Q ⟨.cd (.loop c),k,s⟩:=by
 refine rF mk lp hz q0 h0 hle λ m q hq=>iy (λ e s' h=>?_) (round m q hq)
 cases e with
 | normal=>obtain ⟨u,hg,q',h1,rfl⟩:=h; exact ⟨q',h1,hg⟩
 | _=>exact h
def lks (sl:List (Nat×AV)):List Nat→Option (List AV)
 | []=>some []
 | t::r=>(match look sl t with
  | some x=>(match lks sl r with | some l=>some (x::l) | none=>none)
  | none=>none)
def stB (b:Bool)(sl:List (Nat×AV)):List Nat→List (Nat×AV)
 | []=>sl
 | t::r=>(t,.p (.val (.bool b)))::stB b sl r
theorem rY {b:Bool}:∀ {T:List Nat},lks sl T=some (T.map λ _=>.p (.val (.bool b)))→∀ j x,look (stB b sl T) j=some x→look sl j=some x
 | [],_,j,x,h=>h
 | t::r,hT,j,x,h=>by
  unfold lks at hT
  split at hT
  ·rename_i y hy
   split at hT
   ·rename_i l hl
    simp only [List.map_cons,Option.some.injEq,List.cons.injEq] at hT
    simp only [stB,aR] at h
    split at h
    ·rename_i e; subst e; cases h; rw [hy,hT.1]
    ·exact rY (hl.trans (congrArg some hT.2)) j x h
   ·cases hT
  ·cases hT
theorem ja {b:Bool}{T:List Nat}(hT:lks sl T=some (T.map λ _=>.p (.val (.bool b)))):cT C ⟨sl,ob⟩ ⟨stB b sl T,ob⟩ :=
 fI ⟨λ j x hx=>by
  have:=rY hT j x hx
  simp only [AS.get,this,Option.getD_some]; exact AV.sub_refl x,λ id cs h=>⟨cs,h,Nat.le_refl _,λ i c d hc hd=>by rw [hc] at hd; cases hd; exact AV.sub_refl _⟩⟩
theorem fD {c:Ct}{p:Prop} [Decidable p] {α:Type}{a b:Option α}{v:α}(T:List Nat)(h:(if p then a else b)=some v)(hT:lks sl T=some (T.map λ _=>.p (.val (.bool (decide p)))))
  (h1:p→a=some v→M C Q ⟨c,k,⟨stB true sl T,ob⟩⟩) (h2:¬p→b=some v→M C Q ⟨c,k,⟨stB false sl T,ob⟩⟩):M C Q ⟨c,k,⟨sl,ob⟩⟩:=by
 by_cases hp:p
 ·rw [decide_eq_true hp] at hT; exact mG (ja hT) (h1 hp (vE hp h))
 ·rw [decide_eq_false hp] at hT; exact mG (ja hT) (h2 hp (if_f hp h))
theorem fN {c:Ct}{p:Prop} [Decidable p] {α:Type}{a b:Option α}{v:α}(T:List Nat)(h:(if p then a else b)=some v)(hT:lks sl T=some (T.map λ _=>.p (.val (.bool (!decide p)))))
  (h1:p→a=some v→M C Q ⟨c,k,⟨stB false sl T,ob⟩⟩) (h2:¬p→b=some v→M C Q ⟨c,k,⟨stB true sl T,ob⟩⟩):M C Q ⟨c,k,⟨sl,ob⟩⟩:=by
 by_cases hp:p
 ·rw [decide_eq_true hp] at hT; exact mG (ja hT) (h1 hp (vE hp h))
 ·rw [decide_eq_false hp] at hT; exact mG (ja hT) (h2 hp (if_f hp h))
theorem fB {c:Ct}{p:Bool}{α:Type}{a b:Option α}{v:α}(T:List Nat)(h:(if p=true then a else b)=some v)(hT:lks sl T=some (T.map λ _=>.p (.val (.bool p))))
  (h1:p=true→a=some v→M C Q ⟨c,k,⟨stB true sl T,ob⟩⟩) (h2:p=false→b=some v→M C Q ⟨c,k,⟨stB false sl T,ob⟩⟩):M C Q ⟨c,k,⟨sl,ob⟩⟩:=by
 cases p
 ·exact mG (ja hT) (h2 rfl (vL rfl h))
 ·exact mG (ja hT) (h1 rfl (vE rfl h))
theorem lT {c:Ct}{q b:Bool}(T:List Nat)(hb:q=b)(hT:lks sl T=some (T.map λ _=>.p (.val (.bool q))))(h:M C Q ⟨c,k,⟨stB b sl T,ob⟩⟩):M C Q ⟨c,k,⟨sl,ob⟩⟩:=by
 subst hb; exact mG (ja hT) h
def gF (ops:Array Oper)(o:Oper)(sl:List (Nat×AV)):Bool:=match o.guard with
 | none=>true
 | some _=>(match gdF ops o sl with
  | some (true,.p (.val (.bool true)))=>true
  | some (false,.p (.val (.bool false)))=>true
  | _=>false)
theorem mO (hg:gF ops o sl=true)(h:a8 C o (λ s'=>M C Q ⟨.op ops r,k,s'⟩) ⟨sl,ob⟩):M C Q ⟨.op ops (o::r),k,⟨sl,ob⟩⟩:=by
 unfold gF at hg
 split at hg
 ·rename_i hn; exact ql hn h
 ·generalize hgd:gdF ops o sl=G at hg
  split at hg
  ·exact gy rfl hgd h
  ·exact gy rfl hgd h
  ·cases hg
theorem bd {α β:Type}{g:Prop}{p:Option α}{f:α→Option β}{v:β}(h:p.bind f=some v)(H:∀ x,p=some x→f x=some v→g):g:=by
 obtain ⟨x,h1,h2⟩:=vw h
 exact H x h1 h2
theorem cc' {α:Type}{g:Prop}{p:Prop} [Decidable p] {a:Option α}{v:α}(h:ck p a=some v)(H:p→a=some v→g):g:=by
 obtain ⟨h1,h2⟩:=fp h
 exact H h1 h2
def biF (C:Cx)(ops:Array Oper)(o:Oper)(sl:List (Nat×AV)):Option (Nat×BinOp×AV×AV):=match gF ops o sl with
 | true=>(match dsF C.n o with
  | some d=>(match o.op with
   | .binOp op _ x y _=>(match evo sl x with
    | some X=>(match evo sl y with
     | some Y=>some (d,op,X,Y)
     | none=>none)
    | none=>none)
   | _=>none)
  | none=>none)
 | false=>none
theorem pM {op:BinOp}{X Y:AV}(h:biF C ops o sl=some (d,op,X,Y)):gF ops o sl=true∧o.dst=some d∧Nat.blt d C.n=true∧∃ t x y t',o.op=.binOp op t x y t'∧evo sl x=some X∧evo sl y=some Y:=by
 unfold biF at h
 split at h
 ·rename_i hg
  split at h
  ·rename_i e hd
   split at h
   ·rename_i op' t x y t' ho
    split at h
    ·rename_i X' hx
     split at h
     ·rename_i Y' hy
      cases h
      exact ⟨hg,(ez hd).1,(ez hd).2,t,x,y,t',ho,hx,hy⟩
     ·cases h
    ·cases h
   ·cases h
  ·cases h
 ·cases h
theorem oA {α:Type}{a:Option α}{v:α}{op:BinOp}{x y c:Int}(h:ck (inR c) a=some v)(hb:biF C ops o sl=some (d,op,.p (.val (.int .i64 x)),.p (.val (.int .i64 y))))(hc:arI op x y=some c)
  (H:inR c→a=some v→M C Q ⟨.op ops r,k,⟨(d,.p (eI c))::sl,ob⟩⟩):M C Q ⟨.op ops (o::r),k,⟨sl,ob⟩⟩:=by
 obtain ⟨hg,hd,hn,t,X,Y,t',ho,hx,hy⟩:=pM hb
 obtain ⟨h1,h2⟩:=fp h
 exact mO hg (iT ho hd hn hx hy hc h1 (H h1 h2))
theorem oS {op:BinOp}{x y:Bytes}{c:Bool}(hb:biF C ops o sl=some (d,op,.p (.val (.string (str x))),.p (.val (.string (str y)))))(hc:uD op x y=some c)
  (H:M C Q ⟨.op ops r,k,⟨(d,.p (eB c))::sl,ob⟩⟩):M C Q ⟨.op ops (o::r),k,⟨sl,ob⟩⟩:=by
 obtain ⟨hg,hd,hn,t,X,Y,t',ho,hx,hy⟩:=pM hb
 exact mO hg (gD ho hd hn hx hy hc H)
theorem oC {α:Type}{a:Option α}{v:α}{x y:Bytes}(h:ck (x.length+y.length≤9223372036854775807) a=some v)(hb:biF C ops o sl=some (d,.add,.p (.val (.string (str x))),.p (.val (.string (str y)))))
  (H:x.length+y.length≤9223372036854775807→a=some v→M C Q ⟨.op ops r,k,⟨(d,.p (eS (x++y)))::sl,ob⟩⟩):M C Q ⟨.op ops (o::r),k,⟨sl,ob⟩⟩:=by
 obtain ⟨hg,hd,hn,t,X,Y,t',ho,hx,hy⟩:=pM hb
 obtain ⟨h1,h2⟩:=fp h
 exact mO hg (aM ho hd hn hx hy h1 (H h1 h2))
def lnF (C:Cx)(ops:Array Oper)(o:Oper)(sl:List (Nat×AV)):Option (Nat×Bool×AV):=match gF ops o sl with
 | true=>(match dsF C.n o with
  | some d=>(match o.op with
   | .call ⟨.builtin .len,⟨[x]⟩,⟨[t]⟩⟩=>(match look C.tt t with
    | some i=>(match evo sl x with
     | some X=>(match i.k with
      | .string=>some (d,true,X)
      | .slice _=>some (d,false,X)
      | _=>none)
     | none=>none)
    | none=>none)
   | _=>none)
  | none=>none)
 | false=>none
theorem oLs {x:Bytes}(hb:lnF C ops o sl=some (d,true,.p (.val (.string (str x)))))(H:M C Q ⟨.op ops r,k,⟨(d,.p (eI (x.length:Int)))::sl,ob⟩⟩):M C Q ⟨.op ops (o::r),k,⟨sl,ob⟩⟩:=by
 unfold lnF at hb
 split at hb
 ·rename_i hg
  split at hb
  ·rename_i e hd
   split at hb
   ·rename_i z t ho
    split at hb
    ·rename_i i hi
     split at hb
     ·rename_i X hx
      split at hb
      ·rename_i hk; cases hb; exact mO hg (tX ho (ez hd).1 (ez hd).2 hi hk hx H)
      ·cases hb
      ·cases hb
     ·cases hb
    ·cases hb
   ·cases hb
  ·cases hb
 ·cases hb
theorem oLl {α:Type}{f:α→PV}{l:List α}{X:AV}(hb:lnF C ops o sl=some (d,false,X))(hX:X.elems? = some (l.map f))(H:M C Q ⟨.op ops r,k,⟨(d,.p (eI (l.length:Int)))::sl,ob⟩⟩):M C Q ⟨.op ops (o::r),k,⟨sl,ob⟩⟩:=by
 unfold lnF at hb
 split at hb
 ·rename_i hg
  split at hb
  ·rename_i e hd
   split at hb
   ·rename_i z t ho
    split at hb
    ·rename_i i hi
     split at hb
     ·rename_i X' hx
      split at hb
      ·cases hb
      ·rename_i hk; cases hb; exact mO hg (ue ho (ez hd).1 (ez hd).2 hi hk hx hX H)
      ·cases hb
     ·cases hb
    ·cases hb
   ·cases hb
  ·cases hb
 ·cases hb
def ixF (C:Cx)(ops:Array Oper)(o:Oper)(sl:List (Nat×AV)):Option (Nat×AV×AV):=match gF ops o sl with
 | true=>(match dsF C.n o with
  | some d=>(match o.op with
   | .index t x y=>(match look C.tt t with
    | some i=>(match i.k with
     | .string=>(match evo sl x with
      | some X=>(match evo sl y with | some Y=>some (d,X,Y) | none=>none)
      | none=>none)
     | _=>none)
    | none=>none)
   | _=>none)
  | none=>none)
 | false=>none
theorem oI {α:Type}{a:Option α}{v:α}{x:Bytes}{i:IntKind}{j:Int}(h:ck ((0:Int)≤j∧j < (x.length:Int)) a=some v)(hb:ixF C ops o sl=some (d,.p (.val (.string (str x))),.p (.val (.int i j))))
  (H:(0:Int)≤j∧j < (x.length:Int)→a=some v→M C Q ⟨.op ops r,k,⟨(d,.p (eK .u8 (byt x j)))::sl,ob⟩⟩):M C Q ⟨.op ops (o::r),k,⟨sl,ob⟩⟩:=by
 obtain ⟨h1,h2⟩:=fp h
 unfold ixF at hb
 split at hb
 ·rename_i hg
  split at hb
  ·rename_i e hd
   split at hb
   ·rename_i t X Y ho
    split at hb
    ·rename_i i hi
     split at hb
     ·rename_i hk
      split at hb
      ·rename_i hx
       split at hb
       ·rename_i hy; cases hb; exact mO hg (fC ho (ez hd).1 (ez hd).2 hi hk hx hy h1 (H h1 h2))
       ·cases hb
      ·cases hb
     ·cases hb
    ·cases hb
   ·cases hb
  ·cases hb
 ·cases hb
def slF (C:Cx)(ops:Array Oper)(o:Oper)(sl:List (Nat×AV)):Option (Nat×AV×Option Operand×Option Operand):=match gF ops o sl with
 | true=>(match dsF C.n o with
  | some d=>(match o.op with
   | .slice t x lo hi none=>(match look C.tt t with
    | some i=>(match i.k with
     | .string=>(match evo sl x with
      | some X=>some (d,X,lo,hi)
      | none=>none)
     | _=>none)
    | none=>none)
   | _=>none)
  | none=>none)
 | false=>none
theorem oP {α:Type}{a:Option α}{v:α}{x:Bytes}{i j:Int}{lo hi:Option Operand}(h:ck ((0:Int)≤i∧i≤j∧j≤(x.length:Int)) a=some v)(hb:slF C ops o sl=some (d,.p (.val (.string (str x))),lo,hi))(hlo:loI sl lo=some i)(hhi:hiI sl (x.length:Int) hi=some j)
  (H:(0:Int)≤i∧i≤j∧j≤(x.length:Int)→a=some v→M C Q ⟨.op ops r,k,⟨(d,.p (eS (sub x i j)))::sl,ob⟩⟩):M C Q ⟨.op ops (o::r),k,⟨sl,ob⟩⟩:=by
 obtain ⟨h1,h2⟩:=fp h
 unfold slF at hb
 split at hb
 ·rename_i hg
  split at hb
  ·rename_i e hd
   split at hb
   ·rename_i t X lo' hi' ho
    split at hb
    ·rename_i i hi
     split at hb
     ·rename_i hk
      split at hb
      ·rename_i hx
       cases hb; exact mO hg (rB ho (ez hd).1 (ez hd).2 hi hk hx hlo hhi h1 (H h1 h2))
      ·cases hb
     ·cases hb
    ·cases hb
   ·cases hb
  ·cases hb
 ·cases hb
def atF (C:Cx)(ops:Array Oper)(o:Oper)(sl:List (Nat×AV)):Option (Nat×Nat×AV×AV):=match gF ops o sl with
 | true=>(match dsF C.n o with
  | some d=>(match o.op with
   | .indexAddr t x y=>(match look C.tt t with
    | some i=>(match i.k with
     | .slice e=>(match look C.tt e with
      | some ie=>(match evo sl x with
       | some X=>(match evo sl y with | some Y=>some (d,ie.size,X,Y) | none=>none)
       | none=>none)
      | none=>none)
     | _=>none)
    | none=>none)
   | _=>none)
  | none=>none)
 | false=>none
theorem oE {α β:Type} [Inhabited α] {a:Option β}{v:β}{f:α→PV}{l:List α}{cs:α→List PV}{X:AV}{sz:Nat}{i:IntKind}{j:Int}(h:ck ((0:Int)≤j∧j < (l.length:Int)) a=some v)(hcs:∀ x,(f x).cells=cs x)(hb:atF C ops o sl=some (d,sz,X,.p (.val (.int i j))))(hX:X.elems? = some (l.map f))(hsz:∀ x,(cs x).length=sz)
  (H:(0:Int)≤j∧j < (l.length:Int)→a=some v→M C Q ⟨.op ops r,k,⟨(d,.rptr (cs (lat l j)))::sl,ob⟩⟩):M C Q ⟨.op ops (o::r),k,⟨sl,ob⟩⟩:=by
 obtain ⟨h1,h2⟩:=fp h
 unfold atF at hb
 split at hb
 ·rename_i hg
  split at hb
  ·rename_i e hd
   split at hb
   ·rename_i t X Y ho
    split at hb
    ·rename_i i hi
     split at hb
     ·rename_i hk
      split at hb
      ·rename_i ie hie
       split at hb
       ·rename_i hx
        split at hb
        ·rename_i hy; cases hb; exact mO hg (op_at cs ho (ez hd).1 (ez hd).2 hi hk hie hx hX hy h1 hcs hsz (H h1 h2))
        ·cases hb
       ·cases hb
      ·cases hb
     ·cases hb
    ·cases hb
   ·cases hb
  ·cases hb
 ·cases hb
def clF (C:Cx)(ops:Array Oper)(o:Oper)(sl:List (Nat×AV)):Option (Nat×FuncId×List AV):=match gF ops o sl with
 | true=>(match dsF C.n o with
  | some d=>(match o.op with
   | .call ⟨.value (.func f),args,_⟩=>(match fG sl args.toList with
    | some l=>some (d,f,l)
    | none=>none)
   | _=>none)
  | none=>none)
 | false=>none
theorem oK {f:FuncId}{l:List AV}{q:List PV}{x x':AV}(hc:aE C.P f q (·=x))(hb:clF C ops o sl=some (d,f,l))(hq:oQ l q)(henter:∀ vs w,(callFunc f vs).run C.P w=.ok (.enter f vs) w)(hr:x.settle=some x')
  (H:M C Q ⟨.op ops r,k,⟨(d,x')::sl,ob⟩⟩):M C Q ⟨.op ops (o::r),k,⟨sl,ob⟩⟩:=by
 unfold clF at hb
 split at hb
 ·rename_i hg
  split at hb
  ·rename_i e hd
   split at hb
   ·rename_i f' args ts ho
    split at hb
    ·rename_i l' hl; cases hb; exact mO hg (a6 hc ho (ez hd).1 (ez hd).2 hl hq henter hr H)
    ·cases hb
   ·cases hb
  ·cases hb
 ·cases hb
def tO:Operand→List Nat→List Nat
 | .tmp t,l=>t::l
 | _,l=>l
def tOs:List Operand→List Nat
 | []=>[]
 | x::r=>tO x (tOs r)
def tms (o:Oper):List Nat:=match o.op with
 | .move x=>tO x []
 | .assign x=>tO x []
 | .pick c x y=>tO c (tO x (tO y []))
 | .binOp _ _ x y _=>tO x (tO y [])
 | .unOp _ _ x=>tO x []
 | .fieldAddr _ x _=>tO x []
 | .load _ x=>tO x []
 | .nilCheck x=>tO x []
 | .extract x _=>tO x []
 | .field _ x _=>tO x []
 | .convert _ _ x=>tO x []
 | .build _ parts=>tOs (parts.toList.map (·.2))
 | .call c=>tOs c.args.toList
 | _=>[]
def gdT (ops:Array Oper)(o:Oper)(l:List Nat):List Nat:=match o.guard with
 | some (j,_)=>(match (ops.toList[j]?).bind (·.dst) with
  | some t=>t::l
  | none=>l)
 | none=>l
def knL (base:List (Nat×AV))(o:Oper)(rev:Rev):List Nat→List (Nat×AV)
 | []=>[]
 | i::r=>(match knX base o rev i with
  | some x=>(i,x)::knL base o rev r
  | none=>knL base o rev r)
theorem pp {base:List (Nat×AV)}{rev:Rev}:∀ {l:List Nat},rc base o rev (knL base o rev l)
 | []=>trivial
 | i::r=>by
  unfold knL
  split
  ·rename_i x hx; exact ⟨rI hx,pp⟩
  ·exact pp
theorem fO {kn:List (Nat×AV)}(hs:∀ i x,look kn i=some x→look sl i=some x)(x:Operand):evo kn x=none∨evo kn x=evo sl x:=by
 cases h:evo kn x with
 | none=>exact .inl rfl
 | some y=>exact .inr (jT hs h).symm
theorem nc {kn:List (Nat×AV)}(hs:∀ i x,look kn i=some x→look sl i=some x):∀ {l:List (Nat×Operand)} {ps:List (Nat×AV)},dS kn l=some ps→dS sl l=some ps
 | [],ps,h=>h
 | (i,x)::r,ps,h=>by
  unfold dS at h ⊢
  split at h
  ·rename_i y l hy hl; cases h; rw [jT hs hy,nc hs hl]
  ·cases h
theorem tv {kn:List (Nat×AV)}{y:AV}(hs:∀ i x,look kn i=some x→look sl i=some x)(h:opV C o kn ob=some y):opV C o sl ob=some y:=by
 unfold opV at h ⊢
 split at h
 ·exact jT hs h
 ·exact jT hs h
 ·rename_i c x y _
  rcases fO hs c with e | e
  ·rw [e] at h; cases h
  ·rw [← e]
   generalize evo kn c=z at h
   unfold pkP at h ⊢
   split at h
   ·exact jT hs h
   ·exact jT hs h
   ·cases h
 ·rename_i op t x y _ _
  rcases fO hs x with e | e
  ·rw [e] at h; cases h
  ·rw [← e]
   rcases fO hs y with e | e
   ·rw [e] at h
    unfold bnP at h
    split at h
    ·rename_i h2; cases h2
    ·rename_i h2; cases h2
    ·cases h
   ·rw [← e]; exact h
 ·rename_i x _; rcases fO hs x with e | e
  ·rw [e] at h; cases h
  ·rw [← e]; exact h
 ·rename_i t x f _; rcases fO hs x with e | e
  ·rw [e] at h; unfold faP at h; (repeat' split at h) <;> first | contradiction | cases h
  ·rw [← e]; exact h
 ·rename_i t x _; rcases fO hs x with e | e
  ·rw [e] at h; unfold ldP at h; split at h <;> cases h
  ·rw [← e]; exact h
 ·rename_i x _; rcases fO hs x with e | e
  ·rw [e] at h; cases h
  ·rw [← e]; exact h
 ·rename_i x n _; rcases fO hs x with e | e
  ·rw [e] at h; cases h
  ·rw [← e]; exact h
 ·rename_i t x f _; rcases fO hs x with e | e
  ·rw [e] at h; unfold flP at h; (repeat' split at h) <;> first | contradiction | cases h
  ·rw [← e]; exact h
 ·rename_i s t x _; rcases fO hs x with e | e
  ·rw [e] at h; unfold cvP at h; (repeat' split at h) <;> first | contradiction | cases h
  ·rw [← e]; exact h
 ·rename_i t parts _
  cases e:dS kn parts.toList with
  | none=>rw [e] at h; unfold buP at h; (repeat' split at h) <;> first | contradiction | cases h
  | some ps=>rw [e] at h; rw [nc hs e]; exact h
 ·rename_i c _
  unfold laP at h ⊢
  split at h
  ·rename_i x t _
   rcases fO hs x with e | e
   ·rw [e] at h; (repeat' split at h) <;> first | contradiction | cases h
   ·rw [← e]; exact h
  ·cases h
 ·cases h
def oV (C:Cx)(ops:Array Oper)(o:Oper)(sl:List (Nat×AV))(ob:List (Nat×List AV)):Option AV:=match o.guard with
 | none=>opV C o sl ob
 | some _=>(match gdF ops o sl with
  | some (true,.p (.val (.bool true)))=>opV C o sl ob
  | some (true,.p (.val (.bool false)))=>some (.p (.val Go.undef))
  | some (false,.p (.val (.bool true)))=>some (.p (.val Go.undef))
  | some (false,.p (.val (.bool false)))=>opV C o sl ob
  | some (_,.p (.val v))=>(match isU v with | true=>some (.p (.val Go.undef)) | false=>none)
  | _=>none)
def drF (C:Cx)(ops:Array Oper)(base:List (Nat×AV))(ob:List (Nat×List AV))(o:Oper)(rev:Rev):Option (Nat×AV):=match nwF base rev o with
 | some d=>(match Nat.blt d C.n with
  | true=>(match oV C ops o (knL base o rev (gdT ops o (tms o))) ob with
   | some y=>some (d,y)
   | none=>none)
  | false=>none)
 | none=>none
theorem ui {kn:List (Nat×AV)}{y:AV}(h:oV C ops o kn ob=some y)(hd:o.dst=some d)(hn:Nat.blt d C.n=true):j5 C ops ob o kn d y:=by
 intro sl hs K hK
 unfold oV at h
 split at h
 ·rename_i hg; exact ah hg (pm (tv hs h) hd hn hK)
 ·generalize hgd:gdF ops o kn=G at h
  have yes:∀ {w:Bool},gdF ops o kn=some (w,.p (.val (.bool w)))→opV C o kn ob=some y→One C ops o K ⟨sl,ob⟩:=λ hgd h=>by
   obtain ⟨j,t,hg,hj,hv⟩:=jD hgd
   exact et (pm (tv hs h) hd hn hK) hg hj (hs _ _ hv) rfl
  have no:∀ {w b:Bool},gdF ops o kn=some (w,.p (.val (.bool b)))→b=(!w)→y=.p (.val Go.undef)→One C ops o K ⟨sl,ob⟩:=λ hgd hb h=>by
   subst h
   obtain ⟨j,t,hg,hj,hv⟩:=jD hgd
   exact vc hg hj (hs _ _ hv) hb hd hn hK
  split at h
  ·exact yes hgd h
  ·cases h; exact no hgd rfl rfl
  ·cases h; exact no hgd rfl rfl
  ·exact yes hgd h
  ·split at h
   ·rename_i hu
    have:=sC hu; subst this
    cases h
    obtain ⟨j,t,hg,hj,hv⟩:=jD hgd
    exact rM hg hj (hs _ _ hv) hd hn hK
   ·cases h
  ·cases h
def drw (C:Cx)(ops:Array Oper)(base:List (Nat×AV))(ob:List (Nat×List AV)):Nat→List Oper→Nat→Rev→Option (List Oper×Nat×Rev)
 | 0,l,i,rev=>some (l,i,rev)
 | n+1,o::l,i,rev=>(match drF C ops base ob o rev with
  | some (d,y)=>drw C ops base ob n l (i+1) ((i,d,y)::rev)
  | none=>none)
 | _+1,[],_,_=>none
theorem dR {base:List (Nat×AV)}:∀ (n:Nat) {l l':List Oper} {i i':Nat} {rev rev':Rev},drw C ops base ob n l i rev=some (l',i',rev')→DQ C ops base ob K l' i' rev'→DQ C ops base ob K l i rev
 | 0,l,l',i,i',rev,rev',h,hK=>by cases h; exact hK
 | n+1,[],l',i,i',rev,rev',h,hK=>by cases h
 | n+1,o::l,l',i,i',rev,rev',h,hK=>by
  unfold drw at h
  split at h
  ·rename_i d y hd
   unfold drF at hd
   split at hd
   ·rename_i e he
    split at hd
    ·rename_i hn
     split at hd
     ·rename_i z hz
      cases hd
      exact qB y _ pp (ui hz (iW he).1 hn) (iW he).1 (iW he).2.1 (iW he).2.2 (dR n h hK)
     ·cases hd
    ·cases hd
   ·cases hd
  ·cases h
theorem mD (base:List (Nat×AV)){id:Nat}(hm:C.P.follows .mixedOrders=true)(hb:fq sl base)(hord:(ops.toList.zipIdx.all λ p=>p.1.after.toList.all λ e=>!(Region.binds .any e)||Nat.blt e.on p.2)=true)
  (h:DQ C ops base ob (λ s'=>M C Q ⟨.ex .normal,k,s'⟩) ops.toList 0 []):M C Q ⟨.cd (.region id ops true),k,⟨sl,ob⟩⟩:=qX base hm hb hord h
def tS:Rev→List (Nat×AV)→Option (List (Nat×AV))
 | [],b=>some b
 | (_,p)::r,b=>(match tS r b with | some l=>some (p::l) | none=>none)
theorem qD:∀ {rev:Rev} {b l:List (Nat×AV)},tS rev b=some l→l=ic rev++b
 | [],b,l,h=>by cases h; rfl
 | (i,p)::r,b,l,h=>by
  unfold tS at h
  split at h
  ·rename_i m hm; cases h; rw [qD hm]; rfl
  ·cases h
theorem dE {base l:List (Nat×AV)}{i:Nat}{rev:Rev}(h:tS rev base=some l)(hM:M C Q ⟨.ex .normal,k,⟨l,ob⟩⟩):DQ C ops base ob (λ s'=>M C Q ⟨.ex .normal,k,s'⟩) [] i rev :=
 uO (by rw [← qD h]; exact hM)
theorem dL {base:List (Nat×AV)}{l:List Oper}{i:Nat}{rev:Rev}{q b:Bool}(hb:q=b)(h:drF C ops base ob o rev=some (d,.p (.val (.bool q))))(hK:DQ C ops base ob K l (i+1) ((i,d,.p (.val (.bool b)))::rev)):DQ C ops base ob K (o::l) i rev:=by
 subst hb
 refine dR 1 (l':=l) (i':=i+1) (rev':=(i,d,.p (.val (.bool q)))::rev) ?_ hK
 simp only [drw,h]
theorem mS (S:fV){id:Nat}(hm:C.P.follows .mixedOrders=true)(hlen:S.imp.length=S.m)(hob:S.obj 0=ob)(hb:fq sl (S.bas 0))
  (hbas:∀ j,j < S.m→fq (trL (S.D j) (S.bas j)) (S.bas (j+1))) (hnd:nodupB S.imp=true) (hin:S.imp.all (λ i=>Nat.blt i ops.size)=true) (hch:chainB ops S.imp=true)
  (hord:(ops.toList.zipIdx.all λ p=>p.1.after.toList.all λ e=>!(Region.binds .any e)||Nat.blt e.on p.2)=true) (h:DS C ops S (λ rev=>M C Q ⟨.ex .normal,k,⟨gQ rev S.m++S.bas S.m,S.obj S.m⟩⟩) ops.toList 0 []):M C Q ⟨.cd (.region id ops true),k,⟨sl,ob⟩⟩ :=
 qN S hm hlen hob hb hbas hnd hin hch hord h
def lkO (ob:List (Nat×List AV)):List Nat→Option (List (List AV))
 | []=>some []
 | t::r=>(match look ob t with
  | some x=>(match lkO ob r with | some l=>some (x::l) | none=>none)
  | none=>none)
theorem rK {sl:List (Nat×AV)}:∀ {q:List (Nat×AV)},lks sl (q.map (·.1))=some (q.map (·.2))→∀ j x,look q j=some x→look sl j=some x
 | [],_,j,x,h=>by cases h
 | (i,y)::r,hT,j,x,h=>by
  simp only [List.map_cons] at hT
  unfold lks at hT
  split at hT
  ·rename_i z hz
   split at hT
   ·rename_i l hl
    simp only [Option.some.injEq,List.cons.injEq] at hT
    rw [aR] at h
    split at h
    ·rename_i e; subst e; cases h; rw [hz,hT.1]
    ·exact rK (hl.trans (congrArg some hT.2)) j x h
   ·cases hT
  ·cases hT
theorem rH {ob:List (Nat×List AV)}:∀ {q:List (Nat×List AV)},lkO ob (q.map (·.1))=some (q.map (·.2))→∀ j x,look q j=some x→look ob j=some x
 | [],_,j,x,h=>by cases h
 | (i,y)::r,hT,j,x,h=>by
  simp only [List.map_cons] at hT
  unfold lkO at hT
  split at hT
  ·rename_i z hz
   split at hT
   ·rename_i l hl
    simp only [Option.some.injEq,List.cons.injEq] at hT
    rw [aR] at h
    split at h
    ·rename_i e; subst e; cases h; rw [hz,hT.1]
    ·exact rH (hl.trans (congrArg some hT.2)) j x h
   ·cases hT
  ·cases hT
theorem gE {s t:AS}(h1:lks s.sl (t.sl.map (·.1))=some (t.sl.map (·.2)))(h2:lkO s.ob (t.ob.map (·.1))=some (t.ob.map (·.2))):cT C s t :=
 fI ⟨λ j x hx=>by
  have:=rK h1 j x hx
  simp only [AS.get,this,Option.getD_some]; exact AV.sub_refl x,λ id cs h=>⟨cs,rH h2 id cs h,Nat.le_refl _,λ i c d hc hd=>by rw [hc] at hd; cases hd; exact AV.sub_refl _⟩⟩
theorem mP {β:Type}{v0:β}{tt:List (Nat×TI)}{fn:Func}{c:Code}(mk:β→AV)(h:M C (λ e s=>∃ v,v=v0∧qU tt fn (λ x=>x.sub (mk v)) e s) ⟨.cd c,[],s⟩):awp C c (qU tt fn (λ x=>x.sub (mk v0))) s :=
 iy (λ e s h=>by obtain ⟨t,h1,v,rfl,h2⟩:=h; exact ⟨t,h1,h2⟩) h |> pg
theorem mQ {β:Type}{v v0:β}{tt:List (Nat×TI)}{fn:Func}{mk:β→AV}{l:List AV}(e:v=v0)(h:g7 tt fn.results.toList s=some l)(hR:(kx l).sub (mk v)):M C (λ e s=>∃ v,v=v0∧qU tt fn (λ x=>x.sub (mk v)) e s) ⟨.ex .ret,[],s⟩ :=
 ⟨s,eT s,v,e,tV h hR⟩
theorem mPo {β:Type}{v0:β}{tt:List (Nat×TI)}{fn:Func}{ts ids:List Nat}{c:Code}(mk:β→AV)(mo:β→List (Nat×List AV))(h:M C (λ e s=>∃ v,v=v0∧pJ C tt fn ts ids (mk v) (mo v) e s) ⟨.cd c,[],s⟩):awp C c (pJ C tt fn ts ids (mk v0) (mo v0)) s :=
 iy (λ e s h=>by obtain ⟨t,h1,v,rfl,h2⟩:=h; exact ⟨t,h1,h2⟩) h |> pg
theorem mQo {β:Type}{v v0:β}{tt:List (Nat×TI)}{fn:Func}{ts ids:List Nat}{mk:β→AV}{mo:β→List (Nat×List AV)}{r1:AV}{obs obs':List (Nat×List AV)}{t:AS}{l:List AV}(e:v=v0)(hg:cT C s t)(h1:g7 tt fn.results.toList t=some l)(h2:(kx l).mapA (hG ts)=some r1)
  (h3:fc t.ob ids=some obs) (h4:fy (hG ts) obs=some obs') (h5:r1.sub (mk v)) (h6:leO obs' (mo v)):M C (λ e s=>∃ v,v=v0∧pJ C tt fn ts ids (mk v) (mo v) e s) ⟨.ex .ret,[],s⟩ :=
 ⟨s,eT s,v,e,ut hg h1 h2 h3 h4 h5 h6⟩
theorem mQon {β:Type}{v v0:β}{tt:List (Nat×TI)}{fn:Func}{ts ids:List Nat}{mk:β→AV}{mo:β→List (Nat×List AV)}{r1:AV}{obs obs':List (Nat×List AV)}{t:AS}{l:List AV}(e:v=v0)(hg:cT C s t)(h1:g7 tt fn.results.toList t=some l)(h2:(kx l).mapA (hG ts)=some r1)
  (h3:fc t.ob ids=some obs) (h4:fy (hG ts) obs=some obs') (h5:r1.sub (mk v)) (h6:leO obs' (mo v)):M C (λ e s=>∃ v,v=v0∧pJ C tt fn ts ids (mk v) (mo v) e s) ⟨.ex .normal,[],s⟩ :=
 ⟨s,eT s,v,e,tW hg h1 h2 h3 h4 h5 h6⟩
theorem kN {c:Code}{σ:Type}(w:σ)(mk:σ→AS)(h2:M C Q ⟨.ex .normal,k,mk w⟩)(h1:M C Q ⟨.cd c,.jo (λ t=>∃ v,w=v∧t=mk v)::k,s⟩):M C Q ⟨.cd c,k,s⟩ :=
 kX (λ v=>w=v) mk (λ _ e=>e ▸ h2) h1
theorem kE (id:Nat){c:Code}{σ:Type}(w:σ)(mk:σ→AS)(h2:M C Q ⟨.ex (.exit id),k,mk w⟩)(h1:M C Q ⟨.cd c,.je id (λ t=>∃ v,w=v∧t=mk v)::k,s⟩):M C Q ⟨.cd c,k,s⟩ :=
 kEx id (λ v=>w=v) mk (λ _ e=>e ▸ h2) h1
end
end Go.Ab
namespace Go.Ab
/- What holds no identity is not touched by the marks of a box or a new object. -/
mutual
theorem uo {D:Nat→Bool}:∀ {x y:AV},AV.mapA (λ _=>none) x=some y→y=x→x.dem D=x
 | .undef,_,_,_=>rfl
 | .p _,_,_,_=>rfl
 | .vec ..,y,h,e=>by simp only [AV.mapA,Option.some.injEq] at h; subst h; cases e
 | .arr ..,_,h,_=>by simp only [AV.mapA] at h; cases h
 | .ptr ..,_,h,_=>by simp only [AV.mapA] at h; cases h
 | .bptr ..,_,h,_=>by simp only [AV.mapA] at h; cases h
 | .mp ..,_,h,_=>by simp only [AV.mapA] at h; cases h
 | .mpr ..,_,h,_=>by simp only [AV.mapA] at h; cases h
 | .stk ..,_,h,_=>by simp only [AV.mapA] at h; cases h
 | .sem _,_,h,_=>by simp only [AV.mapA] at h; cases h
 | .it ..,_,h,_=>by simp only [AV.mapA] at h; cases h
 | .vecp ..,_,h,_=>by simp only [AV.mapA] at h; cases h
 | .elp ..,_,h,_=>by simp only [AV.mapA] at h; cases h
 | .rptr _,_,_,_=>rfl
 | .agg cs,y,h,e=>by
  subst e
  simp only [AV.mapA] at h
  cases hl:AV.mapA.go (λ _=>none) cs with
  | none=>rw [hl] at h; cases h
  | some l=>rw [hl] at h; cases h; simp only [AV.dem]; exact congrArg _ (gn hl rfl)
 | .tuple cs,y,h,e=>by
  subst e
  simp only [AV.mapA] at h
  cases hl:AV.mapA.go (λ _=>none) cs with
  | none=>rw [hl] at h; cases h
  | some l=>rw [hl] at h; cases h; simp only [AV.dem]; exact congrArg _ (gn hl rfl)
 | .func f cs,y,h,e=>by
  subst e
  simp only [AV.mapA] at h
  cases hl:AV.mapA.go (λ _=>none) cs with
  | none=>rw [hl] at h; cases h
  | some l=>rw [hl] at h; cases h; simp only [AV.dem]; exact congrArg _ (gn hl rfl)
theorem gn {D:Nat→Bool}:∀ {l l':List AV},AV.mapA.go (λ _=>none) l=some l'→l'=l→g6 D l=l
 | [],_,_,_=>rfl
 | x::r,l',h,e=>by
  subst e
  simp only [AV.mapA.go] at h
  split at h
  ·rename_i y z hy hz
   cases h
   simp only [g6,uo hy rfl,gn hz rfl]
  ·cases h
end
theorem fh {C:List AV}(K:AV.mapA.go (λ _=>none) C=some C)(D:Nat→Bool):g6 D C=C:=gn K rfl
theorem gFn {C:Cx}{sl:List (Nat×AV)}{ob:List (Nat×List AV)}{f:Fn}{cs:List AV}(j:Nat)(cs':List AV)(h:look sl j=some (.func f cs))(hc:cs=cs'):cT C ⟨sl,ob⟩ ⟨(j,.func f cs')::sl,ob⟩ :=
 gz j h (hc ▸ AV.sub_refl _)
end Go.Ab
end
section
namespace Go.Ab
open Go.Proofs Go.RowKit Go
structure al where
 fbuf:Bytes
def bN (b:al):Option al:=some b
def bK (b:al):Option (Bytes×al):=ck (b.fbuf.length≤9223372036854775807) <| some (b.fbuf,b)
theorem uJ:∃ j,Tryd.prog.info? 65=some j∧j.size=2:=by
 have h:(Tryd.prog.info? 65).map (·.size)=some 2:=by kernel_rfl
 obtain ⟨j,hj,hs⟩:=Option.map_eq_some_iff.1 h
 exact ⟨j,hj,hs⟩
set_option maxRecDepth 100000 in
theorem lN (b:Nat)(w:World)(h0:w.cell? ⟨b,0,none⟩=some (.pointer (some ⟨b,0,none⟩))) :
  Calls Tryd.prog 46 #[.pointer (some ⟨b,0,none⟩)] w λ e w'=>e=.returned (.tuple #[])∧w'=w:=by
 obtain ⟨j,hj,_⟩:=uJ
 go_enter Tryd.func46,Tryd.ntmps46
 go_wp2
 rw [Lib.run_neq_ptr_same w _ Tryd.underlying62 hj]
 go_wp2
 go_end0
 exact ⟨rfl,rfl⟩
set_option maxRecDepth 100000 in
theorem ke (b:Nat)(w:World)(h0:w.cell? ⟨b,0,none⟩=some (.pointer none))(hsh:w.shape? b=some (65,2))(hfz:w.frozen? ⟨b,0,none⟩=false) :
  Calls Tryd.prog 46 #[.pointer (some ⟨b,0,none⟩)] w λ e w'=>e=.returned (.tuple #[])∧w'=w.setCell ⟨b,0,none⟩ (.pointer (some ⟨b,0,none⟩)):=by
 obtain ⟨j,hj,hjs⟩:=uJ
 go_enter Tryd.func46,Tryd.ntmps46
 go_wp2
 rw [Lib.run_to_unsafe w ⟨b,0,none⟩ Tryd.underlying62 Tryd.underlying92 hj (by rw [hjs]; decide) hsh (Nat.zero_lt_succ 1)]
 simp only [Result.andThen]
 rw [Oper.upon_value]
 go_wp2
 rw [run_callFunc_extern Tryd.func59 (by kernel_rfl) (by kernel_rfl) (by kernel_rfl) (e:=Extern.AbiNoEscape.same) (by kernel_rfl)]
 rw [Lib.run_noEscape]
 simp only [Result.andThen]
 rw [Oper.upon_value]
 go_wp2
 rw [Lib.run_from_unsafe w ⟨b,0,none⟩ Tryd.underlying92 Tryd.underlying62 hj hsh (by kernel_rfl)]
 simp only [Result.andThen]
 rw [Oper.upon_value]
 go_wp2
 go_end0
 exact ⟨rfl,rfl⟩
structure qH (b:Nat)(w w':World):Prop where
 os:w'.os=w.os
 out:w'.output=w.output
 tape:w'.tape=w.tape
 size:w'.heap.size=w.heap.size
 other:∀ k,k≠b→w'.heap[k]? = w.heap[k]?
def back (i:Nat):Option Nat:=if i=900000 then some 2000000 else if i=1000000 then some 1000000 else none
def ghB (g:Gh):Gh:=⟨g.st,λ i=>if i=2000000 then g.ow 900000 else if M1≤i∧i < 2*M1 then g.ow i else none⟩
theorem nO {g:Gh}{i b:Nat}(h:(ghB g).ow i=some b):(i=2000000∧g.ow 900000=some b)∨(M1≤i∧i < 2*M1∧g.ow i=some b):=by
 simp only [ghB] at h
 split at h
 ·exact .inl ⟨‹_›,h⟩
 ·split at h
  ·rename_i h1; exact .inr ⟨h1.1,h1.2,h⟩
  ·cases h
theorem oz {g:Gh}:∀ i j b,back i=some j→g.ow i=some b→(ghB g).ow j=some b:=by
 intro i j b h hb
 unfold back at h
 split at h
 ·cases h; subst_vars; simp only [ghB,if_true]; exact hb
 ·split at h
  ·cases h; subst_vars
   simp only [ghB]
   rw [if_neg (by decide),if_pos (by decide)]; exact hb
  ·cases h
theorem qA {w w':World}{g:Gh}{b:Nat}(hok:Ok0 w g.st)(hown:∀ i b,g.ow i=some b→b < w.heap.size∧i < 2*M1)
  (hinj:∀ i j b,g.ow i=some b→g.ow j=some b→i=j) (hnst:∀ i b,M1≤i→g.ow i=some b→∀ o,¬ g.st b o)
  (hb:g.ow 1000000=some b) (h:qH b w w')
  (hsh:∀ (c:Array Value) (e:TypeId),w.heap[b]? = some (.cells c e (0,0))→∃ c':Array Value,w'.heap[b]? = some (.cells c' e (0,0))∧c'.size=c.size):i6 w g w' (ghB g):=by
 have hbs:∀ o,¬ g.st b o:=hnst _ b (Nat.le_refl _) hb
 have hev:Ev w g.st w' g.st:=λ k o hk=>⟨hk,by
  have:k≠b:=λ e=>hbs o (e ▸ hk)
  simp only [World.cell?,h.other k this]⟩
 refine ⟨h.os,h.out,h.tape,by rw [h.size]; exact Nat.le_refl _,λ k hk hno=>h.other k (λ e=>hno 1000000 (e ▸ hb)),λ i k hi=>?_,λ i j k hi hj=>?_,λ k o hk=>by rw [h.size]; exact hok.lt k o hk,λ k hk _ o=>Iff.rfl,λ i h1 h2=>?_,λ i k c e h1 h2 h3=>?_,λ i k hi hk o=>hnst i k hi hk o,hev⟩
 ·rcases nO hi with ⟨_,h1⟩ | ⟨_,_,h1⟩
  ·exact ⟨by rw [h.size]; exact (hown _ _ h1).1,.inr ⟨_,h1⟩⟩
  ·exact ⟨by rw [h.size]; exact (hown _ _ h1).1,.inr ⟨_,h1⟩⟩
 ·rcases nO hi with ⟨e1,h1⟩ | ⟨a1,a2,h1⟩ <;> rcases nO hj with ⟨e2,h2⟩ | ⟨b1,b2,h2⟩
  ·omega
  ·have:=hinj _ _ _ h1 h2; unfold M1 at *; omega
  ·have:=hinj _ _ _ h1 h2; unfold M1 at *; omega
  ·exact hinj _ _ _ h1 h2
 ·simp only [ghB]
  rw [if_neg (by unfold M1 at *; omega),if_pos ⟨h1,h2⟩]
 ·by_cases e1:k=b
  ·subst e1; exact hsh c e h3
  ·exact ⟨c,(h.other k e1).trans h3,rfl⟩
theorem vH {w w':World}{g:Gh}{b:Nat}(hbs:∀ o,¬ g.st b o)(h:qH b w w')(hc:∃ c e,w.heap[b]? = some (.cells c e (0,0)))
  (hsh:∀ (c:Array Value) (e:TypeId),w.heap[b]? = some (.cells c e (0,0))→∃ c':Array Value,w'.heap[b]? = some (.cells c' e (0,0))∧c'.size=c.size):EvO (λ _=>false) w g w' g:=by
 refine ⟨λ k o hk=>⟨hk,?_⟩,λ _ _ _ h=>h,λ id k c e _ _ hk=>?_,λ _ _ _ _ _ h=>h,λ id k es k' _ _ hk=>(h.other k (λ e=>by subst e; obtain ⟨c,t,hc⟩:=hc; rw [hc] at hk; cases hk)).trans hk,λ _ _=>rfl,λ id k o _ _ ho=>h.other k (λ e=>hbs o (e ▸ ho))⟩
 ·have:k≠b:=λ e=>hbs o (e ▸ hk)
  simp only [World.cell?,h.other k this]
 ·by_cases e1:k=b
  ·subst e1; exact hsh c e hk
  ·exact ⟨c,(h.other k e1).trans hk,rfl⟩
theorem ss {w:World}{g:Gh}{es:List PV}{vs:Array Value}{T ty:Nat}(hsz:vs.size=1)
  (hargs:∀ (i:Nat) c v,[AV.ptr 1000000 0][i]? = some c→vs[i]? = some v→ARep w g c v)
  (hobs:∀ id cs,look [(1000000,[AV.bptr T 2 1000000,AV.vec 900000 1 ty es])] id=some cs→eH w g id cs) :
  ∃ b p q,g.ow 1000000=some b∧vs=#[.pointer (some ⟨b,0,none⟩)]∧w.heap[b]? = some (.cells #[p,q] T (0,0))∧(∀ o,¬ g.st b o) ∧
   (p=.pointer none∨p=.pointer (some ⟨b,0,none⟩))∧ARep w g (.vec 900000 1 ty es) q:=by
 obtain ⟨b,c,e,h1,h2,h3,h4,h5⟩:=hobs 1000000 _ rfl
 obtain ⟨p,hp,hpr⟩:=h5 0 _ rfl
 obtain ⟨q,hq,hqr⟩:=h5 1 _ rfl
 have hv0:vs[0]? = some vs[0]:=Array.getElem?_eq_getElem (by omega)
 have ha:=hargs 0 _ _ rfl hv0
 have hvs:vs=#[vs[0]]:=by
  apply Array.ext
  ·simp [hsz]
  ·intro i h1 h2
   have:i=0:=by omega
   subst this; rfl
 have hc:∀ c1:Array Value,c1=c→c1.size=2→c=#[p,q]:=by
  rintro c1 rfl h
  apply Array.ext
  ·simp [h]
  ·intro i k1 k2
   match i,k2 with
   | 0,_=>rw [Array.getElem?_eq_getElem k1] at hp; simpa using hp
   | 1,_=>rw [Array.getElem?_eq_getElem k1] at hq; simpa using hq
 have hav:vs[0]=.pointer (some ⟨b,0,none⟩):=by
  generalize vs[0]=v at ha
  cases ha with
  | ptr how=>rw [h1] at how; cases how; rfl
 refine ⟨b,p,q,h1,by rw [hvs,hav],?_,h4,?_,hqr⟩
 ·cases hpr with
  | bptrn how hb hcs=>rw [h1] at how; cases how; rw [h2] at hb; cases hb; rw [h2,hc _ rfl hcs]
  | bptr how hb hcs=>rw [h1] at how; cases how; rw [h2] at hb; cases hb; rw [h2,hc _ rfl hcs]
 ·cases hpr with
  | bptrn how hb hcs=>exact .inl rfl
  | bptr how hb hcs=>rw [h1] at how; cases how; exact .inr rfl
theorem ob_B {w':World}{g:Gh}{es:List PV}{T ty b:Nat}{p q:Value}(hb:g.ow 1000000=some b)(h4:∀ o,¬ g.st b o)(h:w'.heap[b]? = some (.cells #[p,q] T (0,0)))
  (hp:p=.pointer none∨p=.pointer (some ⟨b,0,none⟩)) (hq:ARep w' g (.vec 900000 1 ty es) q):eH w' (ghB g) 1000000 [.bptr T 2 1000000,.vec 2000000 1 ty es]:=by
 have how:(ghB g).ow 1000000=some b:=oz 1000000 1000000 b rfl hb
 refine ⟨b,#[p,q],T,how,h,by simp,h4,λ i x hx=>?_⟩
 match i,hx with
 | 0,hx =>
  simp only [List.getElem?_cons_zero,Option.some.injEq] at hx; subst hx
  refine ⟨p,rfl,?_⟩
  rcases hp with rfl | rfl
  ·exact .bptrn how h rfl
  ·exact .bptr how h rfl
 | 1,hx =>
  simp only [List.getElem?_cons_succ,List.getElem?_cons_zero,Option.some.injEq] at hx; subst hx
  exact ⟨q,rfl,fk (m:=back) (g:=g) (g':=ghB g) rfl oz hq rfl⟩
 | n+2,hx=>simp at hx
theorem dH (b_0:al)(r:al)(h0:bN b_0=some r):dx Tryd.prog 46 [.ptr 1000000 0] [(1000000,[.bptr 65 2 1000000,.vec 900000 1 (5+1) (b_0.fbuf.map eU)])]
  (λ x y=>x=.tuple []∧y=[(1000000,[.bptr 65 2 1000000,.vec 2000000 1 (5+1) (r.fbuf.map eU)])]):=by
 cases h0
 intro w g vs hok hown hinj hnst hsz hargs hobs
 obtain ⟨b,p,q,hb,rfl,hheap,hbs,hp,hq⟩:=ss hsz hargs hobs
 have hc0:w.cell? ⟨b,0,none⟩=some p:=by simp [World.cell?,hheap]
 rcases hp with rfl | rfl
 ·refine (ke b w hc0 (by simp [World.shape?,hheap]) (by simp [World.frozen?,hheap])).mono ?_
  rintro e w' ⟨rfl,rfl⟩
  have hO:qH b w (w.setCell ⟨b,0,none⟩ (.pointer (some ⟨b,0,none⟩))):=⟨rfl,rfl,rfl,by simp [World.setCell],λ k hk=>Below.heap_setCell _ _ _ _ hk⟩
  have hheap':(w.setCell ⟨b,0,none⟩ (.pointer (some ⟨b,0,none⟩))).heap[b]? = some (.cells #[.pointer (some ⟨b,0,none⟩),q] 65 (0,0)):=by
   simp [World.setCell,Array.getElem?_modify,hheap]
  have hsh:∀ (c:Array Value) (e:TypeId),w.heap[b]? = some (.cells c e (0,0))→∃ c':Array Value,(w.setCell ⟨b,0,none⟩ (.pointer (some ⟨b,0,none⟩))).heap[b]? = some (.cells c' e (0,0))∧c'.size=c.size:=λ c e h=>by
   rw [hheap] at h; cases h; exact ⟨_,hheap',rfl⟩
  refine ⟨_,_,_,ghB g,rfl,⟨rfl,rfl⟩,.tuple rfl (by simp),λ x hx=>?_,qA hok hown hinj hnst hb hO hsh⟩
  simp only [List.mem_singleton] at hx; subst hx
  exact ob_B hb hbs hheap' (.inr rfl) (hq.mono (vH hbs hO ⟨_,_,hheap⟩ hsh))
 ·refine (lN b w hc0).mono ?_
  rintro e w' ⟨rfl,rfl⟩
  have hO:qH b w' w':=⟨rfl,rfl,rfl,rfl,λ k hk=>rfl⟩
  refine ⟨_,_,_,ghB g,rfl,⟨rfl,rfl⟩,.tuple rfl (by simp),λ x hx=>?_,qA hok hown hinj hnst hb hO (λ c e h=>⟨c,h,rfl⟩)⟩
  simp only [List.mem_singleton] at hx; subst hx
  exact ob_B hb hbs hheap (.inr rfl) hq
theorem nz:Tryd.prog.follows .mixedOrders=true:=by kernel_rfl
theorem i7 (w:World):Below w.heap.size w w.drew:=Below.drew (Below.refl _ w)
set_option maxRecDepth 100000 in
theorem pC (b:Nat)(p:Value)(w:World)(hbk:w.heap[b]? = some (.cells #[p,.slice none 0 0] 65 (0,0))) :
  Calls Tryd.prog 27 #[.pointer (some ⟨b,0,none⟩)] w λ e w'=>e=.returned (.string ⟨#[]⟩)∧Below w.heap.size w w':=by
 have mixed:=nz
 have hUS:∀ (W:World) (q:Option Addr),(Builtin.unsafeString_ #[85,3] 9 #[.pointer q,.int .i64 0]).run Tryd.prog W=.ok (.string .empty) W:=λ W q=>Lib.run_unsafeString_none W _ _ _ q
 have c1:w.drew.cell? ⟨b,1,none⟩=some (.slice none 0 0):=by
  have:w.drew.heap[b]? = some (.cells #[p,.slice none 0 0] 65 (0,0)):=hbk
  rw [Lib.cell_of_heap this]; rfl
 have hSD:(Builtin.unsafeSliceData_ #[63] 85 #[.slice none 0 0]).run Tryd.prog w.drew=.ok (.pointer none) w.drew:=rfl
 go_enter Tryd.func27,Tryd.ntmps27
 go_wp2
 go_region_o
 all_goals (go_wp2; go_ret; exact ⟨rfl,i7 w⟩)
set_option maxRecDepth 100000 in
theorem oJ (b g cap:Nat)(p:Value)(w:World)(hc0:cap≠0)(hbk:w.heap[b]? = some (.cells #[p,.slice (some ⟨g,0,none⟩) 0 cap] 65 (0,0))) :
  Calls Tryd.prog 27 #[.pointer (some ⟨b,0,none⟩)] w λ e w'=>e=.returned (.string ⟨#[]⟩)∧Below w.heap.size w w':=by
 have mixed:=nz
 have hUS:∀ (W:World) (q:Option Addr),(Builtin.unsafeString_ #[85,3] 9 #[.pointer q,.int .i64 0]).run Tryd.prog W=.ok (.string .empty) W:=λ W q=>Lib.run_unsafeString_none W _ _ _ q
 have c1:w.drew.cell? ⟨b,1,none⟩=some (.slice (some ⟨g,0,none⟩) 0 cap):=by
  have:w.drew.heap[b]? = some (.cells #[p,.slice (some ⟨g,0,none⟩) 0 cap] 65 (0,0)):=hbk
  rw [Lib.cell_of_heap this]; rfl
 have hSD:(Builtin.unsafeSliceData_ #[63] 85 #[.slice (some ⟨g,0,none⟩) 0 cap]).run Tryd.prog w.drew=.ok (.pointer (some ⟨g,0,none⟩)) w.drew:=Lib.run_unsafeSliceData_row _ _ _ _ _ _ hc0
 clear hc0
 go_enter Tryd.func27,Tryd.ntmps27
 go_wp2
 go_region_o
 all_goals (go_wp2; go_ret; exact ⟨rfl,i7 w⟩)
set_option maxRecDepth 100000 in
theorem mh (b g:Nat)(p:Value)(cur:Array Value)(w:World)(hbk:w.heap[b]? = some (.cells #[p,.slice (some ⟨g,0,none⟩) 0 0] 65 (0,0)))(hg:w.heap[g]? = some (.cells cur 5 (0,0))) :
  Calls Tryd.prog 27 #[.pointer (some ⟨b,0,none⟩)] w λ e w'=>e=.returned (.string ⟨#[]⟩)∧Below w.heap.size w w':=by
 have mixed:=nz
 have hUS:∀ (W:World) (q:Option Addr),(Builtin.unsafeString_ #[85,3] 9 #[.pointer q,.int .i64 0]).run Tryd.prog W=.ok (.string .empty) W:=λ W q=>Lib.run_unsafeString_none W _ _ _ q
 have hlt:b < w.heap.size:=by
  rcases Nat.lt_or_ge b w.heap.size with h' | h'
  ·exact h'
  ·simp [Array.getElem?_eq_none h'] at hbk
 have c1:w.drew.cell? ⟨b,1,none⟩=some (.slice (some ⟨g,0,none⟩) 0 0):=by
  have:w.drew.heap[b]? = some (.cells #[p,.slice (some ⟨g,0,none⟩) 0 0] 65 (0,0)):=hbk
  rw [Lib.cell_of_heap this]; rfl
 have hSD:(Builtin.unsafeSliceData_ #[63] 85 #[.slice (some ⟨g,0,none⟩) 0 0]).run Tryd.prog w.drew=.ok (.pointer (some ⟨w.drew.heap.size,0,none⟩)) (w.drew.alloc (.view ⟨g,0,none⟩ 5)) :=
  Lib.run_unsafeSliceData_zero w.drew _ _ 5 Tryd.underlying85 ⟨g,0,none⟩ 0 (5,cur.size) (by have hg':w.drew.heap[g]? = some (.cells cur 5 (0,0)):=hg; simp [World.shape?,hg'])
 have c2:(w.drew.alloc (.view ⟨g,0,none⟩ 5)).cell? ⟨b,1,none⟩=some (.slice (some ⟨g,0,none⟩) 0 0):=by
  have:(w.drew.alloc (.view ⟨g,0,none⟩ 5)).heap[b]? = _:=(Lib.alloc_old w.drew _ b hlt).trans hbk
  rw [Lib.cell_of_heap this]; rfl
 have c3:(w.alloc (.view ⟨g,0,none⟩ 5)).drew.cell? ⟨b,1,none⟩=some (.slice (some ⟨g,0,none⟩) 0 0):=c2
 have c0:w.cell? ⟨b,1,none⟩=some (.slice (some ⟨g,0,none⟩) 0 0):=c1
 go_enter Tryd.func27,Tryd.ntmps27
 go_wp2
 go_region_o
 all_goals (go_wp2; go_ret; exact ⟨rfl,(i7 w).alloc (Nat.le_refl _) _⟩)
set_option maxRecDepth 100000 in
theorem pi (b g cap:Nat)(p:Value)(cur:Array Value)(l:List UInt8)(w:World)(h0:l≠[])(hbk:w.heap[b]? = some (.cells #[p,.slice (some ⟨g,0,none⟩) l.length cap] 65 (0,0)))(hg:w.heap[g]? = some (.cells cur 5 (0,0)))
  (hnc:l.length≤cap) (hcs:cur.size=cap) (hcm:l.length≤9223372036854775807) (hcell:∀ (j:Nat) x,l[j]? = some x→w.cell? ⟨g,j,none⟩=some (.int .u8 x.toNat)) :
  Calls Tryd.prog 27 #[.pointer (some ⟨b,0,none⟩)] w λ e w'=>e=.returned (.string ⟨l.toArray⟩)∧w'=(w.drew.freeze ⟨g,0,none⟩ l.length):=by
 have mixed:=nz
 have hl0:l.length≠0:=by simpa using h0
 have c1:w.drew.cell? ⟨b,1,none⟩=some (.slice (some ⟨g,0,none⟩) l.length cap):=by
  have:w.drew.heap[b]? = some (.cells #[p,.slice (some ⟨g,0,none⟩) l.length cap] 65 (0,0)):=hbk
  rw [Lib.cell_of_heap this]; rfl
 have hSD:(Builtin.unsafeSliceData_ #[63] 85 #[.slice (some ⟨g,0,none⟩) l.length cap]).run Tryd.prog w.drew=.ok (.pointer (some ⟨g,0,none⟩)) w.drew:=Lib.run_unsafeSliceData_row _ _ _ _ _ _ (by omega)
 have hUS:(Builtin.unsafeString_ #[85,3] 9 #[.pointer (some ⟨g,0,none⟩),.int .i64 l.length]).run Tryd.prog w.drew=.ok (.string ⟨l.toArray⟩) (w.drew.freeze ⟨g,0,none⟩ l.length):=by
  refine Lib.run_unsafeString_row w.drew 85 3 9 5 Tryd.underlying85 (by kernel_rfl) g cur.size (by have hg':w.drew.heap[g]? = some (.cells cur 5 (0,0)):=hg; simp [World.shape?,hg']) l h0 (by omega) hcm ?_
  intro j x hx
  have:=hcell j x hx
  rw [add_lit,Nat.zero_add,World.cell?_drew]; exact this
 clear hcell hcs hcm hnc h0 hl0
 go_enter Tryd.func27,Tryd.ntmps27
 go_wp2
 go_region_o
 all_goals (go_wp2; go_ret; exact ⟨rfl,rfl⟩)
theorem nr (w:World)(g n k:Nat)(h:k≠g):(w.freeze ⟨g,0,none⟩ n).heap[k]? = w.heap[k]?:=by
 unfold World.freeze
 split
 ·rfl
 ·simp only [Array.getElem?_modify]
  rw [if_neg (λ e=>h e.symm)]
theorem oo (w:World)(g n:Nat)(a:Addr):(w.freeze ⟨g,0,none⟩ n).cell? a=w.cell? a:=by
 unfold World.freeze
 split
 ·rfl
 ·simp only [World.cell?,Array.getElem?_modify]
  by_cases h:g=a.block
  ·simp only [h,if_true]
   cases w.heap[a.block]? with
   | none=>rfl
   | some o=>cases o <;> rfl
  ·simp only [h,if_false]
theorem om (w:World)(g n:Nat):(w.freeze ⟨g,0,none⟩ n).heap.size=w.heap.size:=by
 unfold World.freeze; split <;> simp
theorem nS (w:World)(g n:Nat):(w.freeze ⟨g,0,none⟩ n).os=w.os∧(w.freeze ⟨g,0,none⟩ n).output=w.output∧(w.freeze ⟨g,0,none⟩ n).tape=w.tape:=by
 unfold World.freeze; split <;> exact ⟨rfl,rfl,rfl⟩
def ghS (g:Gh):Gh:=⟨g.st,λ i=>if M1≤i∧i < 2*M1 then g.ow i else none⟩
theorem nA {g:Gh}{i b:Nat}(h:(ghS g).ow i=some b):M1≤i∧i < 2*M1∧g.ow i=some b:=by
 simp only [ghS] at h
 split at h
 ·rename_i h1; exact ⟨h1.1,h1.2,h⟩
 ·cases h
theorem qh {w w':World}{g:Gh}{q:Nat}(hok:Ok0 w g.st)(hown:∀ i b,g.ow i=some b→b < w.heap.size∧i < 2*M1)
  (hinj:∀ i j b,g.ow i=some b→g.ow j=some b→i=j) (hnst:∀ i b,M1≤i→g.ow i=some b→∀ o,¬ g.st b o)
  (hq:g.ow 900000=some q∨w.heap.size≤q) (os:w'.os=w.os) (out:w'.output=w.output) (tape:w'.tape=w.tape) (size:w.heap.size≤w'.heap.size)
  (other:∀ k,k < w.heap.size→k≠q→w'.heap[k]? = w.heap[k]?) (cell:∀ b o,b < w.heap.size→w'.cell? ⟨b,o,none⟩=w.cell? ⟨b,o,none⟩):i6 w g w' (ghS g):=by
 have hev:Ev w g.st w' g.st:=λ k o hk=>⟨hk,cell k o (hok.lt k o hk)⟩
 refine ⟨os,out,tape,size,λ k hk hno=>other k hk (λ e=>?_),λ i k hi=>?_,λ i j k hi hj=>?_,λ k o hk=>Nat.lt_of_lt_of_le (hok.lt k o hk) size,λ k hk _ o=>Iff.rfl,λ i h1 h2=>?_,λ i k c e h1 h2 h3=>?_,λ i k hi hk o=>hnst i k hi hk o,hev⟩
 ·rcases hq with hq | hq
  ·exact hno _ (e ▸ hq)
  ·omega
 ·obtain ⟨_,_,h1⟩:=nA hi
  exact ⟨Nat.lt_of_lt_of_le (hown _ _ h1).1 size,.inr ⟨_,h1⟩⟩
 ·exact hinj _ _ _ (nA hi).2.2 (nA hj).2.2
 ·simp only [ghS]; rw [if_pos ⟨h1,h2⟩]
 ·refine ⟨c,(other k (hown _ _ h2).1 (λ e=>?_)).trans h3,rfl⟩
  rcases hq with hq | hq
  ·have:=hinj _ _ _ h2 (e ▸ hq); unfold M1 at *; omega
  ·have:=(hown _ _ h2).1; omega
theorem ob_S {w':World}{g:Gh}{es:List PV}{T b:Nat}{p q:Value}(hb:g.ow 1000000=some b)(h4:∀ o,¬ g.st b o)(h:w'.heap[b]? = some (.cells #[p,q] T (0,0)))
  (hp:p=.pointer none∨p=.pointer (some ⟨b,0,none⟩)) (hq:PRep w' g.st (.slice es) q):eH w' (ghS g) 1000000 [.bptr T 2 1000000,.p (.slice es)]:=by
 have how:(ghS g).ow 1000000=some b:=by simp only [ghS]; rw [if_pos (by decide)]; exact hb
 refine ⟨b,#[p,q],T,how,h,by simp,h4,λ i x hx=>?_⟩
 match i,hx with
 | 0,hx =>
  simp only [List.getElem?_cons_zero,Option.some.injEq] at hx; subst hx
  refine ⟨p,rfl,?_⟩
  rcases hp with rfl | rfl
  ·exact .bptrn how h rfl
  ·exact .bptr how h rfl
 | 1,hx =>
  simp only [List.getElem?_cons_succ,List.getElem?_cons_zero,Option.some.injEq] at hx; subst hx
  exact ⟨q,rfl,.p hq⟩
 | n+2,hx=>simp at hx
theorem dh (b_0:al)(r:Bytes×al)(h0:bK b_0=some r):dx Tryd.prog 27 [.ptr 1000000 0] [(1000000,[.bptr 65 2 1000000,.vec 900000 1 (5+1) (b_0.fbuf.map eU)])]
  (λ x y=>x=.p (eS r.1)∧y=[(1000000,[.bptr 65 2 1000000,.p (eL eU r.2.fbuf)])]):=by
 obtain ⟨hmax,h0⟩:=fp h0
 cases h0
 intro w g vs hok hown hinj hnst hsz hargs hobs
 obtain ⟨b,p,q,hb,rfl,hheap,hbs,hp,hq⟩:=ss hsz hargs hobs
 have hbl:b < w.heap.size:=(hown _ _ hb).1
 obtain ⟨l,hl⟩:∃ l,l=b_0.fbuf:=⟨_,rfl⟩
 rw [← hl] at hq ⊢
 -- a builder that holds nothing
 have none_:∀ q0,l=[]→q=q0→(Calls Tryd.prog 27 #[.pointer (some ⟨b,0,none⟩)] w λ e w'=>e=.returned (.string ⟨#[]⟩)∧Below w.heap.size w w')→PRep w g.st (.slice []) q0 →
   Calls Tryd.prog 27 #[.pointer (some ⟨b,0,none⟩)] w λ e w'=>∃ v r obs' g',e=.returned v∧(r=.p (eS l)∧obs'=[(1000000,[.bptr 65 2 1000000,.p (eL eU l)])])∧ARep w' g' r v∧(∀ p∈obs',eH w' g' p.1 p.2)∧i6 w g w' g':=by
  rintro q0 rfl rfl hc hr
  refine hc.mono ?_
  rintro e w' ⟨rfl,hB⟩
  have hcell:∀ b o,b < w.heap.size→w'.cell? ⟨b,o,none⟩=w.cell? ⟨b,o,none⟩:=λ b o h=>hB.cell (p:=⟨b,o,none⟩) h
  refine ⟨_,_,_,ghS g,rfl,⟨rfl,rfl⟩,.p (.val _),λ x hx=>?_,qh (q:=w.heap.size) hok hown hinj hnst (.inr (Nat.le_refl _)) hB.os hB.output hB.tape hB.size (λ k hk _=>hB.block k hk) hcell⟩
  simp only [List.mem_singleton] at hx; subst hx
  exact ob_S hb hbs ((hB.block b hbl).trans hheap) hp (hr.mono (w':=w') (st':=g.st) (λ k o hk=>⟨hk,hcell k o (hok.lt k o hk)⟩))
 generalize hes:l.map eU=es at hq
 cases hq with
 | vecn =>
  have e:l=[]:=by simpa using hes
  exact none_ _ e rfl (pC b p w hheap) .nils
 | vec how hb2 hcs hsz2 hst hr hty =>
  rename_i g2 off2 cap c e2
  have he2:e2=5∧off2=0:=by
   rcases hty with h | h
   ·cases h
   ·exact ⟨(Nat.succ.inj h.1).symm,h.2⟩
  obtain ⟨rfl,rfl⟩:=he2
  rw [Nat.zero_add] at hcs
  simp only [Nat.zero_add] at hst
  have hgl:g2 < w.heap.size:=(hown _ _ how).1
  subst hes
  simp only [List.length_map] at hheap
  by_cases hl0:l=[]
  ·subst hl0
   by_cases hc0:cap=0
   ·subst hc0
    exact none_ _ rfl rfl (mh b g2 p c w hheap hb2) (by simpa using hr)
   ·exact none_ _ rfl rfl (oJ b g2 cap p w hc0 hheap) (by simpa using hr)
  ·have hcap:l.length≤cap:=by
    obtain ⟨a',cap',he,hle⟩:=hU hr
    cases he
    simpa using hle
   have hcell:∀ (j:Nat) x,l[j]? = some x→w.cell? ⟨g2,j,none⟩=some (.int .u8 x.toNat):=by
    intro j x hx
    have hinv:=ua hsz2 hb2 hr
    obtain ⟨_,u,hu,hru⟩:=hinv j (eU x) 0 (eU x) (by simp [hx]) rfl
    cases hru
    simp only [World.cell?,hb2]
    simpa using hu
   refine (pi b g2 cap p c l w hl0 (by simpa using hheap) hb2 hcap (by simpa using hcs) ?_ hcell).mono ?_
   ·rw [hl]; exact hmax
   rintro e w' ⟨rfl,rfl⟩
   have hother:∀ k,k≠g2→(w.drew.freeze ⟨g2,0,none⟩ l.length).heap[k]? = w.heap[k]?:=λ k hk=>nr w.drew g2 _ k hk
   have hcell2:∀ b o,(w.drew.freeze ⟨g2,0,none⟩ l.length).cell? ⟨b,o,none⟩=w.cell? ⟨b,o,none⟩:=λ b o=>oo w.drew g2 _ _
   obtain ⟨r1,r2,r3⟩:=nS w.drew g2 l.length
   refine ⟨_,_,_,ghS g,rfl,⟨rfl,rfl⟩,.p (.val _),λ x hx=>?_,qh (q:=g2) hok hown hinj hnst (.inl how) r1 r2 r3 (by rw [om]; exact Nat.le_refl _) (λ k _ hk=>hother k hk) (λ b o _=>hcell2 b o)⟩
   simp only [List.mem_singleton] at hx; subst hx
   have hne:b≠g2:=λ e=>by subst e; have:=hinj _ _ _ hb how; omega
   exact ob_S hb hbs ((hother b hne).trans (by simpa using hheap)) hp (by simpa using hr.mono (w':=w.drew.freeze ⟨g2,0,none⟩ l.length) (st':=g.st) (λ k o hk=>⟨hk,hcell2 k o⟩))
end Go.Ab
end
section
namespace Go.Ab.RB
open Go.Proofs Go.Ab
attribute [local irreducible] awp eM a8 aE dx AV.sub M cT
def az (b_0:al)(s_1:Bytes):Option (Int×Bool×al) :=
 (bN (al.mk b_0.fbuf)).bind λ r1 =>
 ck ((r1.fbuf.length+s_1.length)*1≤140737488355328) <|
 some ((s_1.length:Int),false,(al.mk (r1.fbuf++s_1)))
theorem aH (b_0:al)(s_1:Bytes)(r:Int×Bool×al)(h0:az b_0 s_1=some r):dx Tryd.prog 38 [.ptr 1000000 0,.p (eS s_1)] [(1000000,[.bptr 65 2 1000000,.vec 900000 1 (5+1) (b_0.fbuf.map eU)])] (λ x y=>x=.tuple [.p (eI r.1),.p (eE r.2.1)]∧y=[(1000000,[.bptr 65 2 1000000,.vec 2000000 1 (5+1) (r.2.2.fbuf.map eU)])]):=by
 unfold az at h0
 refine pR good [800000] [1000000] Tryd.func38 rfl rfl rfl rfl rfl λ w0 F=>mPo (λ v:Int×Bool×al=>.tuple [.p (eI v.1),.p (eE v.2.1)]) (λ v=>[(1000000,[.bptr 65 2 1000000,.vec 2000000 1 (5+1) (v.2.2.fbuf.map eU)])]) ?_
 refine nx 8 rfl (bd h0 λ r1 e2 h0=>?_)
 refine mO rfl (bz [1000000] [900000] 101000 101001 (dH (al.mk b_0.fbuf) _ e2) rfl rfl rfl rfl rfl ⟨sr,trivial⟩ rfl rfl ⟨⟨_,rfl,⟨sr,sr,trivial⟩⟩,trivial⟩ rfl rfl rfl rfl rfl rfl rfl rfl Tryd.call46 rfl rfl ?_)
 refine nx 9 rfl (cc' h0 λ hk3 h0=>?_)
 refine mO rfl (sF r1.fbuf s_1 rfl rfl rfl rfl rfl rfl rfl rfl rfl rfl rfl rfl rfl rfl rfl hk3 ?_)
 refine nx 7 rfl (oLs rfl ?_)
 exact nx 4 rfl (mQo (oi h0) (bh (b9 14 800000 rfl rfl rfl rfl rfl) (eT _)) rfl rfl rfl rfl (cD ⟨sr,sr,trivial⟩) ⟨⟨_,rfl,⟨sr,sr,trivial⟩⟩,trivial⟩)
def aK (b_0:al)(c_1:Int):Option (Bool×al) :=
 (bN (al.mk b_0.fbuf)).bind λ r1 =>
 ck ((0:Int)≤c_1∧c_1 < 256) <|
 ck ((r1.fbuf.length+[u8 c_1].length)*1≤140737488355328) <|
 some (false,(al.mk (r1.fbuf++[u8 c_1])))
theorem aZ (b_0:al)(c_1:Int)(r:Bool×al)(h0:aK b_0 c_1=some r):dx Tryd.prog 36 [.ptr 1000000 0,.p (eK .u8 c_1)] [(1000000,[.bptr 65 2 1000000,.vec 900000 1 (5+1) (b_0.fbuf.map eU)])] (λ x y=>x=.p (eE r.1)∧y=[(1000000,[.bptr 65 2 1000000,.vec 2000000 1 (5+1) (r.2.fbuf.map eU)])]):=by
 unfold aK at h0
 refine pR good [800000] [1000000] Tryd.func36 rfl rfl rfl rfl rfl λ w0 F=>mPo (λ v:Bool×al=>.p (eE v.1)) (λ v=>[(1000000,[.bptr 65 2 1000000,.vec 2000000 1 (5+1) (v.2.fbuf.map eU)])]) ?_
 refine nx 7 rfl (bd h0 λ r1 e2 h0=>?_)
 refine mO rfl (bz [1000000] [900000] 101000 101001 (dH (al.mk b_0.fbuf) _ e2) rfl rfl rfl rfl rfl ⟨sr,trivial⟩ rfl rfl ⟨⟨_,rfl,⟨sr,sr,trivial⟩⟩,trivial⟩ rfl rfl rfl rfl rfl rfl rfl rfl Tryd.call46 rfl rfl ?_)
 refine nx 9 rfl (cc' h0 λ hk3 h0=>?_)
 refine mO rfl (di eU [u8 c_1] rfl rfl rfl rfl rfl rfl rfl rfl rfl rfl rfl rfl rfl (congr (congrArg List.cons (vU hk3)) rfl) ?_)
 refine cc' h0 λ hk4 h0=>mO rfl (kJ eU r1.fbuf [u8 c_1] rfl rfl rfl rfl rfl rfl rfl rfl rfl rfl rfl rfl rfl (λ _=>rfl) rfl rfl rfl rfl hk4 ?_)
 exact nx 9 rfl (mQo (oi h0) (bh (b9 14 800000 rfl rfl rfl rfl rfl) (eT _)) rfl rfl rfl rfl (sr) ⟨⟨_,rfl,⟨sr,sr,trivial⟩⟩,trivial⟩)
end Go.Ab.RB
end
section
namespace Go.Ab
open Go.RowKit
theorem aE.of_calls {P:Program}{f:FuncId}{l:List Value}{r:AV}
  (h:∀ (w:World) (st:Nat→Nat→Prop),Ok0 w st→Calls P f l.toArray w λ e w'=>∃ v,e=.returned v∧Below w.heap.size w w'∧∀ g',ARep w' g' r v):aE P f (l.map PV.val) (·=r):=by
 intro w st vs hok hsz hargs
 have e:vs=l.toArray:=by
  apply Array.ext
  ·simpa using hsz
  ·intro i h1 h2
   have hi:i < l.length:=by simpa using h2
   have:=hargs i (.val l[i]) vs[i] (by simp [hi]) (Array.getElem?_eq_getElem h1)
   generalize hv:vs[i]=v at this
   cases this
   simp
 subst e
 refine (h w st hok).mono ?_
 rintro e w' ⟨v,rfl,hB,hr⟩
 refine ⟨v,r,⟨st,λ _=>none⟩,rfl,rfl,hr _,⟨hB.os,hB.output,hB.tape,hB.size,λ b hb=>hB.block b hb,?_,?_,λ b o hb=>Nat.lt_of_lt_of_le (hok.lt b o hb) hB.size,λ b _ o=>Iff.rfl⟩⟩
 ·intro i b hi; cases hi
 ·intro i j b hi; cases hi
theorem nY {w:World}{st:Nat→Nat→Prop}(h:fM w st){g j:Nat}{l:List GC}{k:IntKind}{n:Int}(hl:look jk g=some l)(hj:l[j]? = some (.int k n)):w.cell? ⟨g,j,none⟩=some (.int k n):=by
 obtain ⟨_,v,h2,h3⟩:=(h g (l.map GC.pv) (by rw [gx,hl]; rfl)).1 j (.val (.int k n)) (by rw [List.getElem?_map,hj]; rfl)
 cases h3
 exact h2
theorem rz {w:World}{st:Nat→Nat→Prop}(h:fM w st){g:Nat}{k:IntKind}(hl:look jk g=some [.some k]):∃ m,w.cell? ⟨g,0,none⟩=some (.int k m):=by
 obtain ⟨_,v,h2,h3⟩:=(h g [.aint k] (by rw [gx,hl]; rfl)).1 0 (.aint k) rfl
 cases h3 with
 | aint _ m=>exact ⟨m,h2⟩
theorem s8 {P:Program}{w:World}{st:Nat→Nat→Prop}(h:fM w st){g:Nat}{l:List GC}{nm:String}{k:IntKind}{zs:List Int}(hl:look jk g=some l)(hn:P.globalNamed nm=some g)(hz:l=zs.map (GC.int k))(hne:zs≠[]):Lib.TabIs P w nm k zs:=by
 obtain ⟨h0,h1,h2⟩:=h g (l.map GC.pv) (by rw [gx,hl]; rfl)
 have hc:∀ (j:Nat) z,zs[j]? = some z→w.cell? ⟨g,j,none⟩=some (.int k z):=λ j z hj=>nY h hl (by rw [hz,List.getElem?_map,hj]; rfl)
 unfold Lib.TabIs World.var?
 rw [hn]
 simp only [Option.bind_some]
 have hlen:(l.map GC.pv).length=zs.length:=by rw [hz]; simp
 rw [hlen] at h2
 obtain ⟨z0,hz0⟩:∃ z0,zs[0]? = some z0:=by
  cases zs with
  | nil=>exact absurd rfl hne
  | cons z r=>exact ⟨z,rfl⟩
 have hc0:=hc 0 z0 hz0
 simp only [World.cell?] at hc hc0 h2
 cases hh:w.heap[g]? with
 | none=>rw [hh] at hc0; cases hc0
 | some o =>
  rw [hh] at hc hc0 h2
  cases o with
  | cells c e fz =>
   simp only [Option.isSome_none,Bool.false_eq_true,if_false] at hc hc0 h2
   refine congrArg some ?_
   apply Array.ext_getElem?
   intro j
   by_cases hj:j < zs.length
   ·rw [hc j zs[j] (List.getElem?_eq_getElem hj)]
    simp [hj]
   ·have h3:c.size≤zs.length:=by
     rcases Nat.lt_or_ge zs.length c.size with h' | h'
     ·rw [Array.getElem?_eq_getElem h'] at h2; cases h2
     ·exact h'
    rw [Array.getElem?_eq_none (by omega),Array.getElem?_eq_none (by simp; omega)]
  | _=>simp at hc0
theorem d7 (s:Bytes):(str s).data.toList=s:=by simp [str]
theorem kW (w:World):Below w.heap.size w w:=Below.refl _ w
end Go.Ab
end
section
namespace Go.Proofs
open Go.Shelf
def Tryd.laysM171_ren:Go.Shelf.Ren:=⟨λ | 171=>44 | 243=>57 | 246=>66 | 283=>70 | 284=>71 | 285=>72 | 286=>73 | 129=>81 | 317=>80 | 318=>82 | 319=>83 | 320=>84 | 337=>90 | 338=>91 | n=>n,λ | 3=>3 | 9=>9 | 2=>2 | 4=>4 | 171=>100 | 0=>0 | 53=>101 | 37=>63 | 5=>5 | 173=>104 | 212=>113 | 51=>114 | 20=>20 | 213=>115 | 46=>116 | 232=>127 | 233=>128 | n=>n,λ | 17=>1 | 18=>4 | 19=>5 | n=>n⟩
theorem Tryd.laysM171:Go.Proofs.LaysM.n171 Tryd.prog Tryd.laysM171_ren:={
 mixed:=by kernel_rfl
 f129:=Tryd.func81.trans (congrArg some (by kernel_rfl))
 f171:=Tryd.func44.trans (congrArg some (by kernel_rfl))
 f243:=Tryd.func57.trans (congrArg some (by kernel_rfl))
 f246:=Tryd.func66.trans (congrArg some (by kernel_rfl))
 f283:=Tryd.func70.trans (congrArg some (by kernel_rfl))
 f284:=Tryd.func71.trans (congrArg some (by kernel_rfl))
 f285:=Tryd.func72.trans (congrArg some (by kernel_rfl))
 f286:=Tryd.func73.trans (congrArg some (by kernel_rfl))
 f317:=Tryd.func80.trans (congrArg some (by kernel_rfl))
 f318:=Tryd.func82.trans (congrArg some (by kernel_rfl))
 f319:=Tryd.func83.trans (congrArg some (by kernel_rfl))
 f320:=Tryd.func84.trans (congrArg some (by kernel_rfl))
 f337:=Tryd.func90.trans (congrArg some (by kernel_rfl))
 f338:=Tryd.func91.trans (congrArg some (by kernel_rfl))
 t0:=Tryd.underlying0
 a0:=Tryd.isAgg0
 z0:=Tryd.sizeOf0
 v0:=Tryd.zeroValue0
 t2:=Tryd.underlying2
 a2:=Tryd.isAgg2
 z2:=Tryd.sizeOf2
 v2:=Tryd.zeroValue2
 t3:=Tryd.underlying3
 a3:=Tryd.isAgg3
 z3:=Tryd.sizeOf3
 v3:=Tryd.zeroValue3
 t4:=Tryd.underlying4
 a4:=Tryd.isAgg4
 z4:=Tryd.sizeOf4
 v4:=Tryd.zeroValue4
 t5:=Tryd.underlying5
 a5:=Tryd.isAgg5
 z5:=Tryd.sizeOf5
 v5:=Tryd.zeroValue5
 t9:=Tryd.underlying9
 a9:=Tryd.isAgg9
 z9:=Tryd.sizeOf9
 v9:=Tryd.zeroValue9
 t20:=Tryd.underlying20
 a20:=Tryd.isAgg20
 z20:=Tryd.sizeOf20
 v20:=Tryd.zeroValue20
 t37:=Tryd.underlying63
 a37:=Tryd.isAgg63
 z37:=Tryd.sizeOf63
 v37:=Tryd.zeroValue63
 t46:=Tryd.underlying116
 a46:=Tryd.isAgg116
 z46:=Tryd.sizeOf116
 v46:=Tryd.zeroValue116
 t51:=Tryd.underlying114
 a51:=Tryd.isAgg114
 z51:=Tryd.sizeOf114
 v51:=Tryd.zeroValue114
 t53:=Tryd.underlying101
 a53:=Tryd.isAgg101
 z53:=Tryd.sizeOf101
 v53:=Tryd.zeroValue101
 t171:=Tryd.underlying100
 a171:=Tryd.isAgg100
 z171:=Tryd.sizeOf100
 v171:=Tryd.zeroValue100
 t173:=Tryd.underlying104
 a173:=Tryd.isAgg104
 z173:=Tryd.sizeOf104
 v173:=Tryd.zeroValue104
 t212:=Tryd.underlying113
 a212:=Tryd.isAgg113
 z212:=Tryd.sizeOf113
 v212:=Tryd.zeroValue113
 t213:=Tryd.underlying115
 a213:=Tryd.isAgg115
 z213:=Tryd.sizeOf115
 t232:=Tryd.underlying127
 a232:=Tryd.isAgg127
 z232:=Tryd.sizeOf127
 v232:=Tryd.zeroValue127
 t233:=Tryd.underlying128
 a233:=Tryd.isAgg128
 z233:=Tryd.sizeOf128
 v233:=Tryd.zeroValue128
 g17:=by kernel_rfl
 g18:=by kernel_rfl
 g19:=by kernel_rfl
 i0:=by kernel_rfl
 i2:=by kernel_rfl
 i3:=by kernel_rfl
 i4:=by kernel_rfl
 i5:=by kernel_rfl
 i9:=by kernel_rfl
 i20:=by kernel_rfl
 i37:=by kernel_rfl
 i46:=by kernel_rfl
 i51:=by kernel_rfl
 i53:=by kernel_rfl
 i171:=by kernel_rfl
 i173:=by kernel_rfl
 i212:=by kernel_rfl
 i232:=by kernel_rfl
 i233:=by kernel_rfl
 m17:=by kernel_rfl
 m18:=by kernel_rfl
 m19:=by kernel_rfl }
open Go.RowKit Go.Sort Go.Lib in
theorem Tryd.strconv_Itoa (n:Int)(h0:-9223372036854775808≤n)(h1:n≤9223372036854775807)(w:World)(htab:Lib.TabIs Tryd.prog w "internal/strconv.uint64pow10" .u64 Lib.pow10Tab) :
  Calls Tryd.prog 44 #[.int .i64 n] w λ e w'=>e=.returned (.string ⟨(Lib.itoa n).toArray⟩)∧∃ k os,w'=grow (w.drewN k) os:=Any.strconv_Itoa Tryd.laysM171 n h0 h1 w htab
def Tryd.lays155_ren:Go.Shelf.Ren:=⟨λ | 155=>58 | 154=>67 | 138=>74 | 165=>48 | 143=>75 | 166=>38 | 197=>76 | 169=>27 | 195=>85 | 218=>86 | 240=>46 | 241=>60 | 219=>87 | 260=>88 | 276=>59 | 277=>68 | 217=>92 | 225=>93 | 224=>94 | 267=>95 | 266=>97 | 314=>98 | n=>n,λ | 9=>9 | 3=>3 | 4=>4 | 72=>65 | 0=>0 | 76=>80 | 105=>107 | 21=>21 | 5=>5 | 70=>62 | 20=>20 | 37=>63 | 75=>77 | 127=>85 | 164=>92 | 46=>116 | 119=>121 | 139=>124 | 138=>123 | 146=>129 | 51=>114 | 80=>67 | n=>n,λ | 1=>0 | 3=>2 | 4=>3 | n=>n⟩
theorem Tryd.lays155:Go.Proofs.Lays.n155 Tryd.prog Tryd.lays155_ren:={
 mixed:=by kernel_rfl
 f138:=Tryd.func74.trans (congrArg some (by kernel_rfl))
 f143:=Tryd.func75.trans (congrArg some (by kernel_rfl))
 f154:=Tryd.func67.trans (congrArg some (by kernel_rfl))
 f155:=Tryd.func58.trans (congrArg some (by kernel_rfl))
 f165:=Tryd.func48.trans (congrArg some (by kernel_rfl))
 f166:=Tryd.func38.trans (congrArg some (by kernel_rfl))
 f169:=Tryd.func27.trans (congrArg some (by kernel_rfl))
 f195:=Tryd.func85.trans (congrArg some (by kernel_rfl))
 f197:=Tryd.func76.trans (congrArg some (by kernel_rfl))
 f217:=Tryd.func92.trans (congrArg some (by kernel_rfl))
 f218:=Tryd.func86.trans (congrArg some (by kernel_rfl))
 f219:=Tryd.func87.trans (congrArg some (by kernel_rfl))
 f224:=Tryd.func94.trans (congrArg some (by kernel_rfl))
 f225:=Tryd.func93.trans (congrArg some (by kernel_rfl))
 f240:=Tryd.func46.trans (congrArg some (by kernel_rfl))
 f241:=Tryd.func60.trans (congrArg some (by kernel_rfl))
 f260:=Tryd.func88.trans (congrArg some (by kernel_rfl))
 f266:=Tryd.func97.trans (congrArg some (by kernel_rfl))
 f267:=Tryd.func95.trans (congrArg some (by kernel_rfl))
 f276:=Tryd.func59.trans (congrArg some (by kernel_rfl))
 f277:=Tryd.func68.trans (congrArg some (by kernel_rfl))
 f314:=Tryd.func98.trans (congrArg some (by kernel_rfl))
 t0:=Tryd.underlying0
 a0:=Tryd.isAgg0
 z0:=Tryd.sizeOf0
 v0:=Tryd.zeroValue0
 t3:=Tryd.underlying3
 a3:=Tryd.isAgg3
 z3:=Tryd.sizeOf3
 v3:=Tryd.zeroValue3
 t4:=Tryd.underlying4
 a4:=Tryd.isAgg4
 z4:=Tryd.sizeOf4
 v4:=Tryd.zeroValue4
 t5:=Tryd.underlying5
 a5:=Tryd.isAgg5
 z5:=Tryd.sizeOf5
 v5:=Tryd.zeroValue5
 t9:=Tryd.underlying9
 a9:=Tryd.isAgg9
 z9:=Tryd.sizeOf9
 v9:=Tryd.zeroValue9
 t20:=Tryd.underlying20
 a20:=Tryd.isAgg20
 z20:=Tryd.sizeOf20
 v20:=Tryd.zeroValue20
 t21:=Tryd.underlying21
 a21:=Tryd.isAgg21
 z21:=Tryd.sizeOf21
 v21:=Tryd.zeroValue21
 t37:=Tryd.underlying63
 a37:=Tryd.isAgg63
 z37:=Tryd.sizeOf63
 v37:=Tryd.zeroValue63
 t46:=Tryd.underlying116
 a46:=Tryd.isAgg116
 z46:=Tryd.sizeOf116
 v46:=Tryd.zeroValue116
 t51:=Tryd.underlying114
 a51:=Tryd.isAgg114
 z51:=Tryd.sizeOf114
 v51:=Tryd.zeroValue114
 t70:=Tryd.underlying62
 a70:=Tryd.isAgg62
 z70:=Tryd.sizeOf62
 v70:=Tryd.zeroValue62
 t72:=Tryd.underlying65
 a72:=Tryd.isAgg65
 z72:=Tryd.sizeOf65
 v72:=Tryd.zeroValue65
 t75:=Tryd.underlying77
 a75:=Tryd.isAgg77
 z75:=Tryd.sizeOf77
 v75:=Tryd.zeroValue77
 t76:=Tryd.underlying80
 a76:=Tryd.isAgg80
 z76:=Tryd.sizeOf80
 v76:=Tryd.zeroValue80
 t105:=Tryd.underlying107
 a105:=Tryd.isAgg107
 z105:=Tryd.sizeOf107
 v105:=Tryd.zeroValue107
 t119:=Tryd.underlying121
 a119:=Tryd.isAgg121
 z119:=Tryd.sizeOf121
 t127:=Tryd.underlying85
 a127:=Tryd.isAgg85
 z127:=Tryd.sizeOf85
 v127:=Tryd.zeroValue85
 t138:=Tryd.underlying123
 a138:=Tryd.isAgg123
 z138:=Tryd.sizeOf123
 v138:=Tryd.zeroValue123
 t139:=Tryd.underlying124
 a139:=Tryd.isAgg124
 z139:=Tryd.sizeOf124
 v139:=Tryd.zeroValue124
 t146:=Tryd.underlying129
 a146:=Tryd.isAgg129
 z146:=Tryd.sizeOf129
 v146:=Tryd.zeroValue129
 t164:=Tryd.underlying92
 a164:=Tryd.isAgg92
 z164:=Tryd.sizeOf92
 v164:=Tryd.zeroValue92
 g1:=by kernel_rfl
 g3:=by kernel_rfl
 g4:=by kernel_rfl }
theorem Tryd.Builder_Extra_155:Builder.Extra Tryd.prog Tryd.lays155_ren:={
 sizeBuilder:=by kernel_rfl
 liesBuilder:=by kernel_rfl
 t5:=Tryd.underlying5
 a5:=Tryd.isAgg5
 z5:=Tryd.sizeOf5
 v5:=Tryd.zeroValue5
 infoByte:=by kernel_rfl
 cellsByte:=by kernel_rfl
 sizeByte:=by kernel_rfl
 neB5:=by decide }
open Go.RowKit Go.Lib in
theorem Tryd.strings_ReplaceAll (s old new:ByteArray)(m:Int)(w:World)(hs:s.size < 4294967281)(hm:w.cell? ⟨0,0,none⟩=some (.int .i64 m))(h1:1≤old.size)(hlen:s.size+Lib.countB s old*new.size≤140737488355328) :
  Calls Tryd.prog 58 #[.string s,.string old,.string new] w λ e w' =>
   e=.returned (.string ⟨(Lib.replaceAll s.data.toList old.data.toList new.data.toList).toArray⟩)∧Below w.heap.size w w':=Any.strings_ReplaceAll Tryd.lays155 Tryd.Builder_Extra_155 s old new m w hs hm h1 hlen
def Tryd.lays100_ren:Go.Shelf.Ren:=⟨λ | 100=>39 | 207=>47 | n=>n,λ | 9=>9 | 4=>4 | 3=>3 | n=>n,λ | n=>n⟩
theorem Tryd.lays100:Go.Proofs.Lays.n100 Tryd.prog Tryd.lays100_ren:={
 mixed:=by kernel_rfl
 f100:=Tryd.func39.trans (congrArg some (by kernel_rfl))
 f207:=Tryd.func47.trans (congrArg some (by kernel_rfl))
 t3:=Tryd.underlying3
 a3:=Tryd.isAgg3
 z3:=Tryd.sizeOf3
 v3:=Tryd.zeroValue3
 t4:=Tryd.underlying4
 a4:=Tryd.isAgg4
 z4:=Tryd.sizeOf4
 v4:=Tryd.zeroValue4
 t9:=Tryd.underlying9
 a9:=Tryd.isAgg9
 z9:=Tryd.sizeOf9
 v9:=Tryd.zeroValue9 }
open Go.RowKit Go.Lib in
theorem Tryd.strings_HasSuffix (s p:ByteArray)(w:World)(hs:s.size≤9223372036854775807) :
  Calls Tryd.prog 39 #[.string s,.string p] w λ e w'=>e=.returned (.bool (Lib.hasSuffix s.data.toList p.data.toList))∧w'=w:=Any.strings_HasSuffix Tryd.lays100 s p w hs
def Tryd.lays156_ren:Go.Shelf.Ren:=⟨λ | 156=>40 | 165=>48 | 166=>38 | 169=>27 | 240=>46 | 241=>60 | 276=>59 | 277=>68 | n=>n,λ | 31=>26 | 9=>9 | 3=>3 | 4=>4 | 0=>0 | 20=>20 | 72=>65 | 76=>80 | 70=>62 | 37=>63 | 75=>77 | 127=>85 | 164=>92 | 5=>5 | 80=>67 | n=>n,λ | n=>n⟩
theorem Tryd.lays156:Go.Proofs.Lays.n156 Tryd.prog Tryd.lays156_ren:={
 mixed:=by kernel_rfl
 f156:=Tryd.func40.trans (congrArg some (by kernel_rfl))
 f165:=Tryd.func48.trans (congrArg some (by kernel_rfl))
 f166:=Tryd.func38.trans (congrArg some (by kernel_rfl))
 f169:=Tryd.func27.trans (congrArg some (by kernel_rfl))
 f240:=Tryd.func46.trans (congrArg some (by kernel_rfl))
 f241:=Tryd.func60.trans (congrArg some (by kernel_rfl))
 f276:=Tryd.func59.trans (congrArg some (by kernel_rfl))
 f277:=Tryd.func68.trans (congrArg some (by kernel_rfl))
 t0:=Tryd.underlying0
 a0:=Tryd.isAgg0
 z0:=Tryd.sizeOf0
 v0:=Tryd.zeroValue0
 t3:=Tryd.underlying3
 a3:=Tryd.isAgg3
 z3:=Tryd.sizeOf3
 v3:=Tryd.zeroValue3
 t4:=Tryd.underlying4
 a4:=Tryd.isAgg4
 z4:=Tryd.sizeOf4
 v4:=Tryd.zeroValue4
 t9:=Tryd.underlying9
 a9:=Tryd.isAgg9
 z9:=Tryd.sizeOf9
 v9:=Tryd.zeroValue9
 t20:=Tryd.underlying20
 a20:=Tryd.isAgg20
 z20:=Tryd.sizeOf20
 v20:=Tryd.zeroValue20
 t31:=Tryd.underlying26
 a31:=Tryd.isAgg26
 z31:=Tryd.sizeOf26
 v31:=Tryd.zeroValue26
 t37:=Tryd.underlying63
 a37:=Tryd.isAgg63
 z37:=Tryd.sizeOf63
 v37:=Tryd.zeroValue63
 t70:=Tryd.underlying62
 a70:=Tryd.isAgg62
 z70:=Tryd.sizeOf62
 v70:=Tryd.zeroValue62
 t72:=Tryd.underlying65
 a72:=Tryd.isAgg65
 z72:=Tryd.sizeOf65
 v72:=Tryd.zeroValue65
 t75:=Tryd.underlying77
 a75:=Tryd.isAgg77
 z75:=Tryd.sizeOf77
 v75:=Tryd.zeroValue77
 t76:=Tryd.underlying80
 a76:=Tryd.isAgg80
 z76:=Tryd.sizeOf80
 v76:=Tryd.zeroValue80
 t127:=Tryd.underlying85
 a127:=Tryd.isAgg85
 z127:=Tryd.sizeOf85
 v127:=Tryd.zeroValue85
 t164:=Tryd.underlying92
 a164:=Tryd.isAgg92
 z164:=Tryd.sizeOf92
 v164:=Tryd.zeroValue92 }
theorem Tryd.Builder_Extra_156:Builder.Extra Tryd.prog Tryd.lays156_ren:={
 sizeBuilder:=by kernel_rfl
 liesBuilder:=by kernel_rfl
 t5:=Tryd.underlying5
 a5:=Tryd.isAgg5
 z5:=Tryd.sizeOf5
 v5:=Tryd.zeroValue5
 infoByte:=by kernel_rfl
 cellsByte:=by kernel_rfl
 sizeByte:=by kernel_rfl
 neB5:=by decide }
open Go.RowKit in
theorem Tryd.strings_Join (bk o c:Nat)(xs:List ByteArray)(sep:ByteArray)(w:World)(hcells:∀ (j:Nat) x,xs[j]? = some x→w.cell? ⟨bk,o+j,none⟩=some (.string x))(hbk:bk < w.heap.size)(hN:xs.length≤140737488355328)(hcap:xs.length≤c)(hlen:(Lib.join (xs.map (·.data.toList)) sep.data.toList).length≤140737488355328) :
  Calls Tryd.prog 40 #[.slice (some ⟨bk,o,none⟩) xs.length c,.string sep] w λ e w'=>e=.returned (.string ⟨(Lib.join (xs.map (·.data.toList)) sep.data.toList).toArray⟩)∧Below w.heap.size w w':=Any.strings_Join Tryd.lays156 Tryd.Builder_Extra_156 bk o c xs sep w hcells hbk hN hcap hlen
open Go.RowKit in
theorem Tryd.strings_Join_none (a:Option Addr)(c:Nat)(sep:ByteArray)(w:World) :
  Calls Tryd.prog 40 #[.slice a 0 c,.string sep] w λ e w'=>e=.returned (.string ⟨#[]⟩)∧w'=w:=Any.strings_Join_none Tryd.lays156 Tryd.Builder_Extra_156 a c sep w
end Go.Proofs
end
section
namespace Go.Ab
open Go.Proofs Go.RowKit
def strconv_Itoa (n:Int):Option Bytes:=ck (inR n) <| some (Lib.itoa n)
theorem kw (i_0:Int)(r:Bytes)(h0:strconv_Itoa i_0=some r):aE Tryd.prog 44 [eI i_0] (·=.p (eS r)):=by
 obtain ⟨hr,h0⟩:=fp h0
 cases h0
 refine aE.of_calls (l:=[.int .i64 i_0]) λ w st hok=>(Tryd.strconv_Itoa _ hr.1 hr.2 w (s8 hok.gl (g:=1) rfl (by kernel_rfl) (by kernel_rfl) (by decide))).mono ?_
 rintro e w' ⟨rfl,k,os,rfl⟩
 exact ⟨_,rfl,Lib.below_grow _ w (Nat.le_refl _) k os,λ _=>.p (.val _)⟩
end Go.Ab
namespace Go.Ab
open Go.Proofs Go.RowKit Go
def hexDigit (n:Nat):UInt8:=if n < 10 then UInt8.ofNat (48+n) else UInt8.ofNat (87+n)
def bS (u:Nat):Bytes:=if u < 16 then [hexDigit u] else [hexDigit (u / 16),hexDigit (u % 16)]
set_option maxRecDepth 100000 in
theorem tz16 (w:World)(hT:w.cell? ⟨5,15,none⟩=some (.int .u8 4)) :
  Calls Tryd.prog 91 #[.int .u64 16] w λ e w'=>e=.returned (.int .i64 4)∧w'=w:=by
 have hq:IntKind.u64.wrap (Go.bits BinOp.and IntKind.u64 16 (IntKind.u64.wrap (-16))*285870213051353865) / 288230376151711744=15:=by kernel_rfl
 go_enter Tryd.func91,Tryd.ntmps91
 go_wp2
 go_ret
 exact ⟨rfl,rfl⟩
set_option maxRecDepth 100000 in
theorem pow2 (w:World):Calls Tryd.prog 83 #[.int .i64 16] w λ e w'=>e=.returned (.bool true)∧w'=w:=by
 have hq:bits BinOp.and IntKind.i64 16 15=0:=by kernel_rfl
 go_enter Tryd.func83,Tryd.ntmps83
 go_wp2
 go_ret
 exact ⟨rfl,rfl⟩
set_option maxRecDepth 100000 in
theorem tz (w:World)(hT:w.cell? ⟨5,15,none⟩=some (.int .u8 4)) :
  Calls Tryd.prog 84 #[.int .u64 16] w λ e w'=>e=.returned (.int .i64 4)∧w'=w:=by
 have HC:=tz16 w hT
 clear hT
 go_enter Tryd.func84,Tryd.ntmps84
 go_wp2_with (go_at_call 91; refine HC.mono ?_; rintro e w' ⟨rfl,rfl⟩)
 go_ret
 exact ⟨rfl,rfl⟩
end Go.Ab
namespace Go.Ab
open Go.Proofs Go.RowKit Go
abbrev digs:ByteArray:={ data:=#[48,49,50,51,52,53,54,55,56,57,97,98,99,100,101,102,103,104,105,106,107,108,109,110,111,112,113,114,115,116,117,118,119,120,121,122] }
def dig (n:Nat)(h:n < 36):UInt8:=digs[n]'(by show n < 36; exact h)
theorem pz (n:Nat)(h:n < 36):(({ data:=#[48,49,50,51,52,53,54,55,56,57,97,98,99,100,101,102,103,104,105,106,107,108,109,110,111,112,113,114,115,116,117,118,119,120,121,122] }:ByteArray)[n]'(by show n < 36; exact h))=dig n h:=rfl
set_option maxRecDepth 100000 in
theorem fb (u:Int)(h0:0≤u)(h1:u < 16)(w:World)(hT:w.cell? ⟨5,15,none⟩=some (.int .u8 4)) :
  Calls Tryd.prog 73 #[.slice none 0 0,.int .u64 u,.int .i64 16,.bool false,.bool false] w λ e w'=>e=.returned (.tuple #[.slice none 0 0,.string ⟨[dig u.toNat (by omega)].toArray⟩])∧Below w.heap.size w w':=by
 have hlt:(5:Nat) < w.heap.size:=by
  rcases Nat.lt_or_ge 5 w.heap.size with h | h
  ·exact h
  ·simp [World.cell?,Array.getElem?_eq_none h] at hT
 have HZ:Hid (∀ o,Calls Tryd.prog 84 #[.int .u64 16] (w.alloc o) λ e w'=>e=.returned (.int .i64 4)∧w'=w.alloc o):=λ o=>tz (w.alloc o) ((World.cell?_alloc_lt w _ _ hlt).trans hT)
 clear hT
 go_enter Tryd.func73,Tryd.ntmps73
 go_wp2_with (first | (go_at_call 83; refine (pow2 _).mono ?_; rintro e w' ⟨rfl,rfl⟩) | (go_at_call 84; refine (HZ.out _).mono ?_; rintro e w' ⟨rfl,rfl⟩))
 go_loopg [1,13] 1 (λ g uv iv wx=>g=1∧uv=.int .u64 u∧iv=.int .i64 65∧wx=w.alloc (.cells Tryd.zeroCells115 115))
 case atStart=>exact ⟨rfl,rfl,rfl,rfl⟩
 case round =>
  obtain ⟨rfl,rfl,rfl,rfl⟩:=hrel
  have hlt16:decide ((16:Int)≤u)=false:=decide_eq_false (by omega)
  go_wp2
  rw [pz u.toNat (by omega)]
  generalize hd:dig u.toNat (by omega)=dg
  have hcv:=run_convert_bytes_back (P:=Tryd.prog) (w.alloc (.cells (Tryd.zeroCells115.setIfInBounds 64 (.int .u8 dg.toNat)) 115)) 63 9 5 ⟨w.heap.size,64,none⟩ 1 [dg] Tryd.underlying63 Tryd.underlying5 Tryd.underlying9 (λ j hj=>by
   have:j=0:=by simpa using hj
   subst this
   rw [add_lit,Nat.add_zero,World.cell?_alloc_new]
   rfl)
  rw [show [dg].length=1 from rfl] at hcv
  rw [hcv]
  simp only [Result.andThen]
  rw [Oper.upon_value]
  go_wp2
  go_ret2
  subst hd
  exact ⟨rfl,(Below.refl _ w).alloc (Nat.le_refl _) _⟩
theorem vI:(List.range 256).all (λ n=>Go.bits BinOp.and IntKind.u64 (n:Int) 15 == ((n % 16:Nat):Int))=true:=by kernel_rfl
set_option maxRecDepth 100000 in
theorem fb2 (u:Nat)(h0:16≤u)(h1:u < 256)(w:World)(hT:w.cell? ⟨5,15,none⟩=some (.int .u8 4)) :
  Calls Tryd.prog 73 #[.slice none 0 0,.int .u64 u,.int .i64 16,.bool false,.bool false] w λ e w'=>e=.returned (.tuple #[.slice none 0 0,.string ⟨[dig (u / 16) (by omega),dig (u % 16) (by omega)].toArray⟩])∧Below w.heap.size w w':=by
 have hlt:(5:Nat) < w.heap.size:=by
  rcases Nat.lt_or_ge 5 w.heap.size with h | h
  ·exact h
  ·simp [World.cell?,Array.getElem?_eq_none h] at hT
 have HZ:Hid (∀ o,Calls Tryd.prog 84 #[.int .u64 16] (w.alloc o) λ e w'=>e=.returned (.int .i64 4)∧w'=w.alloc o):=λ o=>tz (w.alloc o) ((World.cell?_alloc_lt w _ _ hlt).trans hT)
 clear hT
 have hand:Go.bits BinOp.and IntKind.u64 (u:Int) 15=((u % 16:Nat):Int):=eq_of_beq (List.all_eq_true.1 vI u (List.mem_range.2 h1))
 go_enter Tryd.func73,Tryd.ntmps73
 go_wp2_with (first | (go_at_call 83; refine (pow2 _).mono ?_; rintro e w' ⟨rfl,rfl⟩) | (go_at_call 84; refine (HZ.out _).mono ?_; rintro e w' ⟨rfl,rfl⟩))
 go_loopg [1,13] 1 (λ g uv iv wx=>(g=1∧uv=.int .u64 u∧iv=.int .i64 65∧wx=w.alloc (.cells Tryd.zeroCells115 115))∨(g=0∧uv=.int .u64 ((u / 16:Nat):Int)∧iv=.int .i64 64∧wx=w.alloc (.cells (Tryd.zeroCells115.setIfInBounds 64 (.int .u8 (dig (u % 16) (by omega)).toNat)) 115)))
 case atStart=>exact .inl ⟨rfl,rfl,rfl,rfl⟩
 case round =>
  rcases hrel with ⟨rfl,rfl,rfl,rfl⟩ | ⟨rfl,rfl,rfl,rfl⟩
  ·have hlt16:decide ((16:Int)≤(u:Int))=true:=decide_eq_true (by omega)
   go_wp2
   rw [pz (u % 16) (by omega)]
   go_roundg 0
   case measure=>omega
   case rel=>exact .inr ⟨rfl,by rw [Int.natCast_ediv]; rfl,rfl,rfl⟩
  ·have hlt16:decide ((16:Int)≤((u / 16:Nat):Int))=false:=decide_eq_false (by omega)
   go_wp2
   rw [pz (u / 16) (by omega)]
   generalize hd:dig (u / 16) (by omega)=d1
   generalize he:dig (u % 16) (by omega)=d0
   have hcv:=run_convert_bytes_back (P:=Tryd.prog) (w.alloc (.cells ((Tryd.zeroCells115.setIfInBounds 64 (.int .u8 d0.toNat)).setIfInBounds 63 (.int .u8 d1.toNat)) 115)) 63 9 5 ⟨w.heap.size,63,none⟩ 2 [d1,d0] Tryd.underlying63 Tryd.underlying5 Tryd.underlying9 (λ j hj=>by
    have:j=0∨j=1:=by simp at hj; omega
    rcases this with rfl | rfl
    ·rw [add_lit,Nat.add_zero,World.cell?_alloc_new]
     rfl
    ·rw [add_lit,World.cell?_alloc_new]
     rfl)
   rw [show [d1,d0].length=2 from rfl] at hcv
   rw [hcv]
   simp only [Result.andThen]
   rw [Oper.upon_value]
   go_wp2
   go_ret2
   subst hd he
   exact ⟨rfl,(Below.refl _ w).alloc (Nat.le_refl _) _⟩
end Go.Ab
namespace Go.Ab
open Go.Proofs Go.RowKit Go
theorem uF:∀ n:Fin 16,dig n.1 (Nat.lt_of_lt_of_le n.2 (by decide))=hexDigit n.1:=by decide
theorem lF (n:Nat)(h:n < 16)(h':n < 36):dig n h'=hexDigit n:=uF ⟨n,h⟩
theorem vV (u:Nat)(h1:u < 256)(w:World)(hT:w.cell? ⟨5,15,none⟩=some (.int .u8 4)) :
  Calls Tryd.prog 73 #[.slice none 0 0,.int .u64 u,.int .i64 16,.bool false,.bool false] w λ e w'=>e=.returned (.tuple #[.slice none 0 0,.string ⟨(bS u).toArray⟩])∧Below w.heap.size w w':=by
 by_cases h:u < 16
 ·have:=fb u (by omega) (by omega) w hT
  rwa [lF _ (by omega) _,Int.toNat_natCast,show [hexDigit u]=bS u from (if_pos h).symm] at this
 ·have:=fb2 u (by omega) h1 w hT
  rwa [lF (u / 16) (by omega) _,lF (u % 16) (by omega) _,show [hexDigit (u / 16),hexDigit (u % 16)]=bS u from (if_neg h).symm] at this
set_option maxRecDepth 100000 in
theorem fint (u:Nat)(h1:u < 256)(w:World)(hT:w.cell? ⟨5,15,none⟩=some (.int .u8 4)) :
  Calls Tryd.prog 66 #[.int .i64 u,.int .i64 16] w λ e w'=>e=.returned (.string ⟨(bS u).toArray⟩)∧Below w.heap.size w w':=by
 have HC:Hid _:=vV u h1 w hT
 clear hT
 have hneg:decide ((u:Int) < 0)=false:=decide_eq_false (by omega)
 generalize bS u=tx at HC ⊢
 go_enter Tryd.func66,Tryd.ntmps66
 go_wp2_with (go_at_call 73; refine Calls.mono HC.out ?_; rintro e w' ⟨rfl,hB⟩)
 go_ret
 exact ⟨rfl,hB⟩
set_option maxRecDepth 100000 in
theorem vK (u:Nat)(h1:u < 256)(w:World)(hT:w.cell? ⟨5,15,none⟩=some (.int .u8 4)) :
  Calls Tryd.prog 56 #[.int .i64 u,.int .i64 16] w λ e w'=>e=.returned (.string ⟨(bS u).toArray⟩)∧Below w.heap.size w w':=by
 have HC:Hid _:=fint u h1 w hT
 clear hT
 generalize bS u=tx at HC ⊢
 go_enter Tryd.func56,Tryd.ntmps56
 go_wp2_with (go_at_call 66; refine Calls.mono HC.out ?_; rintro e w' ⟨rfl,hB⟩)
 go_ret
 exact ⟨rfl,hB⟩
def dJ (i b:Int):Option Bytes:=ck (b=16∧0≤i∧i < 256) <| some (bS i.toNat)
theorem hH (i_0 base_1:Int)(r:Bytes)(h0:dJ i_0 base_1=some r):aE Tryd.prog 56 [eI i_0,eI base_1] (·=.p (eS r)):=by
 obtain ⟨⟨rfl,h1,h2⟩,h3⟩:=fp h0
 cases h3
 obtain ⟨u,rfl⟩:∃ u:Nat,i_0=u:=⟨i_0.toNat,by omega⟩
 refine aE.of_calls (l:=[.int .i64 u,.int .i64 16]) λ w st hok=>(vK u (by omega) w (nY hok.gl rfl (by kernel_rfl))).mono ?_
 rintro e w' ⟨rfl,hB⟩
 exact ⟨_,rfl,hB,λ _=>.p (.val _)⟩
end Go.Ab
namespace Go.Ab
open Go.Proofs Go.RowKit Go
theorem decN (n b0 b1 b2 b3:Nat)(hn:1≤n)(h0:b0 < 256):1≤(Lib.decodeN n b0 b1 b2 b3).2∧(Lib.decodeN n b0 b1 b2 b3).2≤n∧(Lib.decodeN n b0 b1 b2 b3).2≤4 ∧
  ((Lib.decodeN n b0 b1 b2 b3).1 < 128→(Lib.decodeN n b0 b1 b2 b3).2=1∧(Lib.decodeN n b0 b1 b2 b3).1=b0) ∧
  (128≤(Lib.decodeN n b0 b1 b2 b3).1→128≤b0∧(2≤(Lib.decodeN n b0 b1 b2 b3).2→128≤b1)∧(3≤(Lib.decodeN n b0 b1 b2 b3).2→128≤b2)∧(4≤(Lib.decodeN n b0 b1 b2 b3).2→128≤b3)) ∧
  ((Lib.decodeN n b0 b1 b2 b3).1 < 55296∨(57343 < (Lib.decodeN n b0 b1 b2 b3).1∧(Lib.decodeN n b0 b1 b2 b3).1≤1114111)):=by
 unfold Lib.decodeN
 repeat' split
 all_goals (refine ⟨by dsimp only; omega,by dsimp only; omega,by dsimp only; omega,λ h=>⟨by dsimp only at h ⊢; first | done | omega,by dsimp only at h ⊢; first | done | omega⟩,λ h=>⟨by dsimp only at h; omega,λ k=>by dsimp only at k; omega,λ k=>by dsimp only at k; omega,λ k=>by dsimp only at k; omega⟩,by dsimp only; omega⟩)
theorem aE.of_any {P:Program}{f:FuncId}{args:List PV}{r:AV}
  (h:∀ (w:World) (st:Nat→Nat→Prop) (vs:Array Value),Ok0 w st→vs.size=args.length→(∀ (i:Nat) c v,args[i]? = some c→vs[i]? = some v→PRep w st c v) →
   Calls P f vs w λ e w'=>∃ v,e=.returned v∧Below w.heap.size w w'∧∀ g',ARep w' g' r v):aE P f args (·=r):=by
 intro w st vs hok hsz hargs
 refine (h w st vs hok hsz hargs).mono ?_
 rintro e w' ⟨v,rfl,hB,hr⟩
 refine ⟨v,r,⟨st,λ _=>none⟩,rfl,rfl,hr _,⟨hB.os,hB.output,hB.tape,hB.size,λ b hb=>hB.block b hb,?_,?_,λ b o hb=>Nat.lt_of_lt_of_le (hok.lt b o hb) hB.size,λ b _ o=>Iff.rfl⟩⟩
 ·intro i b hi; cases hi
 ·intro i j b hi; cases hi
theorem arr2 {vs:Array Value}(h:vs.size=2):∃ a b,vs=#[a,b]∧vs[0]? = some a∧vs[1]? = some b:=by
 refine ⟨vs[0],vs[1],?_,Array.getElem?_eq_getElem _,Array.getElem?_eq_getElem _⟩
 apply Array.ext
 ·simpa using h
 ·intro i h1 h2
  have:i=0∨i=1:=by omega
  rcases this with rfl | rfl <;> rfl
def strings_HasSuffix (s p:Bytes):Option Bool:=ck (s.length≤9223372036854775807) <| some (Lib.hasSuffix s p)
theorem iw (s_0 p_1:Bytes)(r:Bool)(h0:strings_HasSuffix s_0 p_1=some r):aE Tryd.prog 39 [eS s_0,eS p_1] (·=.p (eB r)):=by
 obtain ⟨hl,h0⟩:=fp h0
 cases h0
 refine aE.of_calls (l:=[.string (str s_0),.string (str p_1)]) λ w st hok=>(Tryd.strings_HasSuffix _ _ w (by rw [dw]; exact hl)).mono ?_
 rintro e w' ⟨rfl,rfl⟩
 rw [d7,d7]
 exact ⟨_,rfl,kW _,λ _=>.p (.val _)⟩
def strings_ReplaceAll (s o n:Bytes):Option Bytes:=ck (s.length < 4294967281∧1≤o.length∧s.length+Lib.countB (str s) (str o)*n.length≤140737488355328) <| some (Lib.replaceAll s o n)
theorem g9 (s_0 old_1 new_2:Bytes)(r:Bytes)(h0:strings_ReplaceAll s_0 old_1 new_2=some r):aE Tryd.prog 58 [eS s_0,eS old_1,eS new_2] (·=.p (eS r)):=by
 obtain ⟨⟨h1,h2,h3⟩,h0⟩:=fp h0
 cases h0
 refine aE.of_calls (l:=[.string (str s_0),.string (str old_1),.string (str new_2)]) λ w st hok=>?_
 obtain ⟨m,hm⟩:=rz hok.gl (g:=0) (k:=.i64) rfl
 refine (Tryd.strings_ReplaceAll _ _ _ m w (by rw [dw]; exact h1) hm (by rw [dw]; exact h2) (by rw [dw,dw]; exact h3)).mono ?_
 rintro e w' ⟨rfl,hb⟩
 rw [d7,d7,d7]
 exact ⟨_,rfl,hb,λ _=>.p (.val _)⟩
def strings_Join (xs:List Bytes)(sep:Bytes):Option Bytes:=ck (xs.length≤140737488355328∧(Lib.join xs sep).length≤140737488355328) <| some (Lib.join xs sep)
theorem gV (elems_0:List Bytes)(sep_1:Bytes)(r:Bytes)(h0:strings_Join elems_0 sep_1=some r):aE Tryd.prog 40 [eL eS elems_0,eS sep_1] (·=.p (eS r)):=by
 obtain ⟨⟨h1,h2⟩,h0⟩:=fp h0
 cases h0
 refine aE.of_any λ w st vs hok hsz hv=>?_
 obtain ⟨a,b,rfl,ha,hb⟩:=arr2 hsz
 have hb1:=hv 1 (eS sep_1) b rfl hb
 have ha2:PRep w st (.slice (elems_0.map eS)) a:=hv 0 (eL eS elems_0) a rfl ha
 clear ha hb hv hsz
 cases hb1
 have hmap:((elems_0.map str).map (·.data.toList))=elems_0:=by
  rw [List.map_map]
  conv=>rhs; rw [← List.map_id elems_0]
  exact List.map_congr_left λ x _=>d7 x
 have nil:∀ (a:Option Addr) (c:Nat),elems_0=[]→Calls Tryd.prog 40 #[.slice a 0 c,.string (str sep_1)] w λ e w'=>∃ v,e=.returned v∧Below w.heap.size w w'∧∀ g',ARep w' g' (.p (eS (Lib.join elems_0 sep_1))) v:=by
  rintro a c rfl
  refine (Tryd.strings_Join_none a c (str sep_1) w).mono ?_
  rintro e w' ⟨rfl,rfl⟩
  exact ⟨_,rfl,kW _,λ _=>.p (.val _)⟩
 generalize hes:elems_0.map eS=es at ha2
 cases ha2 with
 | nils=>exact nil _ _ (List.map_eq_nil_iff.1 hes)
 | nile q=>exact nil _ _ (List.map_eq_nil_iff.1 hes)
 | slice sz cf hcap hsz' hone hc hr =>
  rename_i bk off cap
  have hlen:es.length=elems_0.length:=by rw [← hes,List.length_map]
  by_cases he:elems_0=[]
  ·have:es.length=0:=by rw [hlen,he]; rfl
   rw [this]; exact nil _ _ he
  obtain ⟨x0,hx0⟩:=List.exists_mem_of_ne_nil _ he
  have hs1:sz=1:=by
   have:=hsz' (eS x0) (by rw [← hes]; exact List.mem_map_of_mem hx0)
   exact this.symm
  subst hs1
  have hcell:∀ (j:Nat) x,(elems_0.map str)[j]? = some x→w.cell? ⟨bk,off+j,none⟩=some (.string x)∧st bk (off+j):=by
   intro j x hx
   rw [List.getElem?_map] at hx
   obtain ⟨y,hy,rfl⟩:=Option.map_eq_some_iff.1 hx
   have hj:es[j]? = some (eS y):=by rw [← hes,List.getElem?_map,hy]; rfl
   have q1:=hc j (eS y) 0 (eS y) hj rfl
   have q2:=hr j (eS y) 0 (eS y) hj rfl
   rw [Nat.mul_one,Nat.add_zero] at q1
   generalize hcv:cf j 0=z at q1 q2
   cases q2
   exact ⟨q1.2,q1.1⟩
  have hbk:bk < w.heap.size:=by
   obtain ⟨i,hi,e⟩:=List.getElem_of_mem hx0
   exact hok.lt _ _ (hcell i (str x0) (by rw [List.getElem?_map,List.getElem?_eq_getElem hi,e]; rfl)).2
  have hJ:=Tryd.strings_Join bk off cap (elems_0.map str) (str sep_1) w (λ j x hx=>(hcell j x hx).1) hbk (by rw [List.length_map]; exact h1) (by rw [List.length_map,← hlen]; exact hcap) (by rw [hmap,d7]; exact h2)
  rw [List.length_map,← hlen] at hJ
  refine hJ.mono ?_
  rintro e w' ⟨rfl,hbl⟩
  rw [hmap,d7]
  exact ⟨_,rfl,hbl,λ _=>.p (.val _)⟩
end Go.Ab
end
section
namespace Go.Ab.R06
open Go.Proofs Go.Ab Go.Ab.RB
attribute [local irreducible] awp eM a8 aE dx AV.sub M cT
def bB (s_0:Bytes):Nat→Int→(List UInt8)→Option (List UInt8)
 | 0,_,_=>none
 | m+1,t37,f38 =>
 if t37 < (s_0.length:Int) then
  ck ((0:Int)≤t37∧t37 < (s_0.length:Int)) <|
  (
    if byt s_0 t37=10 then
     (az (al.mk f38) ([92,110]:Bytes)).bind λ r42 =>
     some r42.2.2.fbuf
    else
     if byt s_0 t37=13 then
      (az (al.mk f38) ([92,114]:Bytes)).bind λ r45 =>
      some r45.2.2.fbuf
     else
      if byt s_0 t37=9 then
       (az (al.mk f38) ([92,116]:Bytes)).bind λ r48 =>
       some r48.2.2.fbuf
      else
       (
         if byt s_0 t37=34 then
          some true
         else
          some (decide (byt s_0 t37=92))
        : Option Bool).bind λ t51 =>
       if t51=true then
        (aK (al.mk f38) 92).bind λ r53 =>
        (aK (al.mk r53.2.fbuf) (byt s_0 t37)).bind λ r55 =>
        some r55.2.fbuf
       else
        (
          if byt s_0 t37 < 32 then
           some true
          else
           some (decide (byt s_0 t37=127))
         : Option Bool).bind λ t58 =>
        if t58=true then
         ck (inR (byt s_0 t37)) <|
         (dJ (byt s_0 t37) 16).bind λ r61 =>
         ck (([92,117,123]:Bytes).length+r61.length≤9223372036854775807) <|
         ck ((([92,117,123]:Bytes)++r61).length+([125]:Bytes).length≤9223372036854775807) <|
         (az (al.mk f38) ((([92,117,123]:Bytes)++r61)++([125]:Bytes))).bind λ r65 =>
         some r65.2.2.fbuf
        else
         (aK (al.mk f38) (byt s_0 t37)).bind λ r67 =>
         some r67.2.fbuf
   : Option (List UInt8)).bind λ f69 =>
  ck (inR (t37+1)) <|
  bB s_0 m (t37+1) f69
 else
  some f38
def cX (n:Nat)(s_0:Bytes):Option Bytes :=
 (aK (al.mk []) 34).bind λ r1 =>
 (bB s_0 n 0 r1.2.fbuf).bind λ f73 =>
 (aK (al.mk f73) 34).bind λ r74 =>
 (bK (al.mk r74.2.fbuf)).bind λ r76 =>
 some r76.1
theorem gY (n:Nat)(s_0:Bytes)(r:Bytes)(h0:cX n s_0=some r):aE Tryd.prog 43 [eS s_0] (·=.p (eS r)):=by
 unfold cX at h0
 refine aY good Tryd.func43 rfl rfl rfl λ w0=>mP (λ v:Bytes=>.p (eS v)) ?_
 refine nx 6 rfl (mO rfl (jE rfl rfl rfl rfl rfl rfl rfl ?_))
 refine nx 3 rfl (bd h0 λ r1 e2 h0=>?_)
 refine mO rfl (bz [3] [890000] 101000 101001 (aZ (al.mk []) 34 _ e2) rfl rfl rfl rfl rfl ⟨sr,sr,trivial⟩ rfl rfl ⟨⟨_,rfl,⟨sr,AV.sub_nilvec _ _ _,trivial⟩⟩,trivial⟩ rfl rfl rfl rfl rfl rfl rfl rfl Tryd.call36 rfl rfl ?_)
 refine nx 5 rfl (oLs rfl ?_)
 refine nx 3 rfl (bd h0 λ o82 h1 h0=>?_)
 refine kE 0 o82 (λ v83=>⟨[(3,.ptr 3 0)],[(3,[.bptr 65 2 3,.vec 108000 1 (5+1) (v83.map eU)])]⟩) ?_ ?_
 ·refine nx 3 rfl (bd h0 λ r74 e75 h0=>?_)
  refine mO rfl (bz [3] [108000] 116000 116001 (aZ (al.mk o82) 34 _ e75) rfl rfl rfl rfl rfl ⟨sr,sr,trivial⟩ rfl rfl ⟨⟨_,rfl,⟨sr,sr,trivial⟩⟩,trivial⟩ rfl rfl rfl rfl rfl rfl rfl rfl Tryd.call36 rfl rfl ?_)
  refine nx 3 rfl (bd h0 λ r76 e77 h0=>?_)
  refine mO rfl (bz [3] [116000] 117000 117000 (dh (al.mk r74.2.fbuf) _ e77) rfl rfl rfl rfl rfl ⟨sr,trivial⟩ rfl rfl ⟨⟨_,rfl,⟨sr,sr,trivial⟩⟩,trivial⟩ rfl rfl rfl rfl rfl rfl rfl rfl Tryd.call27 rfl rfl ?_)
  exact nx 3 rfl (mQ (oi h0) rfl (sr))
 refine lG (λ (q84:Int×(List UInt8))=>⟨[(0,.p (eS s_0)),(3,.ptr 3 0),(8,.p (eI (s_0.length:Int))),(9,.p (eI q84.1))],[(3,[.bptr 65 2 3,.vec 108000 1 (5+1) (q84.2.map eU)])]⟩) (λ m (q84:Int×(List UInt8))=>bB s_0 m q84.1 q84.2) (λ _=>rfl) (0,r1.2.fbuf) h1 (bh (b9 101000 108000 rfl rfl rfl rfl rfl) (gE rfl rfl)) ?_
 rintro m ⟨t37,f38⟩ h1
 replace h1:bB s_0 (m+1) t37 f38=some o82:=h1
 rw [bB] at h1
 refine nx 5 rfl (fD [10] h1 rfl (λ c39 h1=>?_) λ c39 h1=>?_)
 ·refine nx 13 rfl (oI h1 rfl λ hk40 h1=>?_)
  refine nx 2 rfl (bd h1 λ o85 h2 h1=>?_)
  refine kN o85 (λ v86=>⟨[(0,.p (eS s_0)),(3,.ptr 3 0),(8,.p (eI (s_0.length:Int))),(9,.p (eI t37))],[(3,[.bptr 65 2 3,.vec 115000 1 (5+1) (v86.map eU)])]⟩) ?_ ?_
  ·refine nx 2 rfl (oA h1 rfl rfl λ hk70 h1=>?_)
   exact nx 2 rfl (eX (t37+1,o85) h1 (bh (b9 115000 108000 rfl rfl rfl rfl rfl) (gE rfl rfl)))
  refine nx 7 rfl (fD [17,19] h2 rfl (λ c41 h2=>?_) λ c41 h2=>?_)
  ·refine nx 2 rfl (bd h2 λ r42 e43 h2=>?_)
   refine mO rfl (bz [3] [108000] 109000 109001 (aH (al.mk f38) ([92,110]:Bytes) _ e43) rfl rfl rfl rfl rfl ⟨sr,sr,trivial⟩ rfl rfl ⟨⟨_,rfl,⟨sr,sr,trivial⟩⟩,trivial⟩ rfl rfl rfl rfl rfl rfl rfl rfl Tryd.call38 rfl rfl ?_)
   exact nx 1 rfl (eX _ (oi h2).symm (bh (b9 109000 115000 rfl rfl rfl rfl rfl) (gE rfl rfl)))
  refine nx 7 rfl (fD [21,23] h2 rfl (λ c44 h2=>?_) λ c44 h2=>?_)
  ·refine nx 2 rfl (bd h2 λ r45 e46 h2=>?_)
   refine mO rfl (bz [3] [108000] 110000 110001 (aH (al.mk f38) ([92,114]:Bytes) _ e46) rfl rfl rfl rfl rfl ⟨sr,sr,trivial⟩ rfl rfl ⟨⟨_,rfl,⟨sr,sr,trivial⟩⟩,trivial⟩ rfl rfl rfl rfl rfl rfl rfl rfl Tryd.call38 rfl rfl ?_)
   exact nx 1 rfl (eX _ (oi h2).symm (bh (b9 110000 115000 rfl rfl rfl rfl rfl) (gE rfl rfl)))
  refine nx 7 rfl (fD [25,27] h2 rfl (λ c47 h2=>?_) λ c47 h2=>?_)
  ·refine nx 2 rfl (bd h2 λ r48 e49 h2=>?_)
   refine mO rfl (bz [3] [108000] 111000 111001 (aH (al.mk f38) ([92,116]:Bytes) _ e49) rfl rfl rfl rfl rfl ⟨sr,sr,trivial⟩ rfl rfl ⟨⟨_,rfl,⟨sr,sr,trivial⟩⟩,trivial⟩ rfl rfl rfl rfl rfl rfl rfl rfl Tryd.call38 rfl rfl ?_)
   exact nx 1 rfl (eX _ (oi h2).symm (bh (b9 111000 115000 rfl rfl rfl rfl rfl) (gE rfl rfl)))
  refine nx 2 rfl (bd h2 λ o87 h3 h2=>?_)
  refine kN o87 (λ v88=>⟨[(0,.p (eS s_0)),(3,.ptr 3 0),(5,.p (eK .u8 (byt s_0 t37))),(8,.p (eI (s_0.length:Int))),(9,.p (eI t37)),(29,.p (eB v88))],[(3,[.bptr 65 2 3,.vec 108000 1 (5+1) (f38.map eU)])]⟩) ?_ ?_
  ·refine nx 1 rfl (fB [29] h2 rfl (λ c52 h2=>?_) λ c52 h2=>?_)
   ·refine nx 3 rfl (bd h2 λ r53 e54 h2=>?_)
    refine mO rfl (bz [3] [108000] 112000 112001 (aZ (al.mk f38) 92 _ e54) rfl rfl rfl rfl rfl ⟨sr,sr,trivial⟩ rfl rfl ⟨⟨_,rfl,⟨sr,sr,trivial⟩⟩,trivial⟩ rfl rfl rfl rfl rfl rfl rfl rfl Tryd.call36 rfl rfl ?_)
    refine nx 3 rfl (bd h2 λ r55 e56 h2=>?_)
    refine mO rfl (bz [3] [112000] 113000 113001 (aZ (al.mk r53.2.fbuf) (byt s_0 t37) _ e56) rfl rfl rfl rfl rfl ⟨sr,sr,trivial⟩ rfl rfl ⟨⟨_,rfl,⟨sr,sr,trivial⟩⟩,trivial⟩ rfl rfl rfl rfl rfl rfl rfl rfl Tryd.call36 rfl rfl ?_)
    exact nx 1 rfl (eX _ (oi h2).symm (bh (b9 113000 115000 rfl rfl rfl rfl rfl) (gE rfl rfl)))
   refine nx 2 rfl (bd h2 λ o89 h3 h2=>?_)
   refine kN o89 (λ v90=>⟨[(0,.p (eS s_0)),(3,.ptr 3 0),(5,.p (eK .u8 (byt s_0 t37))),(8,.p (eI (s_0.length:Int))),(9,.p (eI t37)),(39,.p (eB v90))],[(3,[.bptr 65 2 3,.vec 108000 1 (5+1) (f38.map eU)])]⟩) ?_ ?_
   ·refine nx 1 rfl (fB [39] h2 rfl (λ c59 h2=>?_) λ c59 h2=>?_)
    ·refine nx 3 rfl (cc' h2 λ hk60 h2=>?_)
     refine mO rfl (dc rfl rfl rfl rfl rfl rfl rfl rfl (eF hk60) ?_)
     refine bd h2 λ r61 e62 h2=>oK (hH (byt s_0 t37) 16 _ e62) rfl ⟨sr,sr,trivial⟩ Tryd.call56 rfl (oC h2 rfl λ hk63 h2=>?_)
     refine oC h2 rfl λ hk64 h2=>bd h2 λ r65 e66 h2=>mO rfl (bz [3] [108000] 114000 114001 (aH (al.mk f38) ((([92,117,123]:Bytes)++r61)++([125]:Bytes)) _ e66) rfl rfl rfl rfl rfl ⟨sr,sr,trivial⟩ rfl rfl ⟨⟨_,rfl,⟨sr,sr,trivial⟩⟩,trivial⟩ rfl rfl rfl rfl rfl rfl rfl rfl Tryd.call38 rfl rfl ?_)
     exact nx 1 rfl (eX _ (oi h2).symm (bh (b9 114000 115000 rfl rfl rfl rfl rfl) (gE rfl rfl)))
    refine nx 3 rfl (bd h2 λ r67 e68 h2=>?_)
    refine mO rfl (bz [3] [108000] 115000 115001 (aZ (al.mk f38) (byt s_0 t37) _ e68) rfl rfl rfl rfl rfl ⟨sr,sr,trivial⟩ rfl rfl ⟨⟨_,rfl,⟨sr,sr,trivial⟩⟩,trivial⟩ rfl rfl rfl rfl rfl rfl rfl rfl Tryd.call36 rfl rfl ?_)
    exact nx 1 rfl (eX _ (oi h2).symm (gE rfl rfl))
   refine nx 4 rfl (fD [41,42] h3 rfl (λ c57 h3=>?_) λ c57 h3=>?_)
   ·exact nx 5 rfl (eX _ (oi h3).symm (gE rfl rfl))
   exact nx 5 rfl (eX _ (oi h3).symm (gE rfl rfl))
  refine nx 4 rfl (fD [31,32] h3 rfl (λ c50 h3=>?_) λ c50 h3=>?_)
  ·exact nx 5 rfl (eX _ (oi h3).symm (gE rfl rfl))
  exact nx 5 rfl (eX _ (oi h3).symm (gE rfl rfl))
 exact nx 2 rfl (eXi _ (oi h1).symm (gE rfl rfl))
def d5 (s_0:Bytes):Option Bytes :=
 (strings_ReplaceAll s_0 ([36,123]:Bytes) ([36,36,123]:Bytes)).bind λ r1 =>
 some r1
theorem jM (s_0:Bytes)(r:Bytes)(h0:d5 s_0=some r):aE Tryd.prog 45 [eS s_0] (·=.p (eS r)):=by
 unfold d5 at h0
 refine aY good Tryd.func45 rfl rfl rfl λ w0=>mP (λ v:Bytes=>.p (eS v)) ?_
 refine nx 7 rfl (bd h0 λ r1 e2 h0=>?_)
 refine oK (g9 s_0 ([36,123]:Bytes) ([36,36,123]:Bytes) _ e2) rfl ⟨sr,sr,sr,trivial⟩ Tryd.call58 rfl (nx 3 rfl ?_)
 exact mQ (oi h0) rfl (sr)
def d6 (n_0:Int):Option Bytes :=
 (strconv_Itoa n_0).bind λ r1 =>
 some r1
theorem jI (n_0:Int)(r:Bytes)(h0:d6 n_0=some r):aE Tryd.prog 34 [eI n_0] (·=.p (eS r)):=by
 unfold d6 at h0
 refine aY good Tryd.func34 rfl rfl rfl λ w0=>mP (λ v:Bytes=>.p (eS v)) ?_
 refine nx 7 rfl (bd h0 λ r1 e2 h0=>?_)
 refine oK (kw n_0 _ e2) rfl ⟨sr,trivial⟩ Tryd.call44 rfl (nx 3 rfl ?_)
 exact mQ (oi h0) rfl (sr)
end Go.Ab.R06
end
