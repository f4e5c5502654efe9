/- Texts of the proof, one behind the other. No statement is proved here. -/
import Derived.Test.YtjaadgogdbkdfaaGreatDoorZ16Ba
import Derived.Test.YtjaadgogdbkdfaaGreatDoorZ16Bb
import Derived.Test.YtjaadgogdbkdfaaGreatDoorZ16Bc
import Derived.Test.YtjaadgogdbkdfaaGreatDoorZ16Bd
set_option maxHeartbeats 4000000
section
namespace Go.Ab.R06
open Go.Ab Go.Ab.RB Go.Lib
variable {p:Prop}
theorem yu (h:p:=by exact aA (Sj _) Z):p:=h
def v0:ag:=ag.mk 0 0 [] [] []
def e0:ab:=ab.mk 0 0 [] [] v0 [] 0
def sR (v:ag)(at':Int):ab:=ab.mk 1 0 [] [] v [] at'
def p9 (s:Bk)(at':Int):ab:=sR (ag.mk 3 0 s [] []) at'
def RL:List Bk:=[[110,117,108,108],[116,114,117,101],[102,97,108,115,101],[102,111,114],[105,110],[105,102]]
def iO (s:Bk):Bool:=RL.any (λ t=>decide (s=t))
theorem Sj (s:Bk):gB s=some (iO s):=by
 grind [gB,iO,RL]
def uz (v:ag):Int:=if v.Ar=1/\v.G'≠0/\v.G'≠1\/v.Ar≠1/\v.Ar≠2/\v.G'≠0\/v.Ar≠3/\v.D'≠[]\/v.Gw≠[]\/v.F'≠[] then 1 else if v.Ar=2/\¬ (-kO<=v.G'/\v.G'<=kO) then 5 else if v.Ar=3/\4096<v.D'.length then 3 else if v.Ar=3/\validD v.D'=false then 1 else 0
def ui (e:ab):Bool:=(jh e).getD false
def lB (e:ab):Int:=if ui e=false then 1 else if e.Ar=1 then uz e.BY else if (e.Ar=3\/e.Ar=4\/e.Ar=9\/e.Ar=12\/e.Ar=13)/\(bW e.AT=false\/e.Ar≠4/\iO e.AT=true) then 7 else if e.It≠[]/\(bW e.It=false\/iO e.It=true) then 7 else 0
mutual
def nr:Nat->Nat->ab->Int×Nat|c,lv,.mk k op nm key v kids at'=>if 32<lv then (4,c) else if 4096<=c then (14,c)else if lB (.mk k op nm key v kids at')=0 then nN (c+1) (lv+1) kids else (lB (.mk k op nm key v kids at'),c+1)
def nN:Nat->Nat->List ab->Int×Nat|c,_,[]=>(0,c)|c,lv,x::r=>if (nr c lv x).1=0 then nN (nr c lv x).2 lv r else nr c lv x
end
theorem pP (c lv:Nat)(e:ab):nr c lv e=if 32<lv then (4,c) else if 4096<=c then (14,c) else if lB e=0 then nN (c+1) (lv+1) e.A' else (lB e,c+1):=by
 cases e; rw [nr]; rfl
theorem oB (c lv:Nat)(x:ab)(r:List ab):nN c lv (x::r)=if (nr c lv x).1=0 then nN (nr c lv x).2 lv r else nr c lv x:=by rw [nN]
def chk (e:ab):Int:=(nr 0 1 e).1
def nlT (t:af):Bool:=decide (t.Ar=5)
def nf (b:Bool)(l:List af):List af:=if b then l.dropWhile nlT else l
def hd (b:Bool)(l:List af):af:=(nf b l).headD (af.mk 6 [] 0)
def tl (b:Bool)(l:List af):List af:=(nf b l).tail
def sgB (b:Bool)(l:List af)(s:Bk):Bool:=decide ((hd b l).Ar=4)&&decide ((hd b l).C'=s)
def wdB (b:Bool)(l:List af)(s:Bk):Bool:=decide ((hd b l).Ar=1)&&decide ((hd b l).C'=s)
abbrev PE:=Int×Int
abbrev PR (α:Type):=Option (PE⊕(α×List af))
def pb {α β:Type}(x:PR α)(k:α->List af->PR β):PR β:=match x with
 | none=>none
 | some (.inl e)=>some (.inl e)
 | some (.inr (a,l))=>k a l
def pok {α:Type}(a:α)(l:List af):PR α:=some (.inr (a,l))
def per {α:Type}(k a:Int):PR α:=some (.inl (k,a))
def fW (b:Bool)(s:Bk)(l:List af):PR Unit:=if sgB b l s then pok () (tl b l) else per 2 (hd b l).fAt
def ID (b:Bool)(s:Bk)(l:List af):PR Unit:=if wdB b l s then pok () (tl b l) else per 2 (hd b l).fAt
def DO (b:Bool)(l:List af):PR Bk:=if (hd b l).Ar=1/\iO (hd b l).C'=false then pok (hd b l).C' (tl b l) else per 2 (hd b l).fAt
def sN:Nat->List (Bk×Int)|0=>[([124,124],3)]|1=>[([38,38],4)]|2=>[([61,61],5),([33,61],6)]|3=>[([60],7),([60,61],8),([62],9),([62,61],10)]|4=>[([43],11),([45],12)]|_=>[([42],13),([47],14),([37],15)]
def wY (b:Bool)(l:List af)(Vt:Nat):Option (Bk×Int):=(sN Vt).find? (λ p=>sgB b l p.1)
def mvT (base:Int)(t:af):af:=af.mk t.Ar t.C' (t.fAt+base)
mutual
def fU:Nat->Nat->Bk->Option (Option Bk)
 | 0,_,_=>none
 | _+1,_,[]=>some none
 | f+1,d,b::r=>if b.toNat=123 then fU f (d+1) r
  else if b.toNat=125 then (if d=1 then some (some r) else fU f (d-1) r)
  else if b.toNat=34 then (match iC f r with|none=>none|some none=>some none|some (some r')=>fU f d r')
  else fU f d r
def iC:Nat->Bk->Option (Option Bk)
 | 0,_=>none
 | _+1,[]=>some none
 | f+1,b::r=>if b.toNat=34 then some (some r)
  else if b.toNat=92 then iC f (r.drop 1)
  else if hasPrefix (b::r) [36,36,123]=true then iC f ((b::r).drop 3)
  else if hasPrefix (b::r) [36,123]=true then (match fU f 1 ((b::r).drop 2) with|none=>none|some none=>some none|some (some r')=>iC f r')
  else iC f r
end
def lQ:Bk->Int⊕(Bk×Nat)|[]=>.inl 40|b::r=>if b.toNat=92 then (if (em r).2.2=0 then .inr (encodeRune (em r).1,(em r).2.1.toNat+1) else .inl (em r).2.2)else if mC (decodeL (b::r))\/b.toNat=34 then .inl 2 else .inr ((b::r).take (decodeL (b::r)).2,(decodeL (b::r)).2)
def flS (frm pos:Int)(text:Bk)(parts:List ab):List ab:=if frm<pos then parts++[p9 text frm] else parts
def uy:PE⊕ab->PE⊕ab|.inl e=>.inl e|.inr e=>if chk e=0 then .inr e else .inl (chk e,e.fAt)
def outE:PE⊕ab->ab×az|.inl e=>(e0,az.mk e.1 e.2 [])|.inr e=>(e,az.mk 0 0 [])
def xR (at':Int):Int×Int×Bk×List ab×Bool->ab|(frm,pos,text,parts,Vo)=>if Vo then ab.mk 2 0 [] [] v0 (flS frm pos text parts) at' else p9 text at'
mutual
def hZ:Nat->Bool->List af->PR ab|0,_,_=>none|f+1,b,l=>pb (tv f 0 b l) λ c l=>if sgB b l [63] then pb (hZ f b (tl b l)) λ a l=>pb (fW b [58] l) λ _ l=>pb (hZ f b l) λ d l=>pok (ab.mk 8 0 [] [] v0 [c,a,d] c.fAt) l else pok c l
def tv:Nat->Nat->Bool->List af->PR ab|0,_,_,_=>none|f+1,Vt,b,l=>if 5<Vt then unS f b l else pb (tv f (Vt+1) b l) λ e l=>uU f Vt b e l
def uU:Nat->Nat->Bool->ab->List af->PR ab
 | 0,_,_,_,_=>none
 | f+1,Vt,b,e,l=>match wY b l Vt with
  | none=>pok e l
  | some p=>pb (tv f (Vt+1) b (tl b l)) λ x l=>uU f Vt b (ab.mk 7 p.2 [] [] v0 [e,x] e.fAt) l
def unS:Nat->Bool->List af->PR ab|0,_,_=>none|f+1,b,l=>if sgB b l [33] then pb (unS f b (tl b l)) λ e l'=>pok (ab.mk 6 1 [] [] v0 [e] (hd b l).fAt) l' else if sgB b l [45] then pb (unS f b (tl b l)) λ e l'=>pok (ab.mk 6 2 [] [] v0 [e] (hd b l).fAt) l' else pb (lR f b l) λ e l=>pp f b e l
def pp:Nat->Bool->ab->List af->PR ab|0,_,_,_=>none|f+1,b,e,l=>if sgB b l [46] then (if (hd b (tl b l)).Ar=1 then pp f b (ab.mk 4 0 (hd b (tl b l)).C' [] v0 [e] e.fAt) (tl b (tl b l)) else per 2 (hd b (tl b l)).fAt)else if sgB b l [91] then pb (hZ f true (tl b l)) λ x l=>pb (fW true [93] l) λ _ l=>pp f b (ab.mk 5 0 [] [] v0 [e,x] e.fAt) l else pok e l
def lR:Nat->Bool->List af->PR ab|0,_,_=>none|f+1,b,l=>if (hd b l).Ar=2 then (if (wn (hd b l).C').2=0 then pok (sR (ag.mk 2 (wn (hd b l).C').1 [] [] []) (hd b l).fAt) (tl b l) else per (wn (hd b l).C').2 (hd b l).fAt)else if (hd b l).Ar=3 then yr f b l else if (hd b l).Ar=1 then rH f b l else if sgB b l [40] then pb (hZ f true (tl b l)) λ e l=>pb (fW true [41] l) λ _ l=>pok e l else if sgB b l [91] then (if wdB true (tl b l) [102,111,114] then q9 f (hd b l).fAt 12 (tl true (tl b l)) else pb (lk f [93] (tl b l)) λ ks l'=>pok (ab.mk 10 0 [] [] v0 ks (hd b l).fAt) l')else if sgB b l [123] then (if wdB true (tl b l) [102,111,114] then q9 f (hd b l).fAt 13 (tl true (tl b l)) else pb (uM f (tl b l)) λ ks l'=>pok (ab.mk 11 0 [] [] v0 ks (hd b l).fAt) l')else per 2 (hd b l).fAt
def yr:Nat->Bool->List af->PR ab
 | 0,_,_=>none
 | f+1,b,l=>match qt f (hd b l).C' ((hd b l).fAt+1) with
  | none=>none
  | some (.inl e)=>some (.inl e)
  | some (.inr e)=>pok (ab.mk e.Ar e.fOp e.AT e.It e.BY e.A' (hd b l).fAt) (tl b l)
def rH:Nat->Bool->List af->PR ab|0,_,_=>none|f+1,b,l=>if (hd b l).C'=[110,117,108,108] then pok (sR v0 (hd b l).fAt) (tl b l)else if (hd b l).C'=[116,114,117,101] then pok (sR (ag.mk 1 1 [] [] []) (hd b l).fAt) (tl b l)else if (hd b l).C'=[102,97,108,115,101] then pok (sR (ag.mk 1 0 [] [] []) (hd b l).fAt) (tl b l)else if iO (hd b l).C'=true then per 2 (hd b l).fAt else if sgB b (tl b l) [40] then pb (lk f [41] (tl b (tl b l))) λ ks l'=>pok (ab.mk 9 0 (hd b l).C' [] v0 ks (hd b l).fAt) l' else pok (ab.mk 3 0 (hd b l).C' [] v0 [] (hd b l).fAt) (tl b l)
def lk:Nat->Bk->List af->PR (List ab)|0,_,_=>none|f+1,e,l=>if sgB true l e then pok [] (tl true l)else pb (hZ f true l) λ x l=>if sgB true l [44] then pb (lk f e (tl true l)) λ r l=>pok (x::r) l else pb (fW true e l) λ _ l=>pok [x] l
def uM:Nat->List af->PR (List ab)|0,_=>none|f+1,l=>if sgB true l [125] then pok [] (tl true l)else pb (rb f l) λ k l=>pb (fW true [61] l) λ _ l=>pb (hZ f true l) λ x l=>if sgB true l [44] then pb (uM f (tl true l)) λ r l=>pok (k::x::r) l else pb (fW true [125] l) λ _ l=>pok [k,x] l
def rb:Nat->List af->PR ab|0,_=>none|f+1,l=>if (hd true l).Ar=1 then pok (p9 (hd true l).C' (hd true l).fAt) (tl true l)else if (hd true l).Ar=3 then yr f true l else if sgB true l [40] then pb (hZ f true (tl true l)) λ e l=>pb (fW true [41] l) λ _ l=>pok e l else per 2 (hd true l).fAt
def q9:Nat->Int->Int->List af->PR ab|0,_,_,_=>none|f+1,at',k,l=>pb (DO true l) λ v l=>pb (if sgB true l [44] then pb (DO true (tl true l)) λ w l=>pok (w,v) l else pok (v,[]) l) λ nk l=>pb (ID true [105,110] l) λ _ l=>pb (hZ f true l) λ a l=>pb (fW true [58] l) λ _ l=>pb (hZ f true l) λ c l=>pb (if k=13 then pb (fW true [61,62] l) λ _ l=>pb (hZ f true l) λ d l=>pok [a,c,d] l else pok [a,c] l) λ ks l=>pb (if wdB true l [105,102] then pb (hZ f true (tl true l)) λ e l=>pok (ks++[e]) l else pok ks l) λ ks l=>pb (fW true (if k=13 then [125] else [93]) l) λ _ l=>pok (ab.mk k 0 nk.1 nk.2 v0 ks at') l
def qt:Nat->Bk->Int->Option (PE⊕ab)
 | 0,_,_=>none
 | f+1,s,at'=>match ii f at' at' [] [] false s with
  | none=>none
  | some (.inl e)=>some (.inl e)
  | some (.inr z)=>some (uy (.inr (xR at' z)))
def ii:Nat->Int->Int->Bk->List ab->Bool->Bk->Option (PE⊕(Int×Int×Bk×List ab×Bool))
 | 0,_,_,_,_,_,_=>none
 | f+1,frm,pos,text,parts,Vo,l=>match l with
  | []=>some (.inr (frm,pos,text,parts,Vo))
  | c::r=>if hasPrefix (c::r) [36,36,123]=true then (if 4096<text.length+2 then some (.inl (3,frm)) else ii f frm (pos+3) (text++[36,123]) parts Vo ((c::r).drop 3))
   else if hasPrefix (c::r) [36,123]=true then (match fU f 1 ((c::r).drop 2) with
    | none=>none
    | some none=>some (.inl (40,pos))
    | some (some r')=>match ll f (((c::r).drop 2).take (((c::r).drop 2).length-r'.length-1)) (pos+2) with
     | none=>none
     | some (.inl e)=>some (.inl e)
     | some (.inr e)=>ii f (pos+((c::r).length-r'.length:Nat)) (pos+((c::r).length-r'.length:Nat)) [] (flS frm pos text parts++[e]) true r')
   else match lQ (c::r) with
    | .inl k=>some (.inl (k,pos))
    | .inr (t,n)=>if 4096<text.length+t.length then some (.inl (3,frm)) else ii f frm (pos+(n:Int)) (text++t) parts Vo ((c::r).drop n)
def ll:Nat->Bk->Int->Option (PE⊕ab)
 | 0,_,_=>none
 | f+1,s,base=>if (jU s).2.Ar≠0 then some (.inl ((jU s).2.Ar,base+(jU s).2.fAt))
  else match hZ f true ((jU s).1.map (mvT base)) with
   | none=>none
   | some (.inl e)=>some (.inl e)
   | some (.inr (e,l))=>if (hd true l).Ar=6 then some (.inr e) else some (.inl (2,(hd true l).fAt))
end
theorem gm {α σ β:Type}{f:Nat->Nat->Option (α×σ)}{g:Nat->Nat->α×σ->Option β}{a:α}{mk:Nat->σ}{P:Nat->Prop}{Q:β->Prop}(h:Ev2 f (λ z=>z.1=a/\∃ j,z.2=mk j/\P j))(k:∀ j,P j->Ev2 (λ n m=>g n m (a,mk j)) Q) :
  Ev2 (λ n m=>(f n m).bind (g n m)) Q:=by
 refine aW _ h ?_
 grind
theorem Nv (h:p:=by
 rintro ⟨y1,y2⟩ ⟨g1,k,g2,g3,g4,g5⟩
 cases g2
 exact ac ⟨k,Z,g3,g4⟩):p:=h
theorem N5 (h:p:=by
 rw [if_neg hs] at hq; cases hq;refine ap (by grind) (aW _ (kT hL Pn h3) ?_);rintro ⟨y1,y2⟩ ⟨g1,k,g2,g3,g4,g5⟩;replace g1:y1=_:=g1; subst g1; cases g2
 refine ak _ (aA (BH _ _ _ _) Z) (ac ⟨(by decide:(2:Int)≠0),k,l,Z,g3⟩)):p:=h
theorem Et (h:p:=by exact am (fL (by grind) (by grind)) (ac Z)):p:=h
theorem vd (h:p:=by exact ac ⟨Z,j,Z,h3⟩):p:=h
theorem Fy {P:Int->Prop}{i:Nat}(h:P ((i+1:Nat):Int)):P ((i:Int)+1):=by grind
def TkB (t:af):Prop:=0<=t.fAt/\t.fAt+(t.C'.length:Int)<=1000000000/\(t.Ar=3->t.fAt+1+(t.C'.length:Int)<=1000000000)/\(t.Ar=2->t.C'.all hQ=true)
def Gd:List af->Prop|[]=>False|t::r=>TkB t/\((t.Ar=6/\r=[])\/(t.Ar≠6/\Gd r))
theorem PZ {t:af}:nlT t=true↔t.Ar=5:=by simp [nlT]
theorem DZ (b:Bool):nf b []=[]:=by cases b <;> rfl
theorem pQ (b:Bool)(t:af)(r:List af):nf b (t::r)=if b=true/\t.Ar=5 then nf b r else t::r:=by
 grind [nf,List.dropWhile_cons,PZ]
theorem RH (b:Bool):∀ (l:List af),nf b (nf b l)=nf b l
 | []=>by simp [DZ]
 | t::r=>by
  rw [pQ];split
  ·exact RH b r
  grind [pQ]
theorem x8 {b:Bool}:∀ {l:List af},Gd l->Gd (nf b l)
 | [],h=>h.elim
 | t::r,h=>by
  rw [pQ];split
  ·rename_i h1;rcases h.2 with h2|h2
   ·omega
   ·exact x8 h2.2
  ·exact h
theorem Ee (b:Bool):∀ (l:List af),(nf b l).length<=l.length
 | []=>by grind [DZ]
 | t::r=>by
  rw [pQ];split
  ·exact Nat.le_succ_of_le (Ee b r)
  grind
theorem Eh (b:Bool)(base:Int):∀ (l:List af),nf b (l.map (mvT base))=(nf b l).map (mvT base)
 | []=>by grind [DZ]
 | t::r=>by
  rw [n7,pQ,pQ,Eh b base r];show (if b=true/\t.Ar=5 then _ else _)=_
  grind
theorem Hj {l:List af}(h:Gd l):l≠[]:=by intro e; subst e; exact h
theorem yy {b:Bool}{l:List af}(h:Gd (nf b l)):nf b l=hd b l::tl b l:=by
 unfold hd tl
 cases hn:nf b l with
 | nil=>rw [hn] at h; exact h.elim
 | cons t r=>rfl
theorem Dj {b:Bool}{l:List af}(h:Gd (nf b l)):TkB (hd b l):=by
 have:=h; rw [yy h] at this; exact this.1
theorem Mm {b:Bool}{l:List af}(h:Gd (nf b l))(h6:(hd b l).Ar≠6):Gd (tl b l):=by
 have:=h; rw [yy h] at this;rcases this.2 with h2|h2
 ·grind
 grind
theorem SY {b:Bool}{l:List af}(h:Gd (nf b l)):(tl b l).length<l.length:=by
 grind [yy,Ee]
theorem tU {b:Bool}{l:List af}{s:Bk}:sgB b l s=true↔(hd b l).Ar=4/\(hd b l).C'=s:=by simp [sgB]
theorem AM {b:Bool}{l:List af}{s:Bk}:wdB b l s=true↔(hd b l).Ar=1/\(hd b l).C'=s:=by simp [wdB]
theorem wG {base:Int}:∀ {L:List af} {i:Nat},Gd (L.map (mvT base))->i<L.length->Gd ((L.drop i).map (mvT base))
 | [],_,h,_=>h.elim
 | t::r,0,h,_=>h
 | t::r,i+1,h,hi=>by
  rcases h.2 with h2|h2
  ·simp_all
  ·exact wG (L:=r) (i:=i) h2.2 (by grind)
theorem xe {L:List af}{i:Nat}(h:i<L.length):L.drop i=lat L (i:Int)::L.drop (i+1):=by
 grind [me,List.drop_eq_getElem_cons]
section
variable {L:List af} {base:Int}
def Pos (L:List af)(base:Int)(i:Nat)(Sk:Int)(b:Bool)(l:List af):Prop :=i<L.length/\0<=Sk/\Sk+((L.length-i:Nat):Int)<=1000000000/\b=decide (0<Sk)/\nf b ((L.drop i).map (mvT base))=nf b l
theorem Pos.gd {i:Nat}{Sk:Int}{b:Bool}{l:List af}(hL:Gd (L.map (mvT base)))(h:Pos L base i Sk b l):Gd (nf b l):=by
 rw [<- h.2.2.2.2]; exact x8 (wG hL h.1)
theorem OM (hL:Gd (L.map (mvT base)))(Pn:L.length<=1000000000){Sk:Int}{d:az}{a:Int}:∀ (k i:Nat),i+k=L.length->0<k ->
  Ev2 (λ _ m=>dy (.mk L a Sk base d) m (i:Int)) (λ j=>∃ j':Nat,j=(j':Int)/\i<=j'/\j'<L.length/\L.drop j'=nf (decide (0<Sk)) (L.drop i)):=by
 intro k
 induction k with
 | zero=>grind
 | succ k ih=>
  intro i hi _;have hd':=xe (L:=L) (i:=i) O;refine aM ?_;simp only [dy];refine ak (decide (0<Sk/\(lat L (i:Int)).Ar=5)) ?_ ?_
  ·refine aH (λ h=>am ⟨by omega,by grind⟩ (ac ?_)) (λ h=>ac ?_)
   ·grind
   grind
  ·by_cases h:0<Sk/\(lat L (i:Int)).Ar=5
   ·refine ap (by grind) (am aV ?_)
    have hk:0<k:=by
     have hg:=wG hL (i:=i) O;rw [hd',n7] at hg;rcases hg.2 with h2|h2
     ·have h2:(lat L (i:Int)).Ar=6:=h2.1;omega
     grind [Hj,List.drop_eq_nil_of_le]
    refine cH (Fy (P:=λ j=>Ev2 (λ _ m=>dy (.mk L a Sk base d) m j) _) (ih (i+1) O hk)) ?_
    grind [pQ]
   ·refine ar (by grind) (ac ⟨i,Z,bt _,by omega,?_⟩)
    grind [pQ]
theorem Pos.ext {i j:Nat}{Sk:Int}{b:Bool}{l:List af}(h:Pos L base i Sk b l)(h1:i<=j)(h2:j<L.length)(h3:L.drop j=nf b (L.drop i)):Pos L base j Sk b l:=by
 obtain ⟨q1,q2,q3,q4,q5⟩:=h;refine ⟨h2,q2,by omega,q4,?_⟩
 grind [Eh,RH]
theorem Pos.any {i:Nat}{Sk:Int}{b:Bool}{l:List af}(h:Pos L base i Sk b l):Pos L base i Sk b ((L.drop i).map (mvT base)):=⟨h.1,h.2.1,h.2.2.1,h.2.2.2.1,Z⟩
theorem kT (hL:Gd (L.map (mvT base)))(Pn:L.length<=1000000000){i:Nat}{Sk:Int}{b:Bool}{l:List af}{d:az}(h:Pos L base i Sk b l) :
  Ev2 (λ n _=>bM n (.mk L (i:Int) Sk base d)) (λ z=>z.1=hd b l/\∃ j:Nat,z.2=.mk L (j:Int) Sk base d/\Pos L base j Sk b l/\(L.drop j).map (mvT base)=nf b l/\i<=j):=by
 simp only [bM];have hi:=h.1;refine aW _ (bc (OM hL Pn (d:=d) (a:=(i:Int)) (L.length-i) i O O)) ?_;rintro x ⟨j,rfl,h1,h2,h3⟩;rw [<- h.2.2.2.1] at h3;have hg:Gd (nf b l):=h.gd hL;have hdr:(L.drop j).map (mvT base)=nf b l:=by rw [h3,<- Eh,h.2.2.2.2]
 have hhd:mvT base (lat L (j:Int))=hd b l:=by
  grind [xe,yy]
 have hb:=Dj hg;rw [<- hhd] at hb;obtain ⟨b1,b2,-,-⟩:=hb;have b1:0<=(lat L (j:Int)).fAt+base:=b1;have b2:(lat L (j:Int)).fAt+base+((lat L (j:Int)).C'.length:Int)<=1000000000:=b2;refine am ⟨by omega,by grind⟩ (am gz (ac ⟨hhd,j,rfl,h.ext h1 h2 h3,hdr,h1⟩))
theorem Pos.next {j:Nat}{Sk:Int}{b:Bool}{l:List af}(hL:Gd (L.map (mvT base)))(h:Pos L base j Sk b l)(hdr:(L.drop j).map (mvT base)=nf b l)(h6:(hd b l).Ar≠6) :
  Pos L base (j+1) Sk b (tl b l)/\(L.drop (j+1)).map (mvT base)=tl b l:=by
 have hg:Gd (nf b l):=h.gd hL
 have e:(L.drop (j+1)).map (mvT base)=tl b l:=by
  have:=hdr;rw [xe h.1,n7,yy hg] at this
  grind
 have Vs:=Hj (Mm hg h6)
 have:j+1<L.length:=by
  grind [List.drop_eq_nil_of_le]
 obtain ⟨q1,q2,q3,q4,q5⟩:=h;exact ⟨⟨this,q2,by omega,q4,by rw [e]⟩,e⟩
theorem Ql (hL:Gd (L.map (mvT base)))(Pn:L.length<=1000000000){i:Nat}{Sk:Int}{b:Bool}{l:List af}{d:az}(h:Pos L base i Sk b l) :
  Ev2 (λ n _=>aX n (.mk L (i:Int) Sk base d)) (λ z=>z.1=hd b l/\∃ j:Nat,z.2=.mk L (j:Int) Sk base d/\if (hd b l).Ar=6 then Pos L base j Sk b l else Pos L base j Sk b (tl b l)/\(L.drop j).map (mvT base)=tl b l/\i<j):=by
 simp only [aX];refine gm (kT hL Pn h) λ j ⟨h3,h4,h5⟩=>?_;have hj:=h3.1;by_cases h6:(hd b l).Ar=6
 ·refine ak (j:Int) (ap h6 (ac Z)) (ac ⟨Z,j,Z,?_⟩)
  grind
 ·refine ak ((j:Int)+1) (ar h6 Et) (ac ⟨Z,j+1,Z,?_⟩);rw [if_neg h6]; exact ⟨(h3.next hL h4 h6).1,(h3.next hL h4 h6).2,by omega⟩
theorem fZ (hL:Gd (L.map (mvT base)))(Pn:L.length<=1000000000){i:Nat}{Sk:Int}{b:Bool}{l:List af}{d:az}(h:Pos L base i Sk b l)(h6:(hd b l).Ar≠6) :
  Ev2 (λ n _=>aX n (.mk L (i:Int) Sk base d)) (λ z=>z.1=hd b l/\∃ j:Nat,z.2=.mk L (j:Int) Sk base d/\Pos L base j Sk b (tl b l)/\(L.drop j).map (mvT base)=tl b l/\i<j) :=
 cH (Ql hL Pn h) λ z ⟨h1,j,h2,h3⟩=>⟨h1,j,h2,by grind⟩
def dOk:az:=az.mk 0 0 []
def eD (e:PE):az:=az.mk e.1 e.2 []
def Out {α:Type}(L:List af)(base:Int)(Sk:Int)(b:Bool)(q:PE⊕(α×List af))(z:α×ah):Prop:=match q with
 | .inl e=>e.1≠0/\∃ (j:Nat) (l':List af),z.2=.mk L (j:Int) Sk base (eD e)/\Pos L base j Sk b l'
 | .inr (x,l)=>z.1=x/\∃ j:Nat,z.2=.mk L (j:Int) Sk base dOk/\Pos L base j Sk b l
def Jr (L:List af)(base:Int)(Sk:Int)(b:Bool)(q:PE⊕(Unit×List af))(z:ah):Prop:=match q with
 | .inl e=>e.1≠0/\∃ (j:Nat) (l':List af),z=.mk L (j:Int) Sk base (eD e)/\Pos L base j Sk b l'
 | .inr (_,l)=>∃ j:Nat,z=.mk L (j:Int) Sk base dOk/\Pos L base j Sk b l/\(L.drop j).map (mvT base)=l
theorem wK (hL:Gd (L.map (mvT base)))(Pn:L.length<=1000000000){i:Nat}{Sk:Int}{b:Bool}{l:List af}(s:Bk)(h:Pos L base i Sk b l) :
  Ev2 (λ n _=>bG n (.mk L (i:Int) Sk base dOk) s) (λ z=>z.1=sgB b l s/\∃ j:Nat,z.2=.mk L (j:Int) Sk base dOk/\Pos L base j Sk b l):=by
 simp only [bG,bK,rg];refine gm (kT hL Pn h) λ j ⟨h3,h4,h5⟩=>?_;refine ak (sgB b l s,L,(j:Int),Sk,base,0,0,[]) ?_ vd;refine ap rfl (aH (λ h=>ac ?_) (λ h=>ac ?_))
 ·have h:(hd b l).Ar=4:=h;simp only [sgB,h,decide_true,Bool.true_and] <;> rfl
 ·have h:¬ (hd b l).Ar=4:=h;simp only [sgB,h,decide_false,Bool.false_and] <;> rfl
theorem wP (hL:Gd (L.map (mvT base)))(Pn:L.length<=1000000000){i:Nat}{Sk:Int}{b:Bool}{l:List af}(s:Bk)(h:Pos L base i Sk b l) :
  Ev2 (λ n _=>eu n (.mk L (i:Int) Sk base dOk) s) (λ z=>z.1=wdB b l s/\∃ j:Nat,z.2=.mk L (j:Int) Sk base dOk/\Pos L base j Sk b l):=by
 simp only [eu,bK,rg];refine gm (kT hL Pn h) λ j ⟨h3,h4,h5⟩=>?_;refine ak (wdB b l s,L,(j:Int),Sk,base,0,0,[]) ?_ vd;refine ap rfl (aH (λ h=>ac ?_) (λ h=>ac ?_))
 ·have h:(hd b l).Ar=1:=h;simp only [wdB,h,decide_true,Bool.true_and] <;> rfl
 ·have h:¬ (hd b l).Ar=1:=h;simp only [wdB,h,decide_false,Bool.false_and] <;> rfl
theorem BH (i Sk:Int)(k a:Int):b7 (.mk L i Sk base dOk) k a=some (e0,.mk L i Sk base (eD (k,a))):=rfl
theorem uH (hL:Gd (L.map (mvT base)))(Pn:L.length<=1000000000){i:Nat}{Sk:Int}{b:Bool}{l:List af}(s:Bk){q:PE⊕(Unit×List af)}(h:Pos L base i Sk b l)(hq:fW b s l=some q) :
  Ev2 (λ n _=>dW n (.mk L (i:Int) Sk base dOk) s) (Jr L base Sk b q):=by
 simp only [dW];refine gm (wK hL Pn s h) λ j h3=>?_;unfold fW at hq;by_cases hs:sgB b l s=true
 ·rw [if_pos hs] at hq; cases hq;refine ar (by simp [hs]) (aW _ (fZ hL Pn h3 (by grind [tU])) ?_);exact Nv
 ·exact N5
theorem D2 (hL:Gd (L.map (mvT base)))(Pn:L.length<=1000000000){i:Nat}{Sk:Int}{b:Bool}{l:List af}(s:Bk){q:PE⊕(Unit×List af)}(h:Pos L base i Sk b l)(hq:ID b s l=some q) :
  Ev2 (λ n _=>gp n (.mk L (i:Int) Sk base dOk) s) (Jr L base Sk b q):=by
 simp only [gp];refine gm (wP hL Pn s h) λ j h3=>?_;unfold ID at hq;by_cases hs:wdB b l s=true
 ·rw [if_pos hs] at hq; cases hq;refine ar (by simp [hs]) (aW _ (fZ hL Pn h3 (by grind [AM])) ?_);exact Nv
 ·exact N5
theorem Pos.out {j:Nat}{Sk:Int}{l l':List af}(h:Pos L base j (Sk+1) true l)(h0:0<=Sk)(he:(L.drop j).map (mvT base)=l'):Pos L base j Sk (decide (0<Sk)) l':=by
 obtain ⟨q1,q2,q3,q4,q5⟩:=h;exact ⟨q1,h0,by omega,rfl,by rw [he]⟩
theorem L4 (hL:Gd (L.map (mvT base)))(Pn:L.length<=1000000000){i:Nat}{Sk:Int}{l:List af}(s:Bk){q:PE⊕(Unit×List af)}(h0:0<=Sk)(h:Pos L base i (Sk+1) true l)(hq:fW true s l=some q) :
  Ev2 (λ n _=>co n (.mk L (i:Int) (Sk+1) base dOk) s) (Jr L base Sk (decide (0<Sk)) q):=by
 simp only [co];refine aW _ (uH hL Pn s h hq) ?_;intro z hz;have hb:=h.2.2.1;rcases q with e|⟨u,l'⟩
 ·obtain ⟨he,j,l',rfl,hp⟩:=hz;refine am gz (ac ⟨he,j,(L.drop j).map (mvT base),?_,hp.out h0 rfl⟩)
  grind
 ·obtain ⟨j,rfl,hp,hx⟩:=hz;refine am gz (ac ⟨j,?_,hp.out h0 hx,hx⟩)
  grind
theorem sI (hL:Gd (L.map (mvT base)))(Pn:L.length<=1000000000){i:Nat}{Sk:Int}{b:Bool}{l:List af}(h:Pos L base i Sk b l)(h6:(hd b l).Ar≠6) :
  Ev2 (λ n _=>dr n (.mk L (i:Int) Sk base dOk)) (λ z=>∃ j:Nat,z=.mk L (j:Int) (Sk+1) base dOk/\Pos L base j (Sk+1) true (tl b l)):=by
 simp only [dr];refine aW _ (fZ hL Pn h h6) ?_;rintro ⟨z1,z2⟩ ⟨h1,j,h2,h3,h4,h5⟩
 cases h2
 have hb:=h.2.2.1;have hn:=h.2.1;have hj:=h3.1;refine am gz (ac ⟨j,Z,h3.1,by omega,by omega,?_,by rw [h4]⟩)
 grind
theorem vS (hL:Gd (L.map (mvT base)))(Pn:L.length<=1000000000){i:Nat}{Sk:Int}{b:Bool}{l:List af}{q:PE⊕(Bk×List af)}(h:Pos L base i Sk b l)(hq:DO b l=some q) :
  Ev2 (λ n _=>et n (.mk L (i:Int) Sk base dOk)) (Out L base Sk b q):=by
 simp only [et,bK,rg];refine gm (kT hL Pn h) λ j ⟨h3,h4,h5⟩=>?_;unfold DO at hq;by_cases hs:(hd b l).Ar=1/\iO (hd b l).C'=false
 ·rw [if_pos hs] at hq; cases hq;refine ak (false,L,(j:Int),Sk,base,0,0,[]) (ar wr (ap hs.1 (ak _ yu (ac ?_)))) ?_
  ·rw [hs.2]; rfl
  ·refine ar wr (aW _ (fZ hL Pn h3 O) ?_);rintro ⟨y1,y2⟩ ⟨g1,k,g2,g3,g4,g5⟩
   cases g2
   exact ac ⟨Z,k,Z,g3⟩
 ·rw [if_neg hs] at hq; cases hq;refine ak (true,L,(j:Int),Sk,base,0,0,[]) (ar wr (aH (λ h1=>ak _ yu (ac ?_)) (λ h1=>ac rfl))) ?_
  ·have h1:(hd b l).Ar=1:=h1
   have:iO (hd b l).C'=true:=by
    grind
   rw [this]; rfl
  ·exact ap Z (ak _ (aA (BH _ _ _ _) Z) (ac ⟨(by decide:(2:Int)≠0),j,l,Z,h3⟩))
end
theorem xZ (h:p:=by exact wK hL Pn _ h):p:=h
section
variable {L:List af} {base:Int}
theorem Jg (hL:Gd (L.map (mvT base)))(Pn:L.length<=1000000000){Sk:Int}{b:Bool}{l:List af}(ls:List Bk)(hls:ls.length<=1000):∀ (k t i:Nat),t+k=ls.length->Pos L base i Sk b l ->
  Ev2 (λ n m=>cy n ls m (t:Int) L (i:Int) Sk base 0 0 []) (λ r=>match (ls.drop t).find? (λ s=>sgB b l s) with
   | some s=>∃ j:Nat,r=.inr (s,true,.mk L (j:Int) Sk base dOk)/\Pos L base j Sk b l
   | none=>∃ j:Nat,r=.inl (L,(j:Int),Sk,base,0,0,[])/\Pos L base j Sk b l):=by
 intro k
 induction k with
 | zero=>
  intro t i ht h;refine aM ?_;simp only [cy];refine ar O (ac ?_)
  grind
 | succ k ih=>
  intro t i ht h;refine aM ?_;simp only [cy];have hdr:ls.drop t=lat ls (t:Int)::ls.drop (t+1):=by grind [me,List.drop_eq_getElem_cons]
  refine ap O (am Ad (aW _ xZ ?_));rintro ⟨z1,z2⟩ ⟨h1,j,h2,h3⟩;replace h1:z1=_:=h1; subst h1; cases h2;rw [hdr,List.find?_cons]
  cases hs:sgB b l (lat ls (t:Int)) with
  | true=>exact ap Z (ac ⟨j,Z,h3⟩)
  | false=>exact ar wr (am (fL O O) (Fy (P:=λ x=>Ev2 (λ n m=>cy n ls m x L (j:Int) Sk base 0 0 []) _) (ih (t+1) j O h3)))
theorem LW (hL:Gd (L.map (mvT base)))(Pn:L.length<=1000000000){i:Nat}{Sk:Int}{b:Bool}{l:List af}(ls:List Bk)(hls:ls.length<=1000)(h:Pos L base i Sk b l) :
  Ev2 (λ n _=>iJ n (.mk L (i:Int) Sk base dOk) ls) (λ r=>match ls.find? (λ s=>sgB b l s) with
   | some s=>∃ j:Nat,r=(s,true,.mk L (j:Int) Sk base dOk)/\Pos L base j Sk b l
   | none=>∃ j:Nat,r=([],false,.mk L (j:Int) Sk base dOk)/\Pos L base j Sk b l):=by
 simp only [iJ];have hl:=Jg hL Pn ls hls ls.length 0 i O h;rw [List.drop_zero] at hl
 cases hf:ls.find? (λ s=>sgB b l s) with
 | some s=>
  rw [hf] at hl;refine gh (cH (bc hl) ?_)
  grind
 | none=>
  rw [hf] at hl;refine gh (cH (bc hl) ?_);rintro _ ⟨j,rfl,hp⟩;exact ac ⟨j,rfl,hp⟩
theorem Kp {Vt:Nat}(h:Vt<=5):mf (Vt:Int)=some ((sN Vt).map (·.1)):=by
 rcases Vt with _|_|_|_|_|_|k
 ·rfl
 ·rfl
 ·rfl
 ·rfl
 ·rfl
 ·rfl
 ·omega
def wb:List Bk:=[[124,124],[38,38],[61,61],[33,61],[60],[60,61],[62],[62,61],[43],[45],[42],[47],[37]]
theorem Ux (s:Bk):∀ (k t:Nat),t+k=13->Ev2 (λ _ m=>jp s m (t:Int)) (·=match (wb.drop t).findIdx? (λ x=>decide (x=s)) with|some i=>.inr ((3+t+i:Nat):Int)|none=>.inl ()):=by
 intro k
 induction k with
 | zero=>
  intro t ht;refine aM ?_;simp only [jp];have:t=13:=by omega
  subst this;exact ar (by decide) (ac rfl)
 | succ k ih=>
  intro t ht;refine aM ?_;simp only [jp];have hdr:wb.drop t=lat wb (t:Int)::wb.drop (t+1):=by rw [me wb t (by show t<13; omega)]; simp_all
  refine ap O (am Ad ?_);rw [hdr,List.findIdx?_cons];by_cases hs:lat wb (t:Int)=s
  ·refine ap hs (am aV (ac ?_))
   grind
  ·refine ar hs (am aV (cH (Fy (P:=λ x=>Ev2 (λ _ m=>jp s m x) _) (ih (t+1) O)) ?_))
   grind
theorem Ur {Vt:Nat}(h:Vt<=5){p:Bk×Int}(hp:p∈sN Vt):Ev2 (λ n _=>uq n p.1) (·=p.2):=by
 simp only [uq];have hl:=Ux p.1 13 0 rfl;rw [List.drop_zero] at hl
 have:(match wb.findIdx? (λ x=>decide (x=p.1)) with|some i=>Sum.inr ((3+0+i:Nat):Int)|none=>(Sum.inl ():Unit⊕Int))=.inr p.2:=by
  have hall:∀ Vt:Fin 6,∀ p∈sN Vt.1,(match wb.findIdx? (λ x=>decide (x=p.1)) with|some i=>Sum.inr ((3+0+i:Nat):Int)|none=>(Sum.inl ():Unit⊕Int))=.inr p.2:=by decide
  exact hall ⟨Vt,by omega⟩ p hp
 rw [this] at hl;exact kt p.2 (bc hl) rfl
theorem ME (b:Bool)(l:List af)(Vt:Nat):((sN Vt).map (·.1)).find? (λ s=>sgB b l s)=(wY b l Vt).map (·.1):=by
 unfold wY
 induction sN Vt with
 | nil=>rfl
 | cons p r ih=>
  grind
theorem QC {b:Bool}{l:List af}{Vt:Nat}{p:Bk×Int}(h:wY b l Vt=some p):p∈sN Vt/\sgB b l p.1=true:=⟨List.mem_of_find?_eq_some h,List.find?_some (p:=λ p:Bk×Int=>sgB b l p.1) h⟩
theorem QG {Vt:Nat}:((sN Vt).map (·.1)).length<=1000:=by
 rcases Vt with _|_|_|_|_|k <;> simp [sN]
end
end Go.Ab.R06
end
section
namespace Go.Ab.R06
open Go.Proofs Go.Ab Go.Ab.RB
set_option maxRecDepth 4000
attribute [local irreducible] awp iH bu bA cj AV.sub M cN
def pL (Xx:Int):Option Bool :=(if (-9007199254740992)<=Xx then some (decide (Xx<=9007199254740992))else some false).bind λ t2=>some t2
instance Na (Xx:Int):∀ (r:Bool),HP (pL Xx=some r) Tryz.prog 178 [eI Xx] (.p (eB r)):=by
 refine hP good Tryz.func178 Z Z λ r h0 _ w0=>?_;unfold pL at h0;exact mM
def wu (O':Bk):Nat->Int->Option (Unit⊕Bool)|0,_=>none|m+1,i9=>if i9<(O'.length:Int) then(ck ((0:Int)<=i9/\i9<(O'.length:Int))<|if byt O' i9<48 then some true else ck ((0:Int)<=i9/\i9<(O'.length:Int))<|some (decide (57<byt O' i9))).bind λ Vy=>if Vy=true then some (.inr false)else ck (inR (i9+1))<|wu O' m (i9+1)else some (.inl ())
def eY (O':Bk)(U3:Int)(lo_2:Int)(hi_3:Int):Option Bool :=(if U3<(O'.length:Int) then ck ((0:Int)<=U3/\U3<(O'.length:Int))<|if lo_2<=byt O' U3 then ck ((0:Int)<=U3/\U3<(O'.length:Int))<|some (decide (byt O' U3<=hi_3))else some false else some false).bind λ t5=>some t5
instance Ou (O':Bk) (U3:Int) (lo_2:Int) (hi_3:Int):∀ (r:Bool),HP (eY O' U3 lo_2 hi_3=some r) Tryz.prog 134 [eS O',eI U3,eK .u8 lo_2,eK .u8 hi_3] (.p (eB r)):=by
 refine hP good Tryz.func134 Z Z λ r h0 _ w0=>?_;unfold eY at h0;have:=js [100];have:=jS 100 Bool λ v=>[(8,.p (eB v))]
 exact J0
def mq (O':Bk)(U3:Int):Option (Int×Int) :=(if U3<0 then some true else some (decide ((O'.length:Int)<=U3))).bind λ t2=>if t2=true then some (0,0)else ck ((0:Int)<=U3/\U3<(O'.length:Int))<|if byt O' U3<128 then ck (inR (byt O' U3))<|some (byt O' U3,1)else(if 194<=byt O' U3 then if byt O' U3<=223 then ck (inR (U3+1))<|(eY O' (U3+1) 128 191).bind λ Vg=>some Vg else some false else some false).bind λ t12=>if t12=true then ck (inR (cV .u8 (byt O' U3) 31))<|ck ((0:Int)<=6)<|ck (inR (U3+1))<|ck ((0:Int)<=U3+1/\U3+1<(O'.length:Int))<|ck (inR (cV .u8 (byt O' (U3+1)) 63))<|some (iOr .i64 (mX .i64 (cV .u8 (byt O' U3) 31) 6) (cV .u8 (byt O' (U3+1)) 63),2)else(if byt O' U3=224 then some 160 else some 128).bind λ lo20=>(if byt O' U3=237 then some 159 else some 191).bind λ hi22=>(if 224<=byt O' U3 then if byt O' U3<=239 then ck (inR (U3+1))<|(eY O' (U3+1) lo20 hi22).bind λ VI=>if VI=true then ck (inR (U3+2))<|(eY O' (U3+2) 128 191).bind λ W0=>some W0 else some false else some false else some false).bind λ t32=>if t32=true then ck (inR (cV .u8 (byt O' U3) 15))<|ck ((0:Int)<=12)<|ck (inR (U3+1))<|ck ((0:Int)<=U3+1/\U3+1<(O'.length:Int))<|ck (inR (cV .u8 (byt O' (U3+1)) 63))<|ck ((0:Int)<=6)<|ck (inR (U3+2))<|ck ((0:Int)<=U3+2/\U3+2<(O'.length:Int))<|ck (inR (cV .u8 (byt O' (U3+2)) 63))<|some (iOr .i64 (iOr .i64 (mX .i64 (cV .u8 (byt O' U3) 15) 12) (mX .i64 (cV .u8 (byt O' (U3+1)) 63) 6)) (cV .u8 (byt O' (U3+2)) 63),3)else(if byt O' U3=240 then some 144 else some 128).bind λ lo44=>(if byt O' U3=244 then some 143 else some 191).bind λ hi46=>(if 240<=byt O' U3 then if byt O' U3<=244 then ck (inR (U3+1))<|(eY O' (U3+1) lo44 hi46).bind λ r50=>if r50=true then ck (inR (U3+2))<|(eY O' (U3+2) 128 191).bind λ WJ=>if WJ=true then ck (inR (U3+3))<|(eY O' (U3+3) 128 191).bind λ Wr=>some Wr else some false else some false else some false else some false).bind λ t60=>if t60=true then ck (inR (cV .u8 (byt O' U3) 7))<|ck ((0:Int)<=18)<|ck (inR (U3+1))<|ck ((0:Int)<=U3+1/\U3+1<(O'.length:Int))<|ck (inR (cV .u8 (byt O' (U3+1)) 63))<|ck ((0:Int)<=12)<|ck (inR (U3+2))<|ck ((0:Int)<=U3+2/\U3+2<(O'.length:Int))<|ck (inR (cV .u8 (byt O' (U3+2)) 63))<|ck ((0:Int)<=6)<|ck (inR (U3+3))<|ck ((0:Int)<=U3+3/\U3+3<(O'.length:Int))<|ck (inR (cV .u8 (byt O' (U3+3)) 63))<|some (iOr .i64 (iOr .i64 (iOr .i64 (mX .i64 (cV .u8 (byt O' U3) 7) 18) (mX .i64 (cV .u8 (byt O' (U3+1)) 63) 12)) (mX .i64 (cV .u8 (byt O' (U3+2)) 63) 6)) (cV .u8 (byt O' (U3+3)) 63),4)else some (0,0)
instance IV (O':Bk) (U3:Int):∀ (r:Int×Int),HP (mq O' U3=some r) Tryz.prog 108 [eS O',eI U3] (.tuple [.p (eI r.1),.p (eI r.2)]):=by
 refine hP good Tryz.func108 Z Z λ r h0 _ w0=>?_;unfold mq at h0;refine nx 7 Z (bd h0 λ o83 h1 h0=>kN o83 (λ ZC=>⟨[(0,.p (eS O')),(1,.p (eI U3)),(16,.p (eB ZC))],[]⟩) ?_ ?_)
 ·refine nx 1 Z (fB [16] h0 Z (λ c3 h0=>?_) λ c3 h0=>?_)
  ·exact J0
  refine nx 6 Z (oI h0 Z λ XP h0=>nx 8 Z (fD [21] h0 Z (λ c5 h0=>?_) λ c5 h0=>?_))
  ·exact nx 4 Z (cc' h0 λ ZQ h0=>mO Z (gY Z Z Z Z Z Z Z Z (mi ZQ) J0))
  refine nx 4 Z (bd h0 λ o85 h1 h0=>kN o85 (λ XJ=>⟨[(0,.p (eS O')),(1,.p (eI U3)),(6,.p (eK .u8 (byt O' U3))),(35,.p (eB XJ))],[]⟩) ?_ ?_)
  ·refine nx 1 Z (fB [35] h0 Z (λ c13 h0=>?_) λ c13 h0=>?_)
   ·exact nx 5 Z (cc' h0 λ XH h0=>mO Z (gY Z Z Z Z Z Z Z Z (mi XH) (cc' h0 λ Ww h0=>mO Z (rc Z Z Z Z Z Z Ww (nx 2 Z (oA h0 Z Z λ Xk h0=>oI h0 Z λ hk17 h0=>nx 1 Z (cc' h0 λ WG h0=>mO Z (gY Z Z Z Z Z Z Z Z (mi WG) J0))))))))
   refine nx 8 Z (bd h0 λ o87 h1 h0=>kN o87 (λ v88=>⟨[(0,.p (eS O')),(1,.p (eI U3)),(6,.p (eK .u8 (byt O' U3))),(7,.p (eK .u8 v88)),(8,.p (eK .u8 191))],[]⟩) ?_ ?_)
   ·refine nx 2 Z (bd h0 λ Y4 h1 h0=>kN Y4 (λ Za=>⟨[(0,.p (eS O')),(1,.p (eI U3)),(6,.p (eK .u8 (byt O' U3))),(7,.p (eK .u8 o87)),(8,.p (eK .u8 Za))],[]⟩) ?_ ?_)
    ·refine nx 3 Z (bd h0 λ o91 h1 h0=>kN o91 (λ v92=>⟨[(0,.p (eS O')),(1,.p (eI U3)),(6,.p (eK .u8 (byt O' U3))),(70,.p (eB v92))],[]⟩) ?_ ?_)
     ·refine nx 1 Z (fB [70] h0 Z (λ c33 h0=>?_) λ c33 h0=>?_)
      ·refine nx 2 Z (cc' h0 λ Zt h0=>cc' h0 λ X6 h0=>cc' h0 λ X5 h0=>cc' h0 λ XF h0=>cc' h0 λ abG h0=>cc' h0 λ aau h0=>cc' h0 λ XE h0=>cc' h0 λ W6 h0=>cc' h0 λ aat h0=>mD [(0,.p (eS O')),(1,.p (eI U3)),(6,.p (eK .u8 (byt O' U3)))] Z ⟨Z,Z,Z,trivial⟩ Z (dR 2 Z (dq (.p (eI (cV .u8 (byt O' U3) 15))) [72] Z (λ _ e _ q=>al Z (gY Z Z Z Z Z Z Z (e _ _ Z) (mi Zt) q)) Z (dq (.p (eI (mX .i64 (cV .u8 (byt O' U3) 15) 12))) [73] Z (λ _ e _ q=>al Z (rc Z Z Z (e _ _ Z) Z Z X6 q)) Z (dR 2 Z (dq (.p (eI (U3+1))) [76] Z (λ _ e _ q=>al Z (gJ Z Z Z (e _ _ Z) Z Z X5 q)) Z (dq (.p (eK .u8 (byt O' (U3+1)))) [75,77] Z (λ _ e _ q=>al Z (iA Z Z Z Z Z (e _ _ Z) (e _ _ Z) XF q)) Z (dR 1 Z (dq (.p (eI (cV .u8 (byt O' (U3+1)) 63))) [79] Z (λ _ e _ q=>al Z (gY Z Z Z Z Z Z Z (e _ _ Z) (mi abG) q)) Z (dq (.p (eI (mX .i64 (cV .u8 (byt O' (U3+1)) 63) 6))) [80] Z (λ _ e _ q=>al Z (rc Z Z Z (e _ _ Z) Z Z aau q)) Z (dR 3 Z (dq (.p (eI (U3+2))) [84] Z (λ _ e _ q=>al Z (gJ Z Z Z (e _ _ Z) Z Z XE q)) Z ?_))))))))))));exact dq (.p (eK .u8 (byt O' (U3+2)))) [83,85] Z (λ _ e _ q=>al Z (iA Z Z Z Z Z (e _ _ Z) (e _ _ Z) W6 q)) Z (dR 1 Z (dq (.p (eI (cV .u8 (byt O' (U3+2)) 63))) [87] Z (λ _ e _ q=>al Z (gY Z Z Z Z Z Z Z (e _ _ Z) (mi aat) q)) Z (dR 3 Z J0)))
      refine nx 8 Z (bd h0 λ o93 h1 h0=>kN o93 (λ v94=>⟨[(0,.p (eS O')),(1,.p (eI U3)),(6,.p (eK .u8 (byt O' U3))),(7,.p (eK .u8 v94)),(8,.p (eK .u8 191))],[]⟩) ?_ ?_)
      ·refine nx 2 Z (bd h0 λ o95 h1 h0=>kN o95 (λ v96=>⟨[(0,.p (eS O')),(1,.p (eI U3)),(6,.p (eK .u8 (byt O' U3))),(7,.p (eK .u8 o93)),(8,.p (eK .u8 v96))],[]⟩) ?_ ?_)
       ·refine nx 3 Z (bd h0 λ o97 h1 h0=>kN o97 (λ v98=>⟨[(0,.p (eS O')),(1,.p (eI U3)),(6,.p (eK .u8 (byt O' U3))),(119,.p (eB v98))],[]⟩) ?_ ?_)
        ·refine nx 1 Z (fB [119] h0 Z (λ c61 h0=>?_) λ c61 h0=>?_)
         ·refine nx 2 Z (cc' h0 λ YK h0=>cc' h0 λ Zo h0=>cc' h0 λ Zn h0=>cc' h0 λ YJ h0=>cc' h0 λ hk66 h0=>cc' h0 λ abF h0=>cc' h0 λ aao h0=>cc' h0 λ hk69 h0=>cc' h0 λ abE h0=>cc' h0 λ hk71 h0=>cc' h0 λ YI h0=>cc' h0 λ abD h0=>cc' h0 λ hk74 h0=>mD [(0,.p (eS O')),(1,.p (eI U3)),(6,.p (eK .u8 (byt O' U3)))] Z ⟨Z,Z,Z,trivial⟩ Z (dR 2 Z (dq (.p (eI (cV .u8 (byt O' U3) 7))) [121] Z (λ _ e _ q=>al Z (gY Z Z Z Z Z Z Z (e _ _ Z) (mi YK) q)) Z (dq (.p (eI (mX .i64 (cV .u8 (byt O' U3) 7) 18))) [122] Z (λ _ e _ q=>al Z (rc Z Z Z (e _ _ Z) Z Z Zo q)) Z (dR 2 Z (dq (.p (eI (U3+1))) [125] Z (λ _ e _ q=>al Z (gJ Z Z Z (e _ _ Z) Z Z Zn q)) Z (dq (.p (eK .u8 (byt O' (U3+1)))) [124,126] Z (λ _ e _ q=>al Z (iA Z Z Z Z Z (e _ _ Z) (e _ _ Z) YJ q)) Z (dR 1 Z (dq (.p (eI (cV .u8 (byt O' (U3+1)) 63))) [128] Z (λ _ e _ q=>al Z (gY Z Z Z Z Z Z Z (e _ _ Z) (mi hk66) q)) Z (dq (.p (eI (mX .i64 (cV .u8 (byt O' (U3+1)) 63) 12))) [129] Z (λ _ e _ q=>al Z (rc Z Z Z (e _ _ Z) Z Z abF q)) Z ?_))))))))));exact dR 3 Z (dq (.p (eI (U3+2))) [133] Z (λ _ e _ q=>al Z (gJ Z Z Z (e _ _ Z) Z Z aao q)) Z (dq (.p (eK .u8 (byt O' (U3+2)))) [132,134] Z (λ _ e _ q=>al Z (iA Z Z Z Z Z (e _ _ Z) (e _ _ Z) hk69 q)) Z (dR 1 Z (dq (.p (eI (cV .u8 (byt O' (U3+2)) 63))) [136] Z (λ _ e _ q=>al Z (gY Z Z Z Z Z Z Z (e _ _ Z) (mi abE) q)) Z (dq (.p (eI (mX .i64 (cV .u8 (byt O' (U3+2)) 63) 6))) [137] Z (λ _ e _ q=>al Z (rc Z Z Z (e _ _ Z) Z Z hk71 q)) Z (dR 3 Z (dq (.p (eI (U3+3))) [141] Z (λ _ e _ q=>al Z (gJ Z Z Z (e _ _ Z) Z Z YI q)) Z (dq (.p (eK .u8 (byt O' (U3+3)))) [140,142] Z (λ _ e _ q=>al Z (iA Z Z Z Z Z (e _ _ Z) (e _ _ Z) abD q)) Z (dR 1 Z (dq (.p (eI (cV .u8 (byt O' (U3+3)) 63))) [144] Z (λ _ e _ q=>al Z (gY Z Z Z Z Z Z Z (e _ _ Z) (mi hk74) q)) Z (dR 3 Z J0)))))))))))
         exact J0
        exact aB
       exact aB
      exact aB
     exact aB
    exact aB
   exact aB
  exact aB
 exact aB
def ir (O':Bk):Nat->Int->Option (Unit⊕Bool)|0,_=>none|m+1,i8=>if i8<(O'.length:Int) then(mq O' i8).bind λ Vg=>if Vg.2=0 then some (.inr false)else ck (inR (i8+Vg.2))<|ir O' m (i8+Vg.2)else some (.inl ())
def jf (n:Nat)(O':Bk):Option Bool :=if 4096<(O'.length:Int) then some false else jn (ir O' n 0) λ Xe=>some true
instance Ny (n:Nat) (O':Bk):∀ (r:Bool),HP (jf n O'=some r) Tryz.prog 76 [eS O'] (.p (eB r)):=by
 refine hP good Tryz.func76 Z Z λ r h0 _ w0=>?_;unfold jf at h0;refine nx 8 Z (oLs Z (nx 2 Z (fD [8] h0 Z (λ c1 h0=>?_) λ c1 h0=>?_)))
 ·exact J0
 refine nx 8 rfl ?_;obtain ⟨ZO,h1,Vp,hR0⟩:=bJ h0;refine kEx 0 (λ Yr:Unit=>ZO=.inl Yr) (λ Yr=>⟨[],[]⟩) (λ Yr hv=>?_) ?_
 ·exact eW
 refine lG (λ (YB:Int)=>⟨[(0,.p (eS O')),(3,.p (eI YB))],[]⟩) (λ m (YB:Int)=>ir O' m YB) Y 0 h1 (gE rfl rfl) ?_;rintro m i8 h1;replace h1:ir O' (m+1) i8=some ZO:=h1;rw [ir] at h1;exact aB
end Go.Ab.R06
end
section
namespace Go.Ab.R06
open Go.Proofs Go.Ab Go.Ab.RB
attribute [local irreducible] awp iH bu bA cj AV.sub M cN
def mh (UZ:ag):Option Bool :=(if UZ.Ar=2 then some true else if UZ.Ar=1 then if UZ.G'=0 then some true else if UZ.G'=1 then some true else some (decide (UZ.G'=0))else some (decide (UZ.G'=0))).bind λ num5=>(if UZ.Ar=3 then some true else some (decide (UZ.D'=([]:Bk)))).bind λ str7=>(if UZ.Ar=4 then some true else if UZ.Ar=5 then some true else some (decide ((UZ.Gw.length:Int)=0))).bind λ items10=>(if UZ.Ar=5 then if (UZ.F'.length:Int)=(UZ.Gw.length:Int) then some true else some false else some (decide ((UZ.F'.length:Int)=0))).bind λ keys13=>(if 0<=UZ.Ar then if UZ.Ar<=6 then if num5=true then if str7=true then if items10=true then some keys13 else some false else some false else some false else some false else some false).bind λ Vz=>some Vz
instance I5 (UZ:ag):∀ (r:Bool),HP (mh UZ=some r) Tryz.prog 177 [.agg (ag.cs UZ)] (.p (eB r)):=by
 refine hP good Tryz.func177 Z Z λ r h0 _ w0=>?_;unfold mh at h0;refine nx 6 Z (bd h0 λ YD h1 h0=>kN YD (λ Yq=>⟨[(1,.ptr 1 0),(3,.p (eB Yq))],[(1,(ag.cs UZ).map .p)]⟩) ?_ ?_)
 ·refine nx 2 Z (bd h0 λ Xs h1 h0=>kN Xs (λ YY=>⟨[(1,.ptr 1 0),(3,.p (eB YD)),(4,.p (eB YY))],[(1,(ag.cs UZ).map .p)]⟩) ?_ ?_)
  ·refine nx 2 Z (bd h0 λ WX h1 h0=>kN WX (λ V8=>⟨[(1,.ptr 1 0),(3,.p (eB YD)),(4,.p (eB Xs)),(5,.p (eB V8))],[(1,(ag.cs UZ).map .p)]⟩) ?_ ?_)
   ·refine nx 2 Z (bd h0 λ ZM h1 h0=>kN ZM (λ Zd=>⟨[(1,.ptr 1 0),(3,.p (eB YD)),(4,.p (eB Xs)),(5,.p (eB WX)),(6,.p (eB Zd))],[(1,(ag.cs UZ).map .p)]⟩) ?_ ?_)
    ·refine nx 2 Z (bd h0 λ o33 h1 h0=>kN o33 (λ v34=>⟨[(2,.p (eB v34))],[]⟩) ?_ ?_)
     ·exact J0
     exact aB
    refine nx 5 Z (fD [54,55] h1 Z (λ Xa h1=>?_) λ Xa h1=>?_)
    ·refine nx 2 Z (oLl (f:=eS) Z Z (nx 2 Z (oLl (f:=cn) Z Z (nx 3 Z (fD [62,63,64] h1 Z (λ c12 h1=>?_) λ c12 h1=>?_)))))
     ·exact aB
     exact nx 4 Z (lT [68] (uK Xa) Z (nx 8 Z n0))
    exact nx 13 Z (lT [68] (AA Xa) Z (nx 2 Z (oLl (f:=eS) Z Z (nx 5 Z n0))))
   exact aB
  exact aB
 exact aB
def lm (n:Nat)(O':Bk):Option Int :=if 4096<(O'.length:Int) then some 3 else(jf n O').bind λ r2=>if (!r2)=true then some 1 else some 0
instance OC (n:Nat) (O':Bk):∀ (r:Int),HP (lm n O'=some r) Tryz.prog 179 [eS O'] (.p (eI r)):=by
 refine hP good Tryz.func179 Z Z λ r h0 _ w0=>?_;unfold lm at h0;exact J0
def gK (n:Nat)(UZ:ag):Nat->Int->Option (Unit⊕Int)|0,_=>none|m+1,i25=>if i25<(UZ.F'.length:Int) then ck ((0:Int)<=i25/\i25<(UZ.F'.length:Int))<|(lm n (lat UZ.F' i25)).bind λ VP=>if VP=0 then(if 0<i25 then ck (inR (i25-1))<|ck ((0:Int)<=i25-1/\i25-1<(UZ.F'.length:Int))<|ck ((0:Int)<=i25/\i25<(UZ.F'.length:Int))<|some (!Op.bytesLess (lat UZ.F' (i25-1)) (lat UZ.F' i25))else some false).bind λ t35=>if t35=true then some (.inr 1)else ck (inR (i25+1))<|gK n UZ m (i25+1)else some (.inr VP)else some (.inl ())
def oT (n:Nat)(UZ:ag):Option Int :=(mh UZ).bind λ r1=>if (!r1)=true then some 1 else(if UZ.Ar=2 then(pL UZ.G').bind λ r5=>some (!r5)else some false).bind λ t7=>if t7=true then some 5 else(lm n UZ.D').bind λ r9=>if r9=0 then jn (gK n UZ n 0) λ Zk=>some 0 else some r9
instance OI (n:Nat) (UZ:ag):∀ (r:Int),HP (oT n UZ=some r) Tryz.prog 155 [.agg (ag.cs UZ)] (.p (eI r)):=by
 refine hP good Tryz.func155 Z Z λ r h0 _ w0=>?_;unfold oT at h0;refine nx 9 Z (K0 λ r1 h0=>nx 2 Z (fB [8] h0 Z (λ c3 h0=>?_) λ c3 h0=>?_))
 ·exact J0
 refine nx 4 Z (bd h0 λ Yh h1 h0=>kN Yh (λ Xl=>⟨[(1,.ptr 1 0),(17,.p (eB Xl))],[(1,(ag.cs UZ).map .p)]⟩) ?_ ?_)
 ·refine nx 1 Z (fB [17] h0 Z (λ c8 h0=>?_) λ c8 h0=>?_)
  ·exact J0
  refine nx 7 Z (K0 λ r9 h0=>nx 7 Z (fN [22] h0 Z (λ Xa h0=>?_) λ Xa h0=>?_))
  ·refine nx 8 rfl ?_;obtain ⟨ZL,h1,Vp,hR0⟩:=bJ h0;refine kEx 0 (λ Zc:Unit=>ZL=.inl Zc) (λ Zc=>⟨[],[]⟩) (λ Zc hv=>?_) ?_
   ·exact eW
   refine lG (λ (W3:Int)=>⟨[(1,.ptr 1 0),(4,.p (eI W3))],[(1,(ag.cs UZ).map .p)]⟩) (λ m (W3:Int)=>gK n UZ m W3) Y 0 h1 (gE rfl rfl) ?_;rintro m i25 h1;replace h1:gK n UZ (m+1) i25=some ZL:=h1;rw [gK] at h1;refine nx 6 rfl (oLl (f:=eS) rfl rfl (nx 2 rfl (fD [28] h1 rfl (λ c26 h1=>?_) λ c26 h1=>?_)))
   ·refine nx 10 Z (oE h1 Y Z Z Y λ Zv h1=>nx 1 Z (K1 λ VP h1=>nx 7 Z (fN [38] h1 Z (λ c30 h1=>?_) λ c30 h1=>?_)))
    ·refine nx 3 Z (bd h1 λ o47 h2 h1=>kN o47 (λ v48=>⟨[(1,.ptr 1 0),(4,.p (eI i25)),(55,.p (eB v48))],[(1,(ag.cs UZ).map .p)]⟩) ?_ ?_)
     ·exact aB
     refine fD (p:=0<i25) [] h2 Z (λ ZA h2=>?_) λ ZA h2=>?_
     ·refine cc' h2 λ abH h2=>cc' h2 λ aav h2=>cc' h2 λ Zt h2=>mD [(1,.ptr 1 0),(4,.p (eI i25))] Z ⟨Z,Z,trivial⟩ Z (dR 1 Z (dL (dt ZA) Z (dR 4 Z (dq (.p (eI (i25-1))) [42,45] Z (λ _ e _ q=>cO (gJ Z Z Z (e _ _ Z) Z Z abH q) Z Z (e _ _ Z) (rfl)) Z (dq (.rptr [eS (lat UZ.F' (i25-1))]) [42,44,46] Z (λ _ e _ q=>cO (dh (f:=eS) (l:=UZ.F') (λ x=>[eS x]) Z Z Z Z Z Z (e _ _ Z) Z (e _ _ Z) aav Y Y q) Z Z (e _ _ Z) (rfl)) Z (dR 4 Z (dq (.rptr [eS (lat UZ.F' i25)]) [42,50,51] Z (λ _ e _ q=>cO (dh (f:=eS) (l:=UZ.F') (λ x=>[eS x]) Z Z Z Z Z Z (e _ _ Z) Z (e _ _ Z) Zt Y Y q) Z Z (e _ _ Z) (rfl)) Z (dR 1 Z (dq (.p (eB (!Op.bytesLess (lat UZ.F' (i25-1)) (lat UZ.F' i25)))) [42,48,53] Z (λ _ e _ q=>cO (ko Z Z Z (e _ _ Z) (e _ _ Z) Z q) Z Z (e _ _ Z) (rfl)) Z ?_)))))))));exact dj
     exact mD [(1,.ptr 1 0),(4,.p (eI i25))] Z ⟨Z,Z,trivial⟩ Z (dR 1 Z (dL (df ZA) Z (dR 14 Z (dE Z Tb))))
    exact aB
   exact aB
  exact J0
 exact aB
def ic (Wh:ag->Int->Int->Option (Int×Int))(UZ:ag)(UU:Int):Nat->Int->Int->Option (Int⊕(Int×Int))|0,_,_=>none|m+1,n16,i17=>if i17<(UZ.Gw.length:Int) then ck ((0:Int)<=i17/\i17<(UZ.Gw.length:Int))<|ck (inR (UU+1))<|(Wh (lat UZ.Gw i17) (UU+1) n16).bind λ U8=>if U8.1=0 then ck (inR (i17+1))<|ic Wh UZ UU m U8.2 (i17+1)else some (.inr (U8.1,U8.2))else some (.inl n16)
def jj:Nat->ag->Int->Int->Option (Int×Int)|0,_,_,_=>none|n+1,UZ,UU,U5=>if 32<UU then some (4,U5)else if 4096<=U5 then some (14,U5)else(oT n UZ).bind λ r3=>if r3=0 then ck (inR (U5+1))<|jn (ic (jj n) UZ UU n (U5+1) 0) λ n27=>some (0,n27)else some (r3,U5)
instance Kr (n:Nat):∀ (UZ:ag) (UU:Int) (U5:Int) (r:Int×Int),HP (jj n UZ UU U5=some r) Tryz.prog 133 [.agg (ag.cs UZ),eI UU,eI U5] (.tuple [.p (eI r.1),.p (eI r.2)]):=by
 induction n with
 | zero=>exact Zr
 | succ n ih=>
 refine λ UZ UU U5=>hP good Tryz.func133 Z Z λ r h0 _ w0=>?_;rw [jj] at h0;refine nx 12 Z (fD [14] h0 Z (λ c1 h0=>?_) λ c1 h0=>?_)
 ·exact J0
 refine nx 8 Z (fD [17] h0 Z (λ c2 h0=>?_) λ c2 h0=>?_)
 ·exact J0
 refine nx 6 Z (K0 λ r3 h0=>nx 7 Z (fN [22] h0 Z (λ c5 h0=>?_) λ c5 h0=>?_))
 ·refine nx 5 rfl (oA h0 Z Z λ ZQ h0=>nx 8 rfl ?_);obtain ⟨WX,h1,Vp,hR0⟩:=bJ h0;refine kEx 0 (λ V8:Int=>WX=.inl V8) (λ V8=>⟨[(9,.p (eI V8))],[]⟩) (λ V8 hv=>?_) ?_
  ·exact eW
  refine lG (λ (WA:Int×Int)=>⟨[(1,.p (eI UU)),(3,.ptr 3 0),(9,.p (eI WA.1)),(10,.p (eI WA.2))],[(3,(ag.cs UZ).map .p)]⟩) (λ m (WA:Int×Int)=>ic (jj n) UZ UU m WA.1 WA.2) Y (U5+1,0) h1 (gE rfl rfl) ?_;rintro m ⟨n16,i17⟩ h1;replace h1:ic (jj n) UZ UU (m+1) n16 i17=some WX:=h1;rw [ic] at h1;exact aB
 exact J0
def nU (n:Nat)(UZ:ag):Option Int :=(jj n UZ 1 0).bind λ r1=>some r1.1
instance Mv (n:Nat) (UZ:ag):∀ (r:Int),HP (nU n UZ=some r) Tryz.prog 103 [.agg (ag.cs UZ)] (.p (eI r)):=by
 refine hP good Tryz.func103 Z Z λ r h0 _ w0=>?_;unfold nU at h0;exact J0
def fg (a_0:ag)(T':ag):Nat->Int->Option (Unit⊕Bool)|0,_=>none|m+1,i13=>if i13<(a_0.F'.length:Int) then ck ((0:Int)<=i13/\i13<(a_0.F'.length:Int))<|ck ((0:Int)<=i13/\i13<(T'.F'.length:Int))<|if lat a_0.F' i13=lat T'.F' i13 then ck (inR (i13+1))<|fg a_0 T' m (i13+1)else some (.inr false)else some (.inl ())
def eP (Wi:ag->ag->Option Bool)(a_0:ag)(T':ag):Nat->Int->Option (Unit⊕Bool)|0,_=>none|m+1,i28=>if i28<(a_0.Gw.length:Int) then ck ((0:Int)<=i28/\i28<(a_0.Gw.length:Int))<|ck ((0:Int)<=i28/\i28<(T'.Gw.length:Int))<|(Wi (lat a_0.Gw i28) (lat T'.Gw i28)).bind λ WU=>if (!WU)=true then some (.inr false)else ck (inR (i28+1))<|eP Wi a_0 T' m (i28+1)else some (.inl ())
def gD:Nat->ag->ag->Option Bool|0,_,_=>none|n+1,a_0,T'=>(if a_0.Ar=T'.Ar then if a_0.G'=T'.G' then if a_0.D'=T'.D' then if (a_0.Gw.length:Int)=(T'.Gw.length:Int) then some (!decide ((a_0.F'.length:Int)=(T'.F'.length:Int)))else some true else some true else some true else some true).bind λ t5=>if t5=true then some false else jn (fg a_0 T' n 0) λ q38=>jn (eP (gD n) a_0 T' n 0) λ Yg=>some true
instance MU (n:Nat):∀ (a_0:ag) (T':ag) (r:Bool),HP (gD n a_0 T'=some r) Tryz.prog 33 [.agg (ag.cs a_0),.agg (ag.cs T')] (.p (eB r)):=by
 induction n with
 | zero=>exact Zr
 | succ n ih=>
 refine λ a_0 T'=>hP good Tryz.func33 Z Z λ r h0 _ w0=>?_;rw [gD] at h0;refine nx 8 Z (bd h0 λ o40 h1 h0=>kN o40 (λ v41=>⟨[(2,.ptr 2 0),(3,.ptr 3 0),(43,.p (eB v41))],[(2,(ag.cs a_0).map .p),(3,(ag.cs T').map .p)]⟩) ?_ ?_)
 ·refine nx 1 Z (fB [43] h0 Z (λ c6 h0=>?_) λ c6 h0=>?_)
  ·exact J0
  refine nx 8 rfl ?_;obtain ⟨Yh,h1,Vp,hR0⟩:=bJ h0;refine kEx 0 (λ Xl:Unit=>Yh=.inl Xl) (λ Xl=>⟨[(2,.ptr 2 0),(3,.ptr 3 0)],[(2,(ag.cs a_0).map .p),(3,(ag.cs T').map .p)]⟩) (λ Xl hv=>?_) ?_
  ·have h0:=Vp _ hv;refine nx 7 rfl ?_;obtain ⟨ZL,h1,Vp,hR0⟩:=bJ h0;refine kEx 2 (λ Zc:Unit=>ZL=.inl Zc) (λ Zc=>⟨[],[]⟩) (λ Zc hv=>?_) ?_
   ·exact eW
   refine lG (λ (W3:Int)=>⟨[(2,.ptr 2 0),(3,.ptr 3 0),(6,.p (eI W3))],[(2,(ag.cs a_0).map .p),(3,(ag.cs T').map .p)]⟩) (λ m (W3:Int)=>eP (gD n) a_0 T' m W3) Y 0 h1 (gE rfl rfl) ?_;rintro m i28 h1;replace h1:eP (gD n) a_0 T' (m+1) i28=some ZL:=h1;rw [eP] at h1;refine nx 6 rfl (oLl (f:=cn) rfl rfl (nx 2 rfl (fD [66] h1 rfl (λ c29 h1=>?_) λ c29 h1=>?_)))
   ·refine nx 5 Z (cc' h1 λ aaw h1=>cc' h1 λ Zu h1=>bd h1 λ WU e33 h1=>mD [(2,.ptr 2 0),(3,.ptr 3 0),(6,.p (eI i28))] Z ⟨Z,Z,Z,trivial⟩ Z (dR 3 Z (dq (.rptr (ag.cs (lat a_0.Gw i28))) [70,71] Z (λ _ e _ q=>al Z (dh (f:=cn) (l:=a_0.Gw) ag.cs Z Z Z Z Z Z (e _ _ Z) Z (e _ _ Z) aaw ag.E' Y q)) Z (dR 4 Z (dq (.rptr (ag.cs (lat T'.Gw i28))) [75,76] Z (λ _ e _ q=>al Z (dh (f:=cn) (l:=T'.Gw) ag.cs Z Z Z Z Z Z (e _ _ Z) Z (e _ _ Z) Zu ag.E' Y q)) Z (dR 1 Z (dq (.p (eB WU)) [73,78] Z (λ _ e _ q=>al Z (bQ (HP.c e33) Z Z Z (aG (e _ _ Z) (aG (e _ _ Z) bp)) ⟨sr,sr,trivial⟩ HE.e Z q)) Z (dR 1 Z ?_))))))));exact aB
   exact aB
  refine lG (λ (WO:Int)=>⟨[(2,.ptr 2 0),(3,.ptr 3 0),(5,.p (eI WO))],[(2,(ag.cs a_0).map .p),(3,(ag.cs T').map .p)]⟩) (λ m (WO:Int)=>fg a_0 T' m WO) Y 0 h1 (gE rfl rfl) ?_;rintro m i13 h1;replace h1:fg a_0 T' (m+1) i13=some Yh:=h1;rw [fg] at h1;refine nx 6 rfl (oLl (f:=eS) rfl rfl (nx 2 rfl (fD [48] h1 rfl (λ Yb h1=>?_) λ Yb h1=>?_)))
  ·refine nx 5 Z (cc' h1 λ Ww h1=>cc' h1 λ Xk h1=>mD [(2,.ptr 2 0),(3,.ptr 3 0),(5,.p (eI i13))] Z ⟨Z,Z,Z,trivial⟩ Z (dR 3 Z (dq (.rptr [eS (lat a_0.F' i13)]) [52,53] Z (λ _ e _ q=>al Z (dh (f:=eS) (l:=a_0.F') (λ x=>[eS x]) Z Z Z Z Z Z (e _ _ Z) Z (e _ _ Z) Ww Y Y q)) Z (dR 4 Z (dq (.rptr [eS (lat T'.F' i13)]) [57,58] Z (λ _ e _ q=>al Z (dh (f:=eS) (l:=T'.F') (λ x=>[eS x]) Z Z Z Z Z Z (e _ _ Z) Z (e _ _ Z) Xk Y Y q)) Z (dR 1 Z (dq (.p (eB (!decide (lat a_0.F' i13=lat T'.F' i13)))) [55,60] Z (λ _ e _ q=>al Z (ko Z Z Z (e _ _ Z) (e _ _ Z) Z q)) Z (dE Z ?_))))))));exact aB
  exact aB
 exact aB
set_option maxRecDepth 4000
def wq (O':Bk):Nat->Int->Option Int|0,_=>none|m+1,at11=>(if at11<(O'.length:Int) then ck ((0:Int)<=at11/\at11<(O'.length:Int))<|if byt O' at11=32 then some true else ck ((0:Int)<=at11/\at11<(O'.length:Int))<|if byt O' at11=9 then some true else ck ((0:Int)<=at11/\at11<(O'.length:Int))<|some (decide (byt O' at11=13))else some false).bind λ Xm=>if Xm=true then ck (inR (at11+1))<|wq O' m (at11+1)else some at11
def kj (WQ:Int):Option Bool :=(if 97<=WQ then if WQ<=122 then some true else if 65<=WQ then if WQ<=90 then some true else some (decide (WQ=95))else some (decide (WQ=95))else if 65<=WQ then if WQ<=90 then some true else some (decide (WQ=95))else some (decide (WQ=95))).bind λ t7=>some t7
instance I7 (WQ:Int):∀ (r:Bool),HP (kj WQ=some r) Tryz.prog 107 [eK .u8 WQ] (.p (eB r)):=by
 refine hP good Tryz.func107 Z Z λ r h0 _ w0=>?_;unfold kj at h0;exact mM
def dw (O':Bk):Nat->Int->Option (Unit⊕Bool)|0,_=>none|m+1,i20=>if i20<(O'.length:Int) then(ck ((0:Int)<=i20/\i20<(O'.length:Int))<|(kj (byt O' i20)).bind λ VC=>if (!VC)=true then ck ((0:Int)<=i20/\i20<(O'.length:Int))<|if byt O' i20<48 then some true else ck ((0:Int)<=i20/\i20<(O'.length:Int))<|some (decide (57<byt O' i20))else some false).bind λ t29=>if t29=true then some (.inr false)else ck (inR (i20+1))<|dw O' m (i20+1)else some (.inl ())
def du (n:Nat)(O':Bk):Option Bool :=(if O'=([]:Bk) then some true else if 64<(O'.length:Int) then some true else ck ((0:Int)<=0/\0<(O'.length:Int))<|(kj (byt O' 0)).bind λ r4=>some (!r4)).bind λ t6=>if t6=true then some false else jn (dw O' n 0) λ Yz=>some true
instance DG (n:Nat) (O':Bk):∀ (r:Bool),HP (du n O'=some r) Tryz.prog 75 [eS O'] (.p (eB r)):=by
 refine hP good Tryz.func75 Z Z λ r h0 _ w0=>?_;unfold du at h0;refine nx 6 Z (bd h0 λ Yi h1 h0=>kN Yi (λ v37=>⟨[(0,.p (eS O')),(16,.p (eB v37))],[]⟩) ?_ ?_)
 ·refine nx 1 Z (fB [16] h0 Z (λ c7 h0=>?_) λ c7 h0=>?_)
  ·exact J0
  refine nx 8 rfl ?_;obtain ⟨o38,h1,Vp,hR0⟩:=bJ h0;refine kEx 0 (λ v39:Unit=>o38=.inl v39) (λ v39=>⟨[],[]⟩) (λ v39 hv=>?_) ?_
  ·exact eW
  refine lG (λ (Zk:Int)=>⟨[(0,.p (eS O')),(3,.p (eI Zk))],[]⟩) (λ m (Zk:Int)=>dw O' m Zk) Y 0 h1 (gE rfl rfl) ?_;rintro m i20 h1;replace h1:dw O' (m+1) i20=some o38:=h1;rw [dw] at h1;have:=js [600];have:=jS 600 Bool λ v=>[(39,.p (eB v))]
  exact aB
 exact aB
end Go.Ab.R06
end
section
namespace Go.Ab.R06
open Go.Ab Go.Ab.RB Go.Lib
theorem GP {src:Bk->SE⊕Bk}{l:Bk}(hs:∀ r e,src r=.inl e->e.1≠0){e:SE}(h:my src l=.inl e):e.1≠0:=by
 cases l with
 | nil=>cases h; decide
 | cons b r=>
  rw [jc] at h;split at h
  ·split at h
   ·cases h; exact (by decide:(7:Int)≠0)
   ·cases h
  split at h
  ·cases h
  split at h
  ·cases h
  split at h
  ·split at h
   ·rename_i e' he; cases h; exact hs _ _ he
   ·cases h
  split at h
  ·cases h; exact (by decide:(2:Int)≠0)
  ·cases h
theorem JN:∀ (f k:Nat),(∀ l e,ig f k l=.inl e->e.1≠0)/\(∀ n l e,mB f k n l=.inl e->e.1≠0)
 | 0,k=>⟨λ l e h=>(by rw [ig] at h; cases h; decide),λ n l e h=>(by rw [mB] at h; cases h; decide)⟩
 | f+1,k=>by
  have ih:=JN f;constructor
  ·intro l e h
   cases l with
   | nil=>rw [ig] at h; cases h; decide
   | cons b r=>
    rw [oy] at h;split at h
    ·cases h
    split at h
    ·exact (ih k).1 _ _ h
    split at h
    ·split at h
     ·cases h; exact (by decide:(4:Int)≠0)
     ·split at h
      ·rename_i e' he; cases h; exact (ih (k+1)).2 _ _ _ he
      ·exact (ih k).1 _ _ h
    split at h
    ·cases h; decide
    ·split at h
     ·cases h; exact (by decide:(2:Int)≠0)
     ·exact (ih k).1 _ _ h
  ·intro n l e h;rw [oL] at h;generalize fw false l=l0 at h
   cases l0 with
   | nil=>cases h; decide
   | cons b r=>
    rw [lH] at h
    cases hq:my (ig f k) (b::r) with
    | inl e'=>rw [hq] at h; cases h; exact GP (ih k).1 hq
    | inr z=>
     obtain ⟨c,t,l'⟩:=z;rw [hq,qm] at h;split at h
     ·split at h
      ·cases h
      ·exact (ih k).2 _ _ _ h
     split at h
     ·exact (ih k).2 _ _ _ h
     ·exact (ih k).2 _ _ _ h
end Go.Ab.R06
end
section
namespace Go.Ab.R06
open Go.Proofs Go.Ab Go.Ab.RB
set_option maxRecDepth 4000
attribute [local irreducible] awp iH bu bA cj AV.sub M cN
def a6 (Vu:Int):Option Bool :=(if Vu=12 then some true else some (decide (Vu=13))).bind λ t2=>some t2
instance OH (Vu:Int):∀ (r:Bool),HP (a6 Vu=some r) Tryz.prog 131 [eI Vu] (.p (eB r)):=by
 refine hP good Tryz.func131 Z Z λ r h0 _ w0=>?_;unfold a6 at h0;exact mM
def bB (Vu:Int):Option Bool :=(if Vu=3 then some true else if Vu=4 then some true else if Vu=9 then some true else(a6 Vu).bind λ r4=>some r4).bind λ t6=>some t6
instance KG (Vu:Int):∀ (r:Bool),HP (bB Vu=some r) Tryz.prog 104 [eI Vu] (.p (eB r)):=by
 refine hP good Tryz.func104 Z Z λ r h0 _ w0=>?_;unfold bB at h0;exact mM
def gb (Vu:Int)(n_1:Int):Option Bool :=(if Vu=1 then some true else some (decide (Vu=3))).bind λ t2=>if t2=true then some (decide (n_1=0))else if Vu=2 then some (decide (1<=n_1))else(if Vu=4 then some true else some (decide (Vu=6))).bind λ t6=>if t6=true then some (decide (n_1=1))else(if Vu=5 then some true else some (decide (Vu=7))).bind λ t9=>if t9=true then some (decide (n_1=2))else if Vu=8 then some (decide (n_1=3))else(if Vu=9 then some true else some (decide (Vu=10))).bind λ t13=>if t13=true then some true else if Vu=11 then ck ((2:Int)≠0)<|some (decide (n_1.tmod 2=0))else if Vu=12 then(if n_1=2 then some true else some (decide (n_1=3))).bind λ Vz=>some Vz else if Vu=13 then(if n_1=3 then some true else some (decide (n_1=4))).bind λ ZZ=>some ZZ else some false
instance OJ (Vu:Int) (n_1:Int):∀ (r:Bool),HP (gb Vu n_1=some r) Tryz.prog 130 [eI Vu,eI n_1] (.p (eB r)):=by
 refine hP good Tryz.func130 Z Z λ r h0 _ w0=>?_;unfold gb at h0;refine nx 11 Z (bd h0 λ WX h1 h0=>?_);refine kN WX (λ V8=>⟨[(1,.p (eI n_1)),(5,.p (eI Vu)),(6,.p (eB V8))],[]⟩) ?_ ?_
 ·refine nx 1 Z (fB [6] h0 Z (λ c3 h0=>?_) λ c3 h0=>?_)
  ·exact J0
  refine nx 6 Z (fD [11,12] h0 Z (λ c4 h0=>?_) λ c4 h0=>?_)
  ·exact J0
  refine nx 2 Z (bd h0 λ ZM h1 h0=>?_);refine kN ZM (λ Zd=>⟨[(1,.p (eI n_1)),(5,.p (eI Vu)),(15,.p (eB Zd))],[]⟩) ?_ ?_
  ·refine nx 1 Z (fB [15] h0 Z (λ c7 h0=>?_) λ c7 h0=>?_)
   ·exact J0
   refine nx 2 Z (bd h0 λ o33 h1 h0=>?_);refine kN o33 (λ v34=>⟨[(1,.p (eI n_1)),(5,.p (eI Vu)),(20,.p (eB v34))],[]⟩) ?_ ?_
   ·refine nx 1 Z (fB [20] h0 Z (λ c10 h0=>?_) λ c10 h0=>?_)
    ·exact J0
    refine nx 6 Z (fD [25,26] h0 Z (λ Xa h0=>?_) λ Xa h0=>?_)
    ·exact J0
    refine nx 2 Z (bd h0 λ o35 h1 h0=>?_);refine kN o35 (λ ZS=>⟨[(1,.p (eI n_1)),(5,.p (eI Vu)),(29,.p (eB ZS))],[]⟩) ?_ ?_
    ·refine nx 1 Z (fB [29] h0 Z (λ Yb h0=>?_) λ Yb h0=>?_)
     ·exact J0
     refine nx 6 Z (fD [32,33] h0 Z (λ c15 h0=>?_) λ c15 h0=>?_)
     ·refine nx 4 Z (cc' h0 λ Xk h0=>?_);refine mO Z (Jb Z Z Z Z Z Z Xk ?_);exact J0
     have:=js [2100,2300];have:=jS 2100 Bool λ v=>[(4,.p (eB v))]
     have:=jS 2300 Bool λ v=>[(4,.p (eB v))]
     exact J0
    exact aB
   exact aB
  exact aB
 exact aB
def ik (UZ:ag):Option Bool :=(if UZ.Ar=0 then if UZ.G'=0 then if UZ.D'=([]:Bk) then if (UZ.Gw.length:Int)=0 then some (decide ((UZ.F'.length:Int)=0))else some false else some false else some false else some false).bind λ t5=>some t5
instance OB (UZ:ag):∀ (r:Bool),HP (ik UZ=some r) Tryz.prog 132 [.agg (ag.cs UZ)] (.p (eB r)):=by
 refine hP good Tryz.func132 Z Z λ r h0 _ w0=>?_;unfold ik at h0;exact mM
def fQ (US:ab):Option Bool :=((gb US.Ar (US.A'.length:Int)).bind λ r1=>if (!r1)=true then some true else(a6 US.Ar).bind λ r4=>if (!r4)=true then if US.It=([]:Bk) then(bB US.Ar).bind λ r8=>if (!r8)=true then some (!decide (US.AT=([]:Bk)))else some false else some true else(bB US.Ar).bind λ WV=>if (!WV)=true then some (!decide (US.AT=([]:Bk)))else some false).bind λ Vy=>if Vy=true then some false else if US.Ar=1 then(if US.fOp=0 then if US.BY.Ar=0 then some true else if US.BY.Ar=1 then some true else if US.BY.Ar=3 then some true else if US.BY.Ar=2 then some (decide (0<=US.BY.G'))else some false else some false).bind λ ZZ=>some ZZ else(ik US.BY).bind λ VC=>if (!VC)=true then some false else if US.Ar=6 then(if US.fOp=1 then some true else some (decide (US.fOp=2))).bind λ Zf=>some Zf else if US.Ar=7 then(if 3<=US.fOp then some (decide (US.fOp<=15))else some false).bind λ t31=>some t31 else some (decide (US.fOp=0))
instance I2 (US:ab):∀ (r:Bool),HP (fQ US=some r) Tryz.prog 102 [.agg (ab.cs US)] (.p (eB r)):=by
 refine hP good Tryz.func102 Z Z λ r h0 _ w0=>?_;unfold fQ at h0;have:=js [100,500,1000,1200];have:=jS 100 Bool λ v=>[(32,.p (eB v))]
 have:=jS 500 Bool λ v=>[(2,.p (eB v))]
 have:=jS 1000 Bool λ v=>[(2,.p (eB v))]
 have:=jS 1200 Bool λ v=>[(2,.p (eB v))]
 exact J0
def ij (O':Bk):Option Bool :=(if O'=([110,117,108,108]:Bk) then some true else if O'=([116,114,117,101]:Bk) then some true else if O'=([102,97,108,115,101]:Bk) then some true else if O'=([102,111,114]:Bk) then some true else if O'=([105,110]:Bk) then some true else some (decide (O'=([105,102]:Bk)))).bind λ t6=>some t6
instance F3 (O':Bk):∀ (r:Bool),HP (ij O'=some r) Tryz.prog 105 [eS O'] (.p (eB r)):=by
 refine hP good Tryz.func105 Z Z λ r h0 _ w0=>?_;unfold ij at h0;exact mM
def qG (n:Nat)(O':Bk):Option Bool :=((du n O').bind λ r1=>if r1=true then(ij O').bind λ r4=>some (!r4)else some false).bind λ t6=>some t6
instance Or (n:Nat) (O':Bk):∀ (r:Bool),HP (qG n O'=some r) Tryz.prog 106 [eS O'] (.p (eB r)):=by
 refine hP good Tryz.func106 Z Z λ r h0 _ w0=>?_;unfold qG at h0;exact mM
def pg (n:Nat)(US:ab):Option Int :=(fQ US).bind λ r1=>if (!r1)=true then some 1 else if US.Ar=1 then(nU n US.BY).bind λ r5=>some r5 else((bB US.Ar).bind λ r7=>if r7=true then(du n US.AT).bind λ Vg=>if (!Vg)=true then some true else if US.Ar=4 then some false else(ij US.AT).bind λ Vl=>some Vl else some false).bind λ VX=>if VX=true then some 7 else(if US.It=([]:Bk) then some false else(qG n US.It).bind λ Yu=>some (!Yu)).bind λ t21=>if t21=true then some 7 else some 0
instance OA (n:Nat) (US:ab):∀ (r:Int),HP (pg n US=some r) Tryz.prog 73 [.agg (ab.cs US)] (.p (eI r)):=by
 refine hP good Tryz.func73 Z Z λ r h0 _ w0=>?_;unfold pg at h0;have:=js [500,700];have:=jS 500 Bool λ v=>[(30,.p (eB v))]
 have:=jS 700 Bool λ v=>[(39,.p (eB v))]
 exact J0
def cJ (We:ab->Int->Int->Option (Int×Int))(US:ab)(UU:Int):Nat->Int->Int->Int->Option (Int×Int)|0,_,_,_=>none|m+1,k17,n18,i19=>(if i19<(US.A'.length:Int) then some (decide (k17=0))else some false).bind λ t21=>if t21=true then ck ((0:Int)<=i19/\i19<(US.A'.length:Int))<|ck (inR (UU+1))<|(We (lat US.A' i19) (UU+1) n18).bind λ WR=>ck (inR (i19+1))<|cJ We US UU m WR.1 WR.2 (i19+1)else some (k17,n18)
def eq:Nat->ab->Int->Int->Option (Int×Int)|0,_,_,_=>none|n+1,US,UU,U5=>if 32<UU then some (4,0)else if 4096<=U5 then some (14,0)else(pg n US).bind λ r3=>ck (inR (U5+1))<|(cJ (eq n) US UU n r3 (U5+1) 0).bind λ q33=>some (q33.1,q33.2)
instance LG (n:Nat):∀ (US:ab) (UU:Int) (U5:Int) (r:Int×Int),HP (eq n US UU U5=some r) Tryz.prog 40 [.agg (ab.cs US),eI UU,eI U5] (.tuple [.p (eI r.1),.p (eI r.2)]):=by
 induction n with
 | zero=>exact Zr
 | succ n ih=>
 refine λ US UU U5=>hP good Tryz.func40 Z Z λ r h0 _ w0=>?_;rw [eq] at h0;refine nx 12 Z (fD [12] h0 Z (λ c1 h0=>?_) λ c1 h0=>?_)
 ·exact J0
 refine nx 8 Z (fD [14] h0 Z (λ c2 h0=>?_) λ c2 h0=>?_)
 ·exact J0
 refine nx 5 Z (K0 λ r3 h0=>nx 5 Z ?_);refine oA h0 Z Z λ X4 h0=>nx 8 Z (bd h0 λ o35 h1 h0=>?_);refine kE 0 o35 (λ ZS=>⟨[(8,.p (eI ZS.1)),(9,.p (eI ZS.2))],[]⟩) ?_ ?_
 ·exact J0
 refine lG (λ (Zl:Int×Int×Int)=>⟨[(1,.p (eI UU)),(3,.ptr 3 0),(8,.p (eI Zl.1)),(9,.p (eI Zl.2.1)),(10,.p (eI Zl.2.2))],[(3,(ab.cs US).map .p)]⟩) (λ m (Zl:Int×Int×Int)=>cJ (eq n) US UU m Zl.1 Zl.2.1 Zl.2.2) Y (r3,U5+1,0) h1 (gE rfl rfl) ?_;rintro m ⟨k17,n18,i19⟩ h1;replace h1:cJ (eq n) US UU (m+1) k17 n18 i19=some o35:=h1;rw [cJ] at h1;have:=js [800];have:=jS 800 Bool λ v=>[(27,.p (eB v))]
 exact aB
def lC (n:Nat)(US:ab):Option Int :=(eq n US 1 0).bind λ r1=>some r1.1
instance L0 (n:Nat) (US:ab):∀ (r:Int),HP (lC n US=some r) Tryz.prog 15 [.agg (ab.cs US)] (.p (eI r)):=by
 refine hP good Tryz.func15 Z Z λ r h0 _ w0=>?_;unfold lC at h0;exact J0
def eR (Wg:ab->Option Int)(US:ab):Nat->Int->Int->Option Int|0,_,_=>none|m+1,n9,i10=>if i10<(US.A'.length:Int) then ck ((0:Int)<=i10/\i10<(US.A'.length:Int))<|(Wg (lat US.A' i10)).bind λ Ye=>ck (inR (n9+Ye))<|ck (inR (i10+1))<|eR Wg US m (n9+Ye) (i10+1)else some n9
def gG:Nat->ab->Option Int|0,_=>none|n+1,US=>(eR (gG n) US n 1 0).bind λ n19=>some n19
instance NT (n:Nat):∀ (US:ab) (r:Int),HP (gG n US=some r) Tryz.prog 74 [.agg (ab.cs US)] (.p (eI r)):=by
 induction n with
 | zero=>exact Zr
 | succ n ih=>
 refine λ US=>hP good Tryz.func74 Z Z λ r h0 _ w0=>?_;rw [gG] at h0;refine nx 15 Z (bd h0 λ o21 h1 h0=>?_);refine kE 0 o21 (λ v22=>⟨[(3,.p (eI v22))],[]⟩) ?_ ?_
 ·exact J0
 refine lG (λ (q23:Int×Int)=>⟨[(1,.ptr 1 0),(3,.p (eI q23.1)),(4,.p (eI q23.2))],[(1,(ab.cs US).map .p)]⟩) (λ m (q23:Int×Int)=>eR (gG n) US m q23.1 q23.2) Y (1,0) h1 (gE rfl rfl) ?_;rintro m ⟨n9,i10⟩ h1;replace h1:eR (gG n) US (m+1) n9 i10=some o21:=h1;rw [eR] at h1;exact aB
def eF (Wp:ab->Int->Int->Option Int)(US:ab)(levels_2:Int):Nat->Int->Int->Option Int|0,_,_=>none|m+1,nodes13,i14=>(if i14<(US.A'.length:Int) then some (decide (0<=nodes13))else some false).bind λ VX=>if VX=true then ck ((0:Int)<=i14/\i14<(US.A'.length:Int))<|ck (inR (levels_2-1))<|(Wp (lat US.A' i14) nodes13 (levels_2-1)).bind λ VH=>ck (inR (i14+1))<|eF Wp US levels_2 m VH (i14+1)else some nodes13
def gZ:Nat->ab->Int->Int->Option Int|0,_,_,_=>none|n+1,US,nodes_1,levels_2=>if levels_2<=0 then some (-1)else ck (inR (nodes_1-1))<|(eF (gZ n) US levels_2 n (nodes_1-1) 0).bind λ nodes25=>some nodes25
instance Oz (n:Nat):∀ (US:ab) (nodes_1:Int) (levels_2:Int) (r:Int),HP (gZ n US nodes_1 levels_2=some r) Tryz.prog 39 [.agg (ab.cs US),eI nodes_1,eI levels_2] (.p (eI r)):=by
 induction n with
 | zero=>exact Zr
 | succ n ih=>
 refine λ US nodes_1 levels_2=>hP good Tryz.func39 Z Z λ r h0 _ w0=>?_;rw [gZ] at h0;refine nx 11 Z (fD [9] h0 Z (λ c1 h0=>?_) λ c1 h0=>?_)
 ·exact J0
 refine nx 5 Z (oA h0 Z Z λ WZ h0=>?_);refine nx 8 Z (bd h0 λ Y6 h1 h0=>?_);refine kE 0 Y6 (λ Yp=>⟨[(1,.p (eI Yp))],[]⟩) ?_ ?_
 ·exact J0
 refine lG (λ (XW:Int×Int)=>⟨[(1,.p (eI XW.1)),(2,.p (eI levels_2)),(3,.ptr 3 0),(7,.p (eI XW.2))],[(3,(ab.cs US).map .p)]⟩) (λ m (XW:Int×Int)=>eF (gZ n) US levels_2 m XW.1 XW.2) Y (nodes_1-1,0) h1 (gE rfl rfl) ?_;rintro m ⟨nodes13,i14⟩ h1;replace h1:eF (gZ n) US levels_2 (m+1) nodes13 i14=some Y6:=h1;rw [eF] at h1;have:=js [500];have:=jS 500 Bool λ v=>[(20,.p (eB v))]
 exact aB
def lD (n:Nat)(US:ab)(nodes_1:Int):Option Bool :=(gZ n US nodes_1 40).bind λ r1=>some (decide (0<=r1))
instance Kw (n:Nat) (US:ab) (nodes_1:Int):∀ (r:Bool),HP (lD n US nodes_1=some r) Tryz.prog 14 [.agg (ab.cs US),eI nodes_1] (.p (eB r)):=by
 refine hP good Tryz.func14 Z Z λ r h0 _ w0=>?_;unfold lD at h0;exact J0
end Go.Ab.R06
end
section
namespace Go.Ab.R06
open Go.Ab Go.Ab.RB Go.Lib
theorem ckT {α:Type}(x:Option α):ck True x=x:=cM trivial
theorem Pv (v:ag)(h:v.Gw.length+v.F'.length<=1000000000000000):lJ v=ik v:=by
 unfold lJ ik;by_cases h1:v.Ar=0
 ·by_cases h2:v.G'=0
  ·by_cases h3:v.D'=[]
   ·simp only [if_pos h1,if_pos h2,if_pos h3];rw [cM aV];by_cases h4:(v.Gw.length:Int)=0
    ·rw [if_pos h4];simp only [rg,bx,decide_eq_decide]; omega
    ·rw [if_neg h4];simp only [rg,bx,decide_eq_false_iff_not]; omega
   ·simp only [if_pos h1,if_pos h2,if_neg h3]
  ·simp only [if_pos h1,if_neg h2]
 ·simp only [if_neg h1]
theorem Rn (v:ag):∃ b,ik v=some b:=by
 unfold ik
 repeat' split
 all_goals exact ⟨_,Z⟩
theorem zj (e:ab)(h:e.BY.Gw.length+e.BY.F'.length<=1000000000000000):jh e=fQ e:=by
 obtain ⟨z,hz⟩:=Rn e.BY;have hz':=(Pv e.BY h).trans hz;unfold jh fQ kK;rw [hz,hz']
 clear hz hz' h
 have hk0:0<=(e.A'.length:Int):=by omega
 have hp:(e.A'.length:Int).tmod 2=0\/(e.A'.length:Int).tmod 2=1:=by
  have:=Int.emod_two_eq (e.A'.length:Int)
  rwa [Int.tmod_eq_emod_of_nonneg hk0]
 generalize (e.A'.length:Int)=m at hk0 hp ⊢;generalize e.Ar=k;generalize e.fOp=op;generalize e.BY.Ar=vk;generalize e.BY.G'=vn;generalize e.AT=name;generalize e.It=key;by_cases hr:k<1\/13<k
 ·have e2:gb k m=some false:=by
   unfold gb;simp only [show ¬ k=1 by omega,show ¬ k=2 by omega,show ¬ k=3 by omega,show ¬ k=4 by omega,show ¬ k=5 by omega,show ¬ k=6 by omega,show ¬ k=7 by omega,show ¬ k=8 by omega,show ¬ k=9 by omega,show ¬ k=10 by omega,show ¬ k=11 by omega,show ¬ k=12 by omega,show ¬ k=13 by omega,if_false,decide_false,rg,Bool.false_eq_true]
  rw [e2];by_cases q:k<1
  ·rw [if_pos q]; rfl
  ·rw [if_neg q,if_pos O]; rfl
 ·have hk:k=1\/k=2\/k=3\/k=4\/k=5\/k=6\/k=7\/k=8\/k=9\/k=10\/k=11\/k=12\/k=13:=by omega
  unfold lh mL su gb a6 bB;unfold a6;by_cases hn:name=[] <;> by_cases hke:key=[] <;> cases z <;> rcases hp with hp|hp
  all_goals (rcases hk with rfl|rfl|rfl|rfl|rfl|rfl|rfl|rfl|rfl|rfl|rfl|rfl|rfl)
  all_goals (simp [hn,hke,hp,ckT]; try done)
  all_goals (repeat' split)
  all_goals (try (simp_all; done))
  all_goals (try omega)
  all_goals (try simp_all)
  all_goals (repeat' split)
  all_goals (try (simp_all; done))
  all_goals (try omega)
end Go.Ab.R06
end
section
namespace Go.Ab.R06
open Go.Ab Go.Ab.RB
variable {p:Prop}
theorem MF (h:p:=by
 refine aH (λ h3=>ac (mk _ ?_)) (λ h3=>am O (aH (λ h4=>ac (mk _ ?_)) (λ h4=>am O (ac (mk _ ?_)))))
 ·simp; omega
 ·simp; omega
 ·rw [decide_eq_true_eq]; omega):p:=h
theorem K6 (s:Bk)(hs:s.length<=1000000000000000):∀ (k i:Nat),i+k=s.length->Ev2 (λ _ m=>dK s m (i:Int)) (·=if pF (tP s) i k then .inl () else .inr false):=by
 intro k
 induction k with
 | zero=>
  intro i hi;refine aM ?_;simp only [dK];refine ar O (ac rfl)
 | succ k ih=>
  intro i hi;refine aM ?_;simp only [dK];refine ap O (am O ?_);have hb:byt s i=((s.getD i 0).toNat:Int):=f0 s i;rw [hb];have hor:=Ji (s.getD i 0);have hok:=nH s i;rw [rW,ns] at hok;refine ak (!tP s i) ?_ ?_
  ·generalize s.getD i 0=b at hor hok ⊢;generalize tP s i=o at hok ⊢;generalize iOr .u8 ((b.toNat:Nat):Int) 32=v at hor ⊢;have hT:(kD b=true)->o=true:=λ h=>hok.2 (.inl ((rW b).1 h));have mk:∀ x:Bool,(x=true↔¬ (((97<=b.toNat/\b.toNat<=122)\/(65<=b.toNat/\b.toNat<=90)\/b.toNat=95)\/(i≠0/\48<=b.toNat/\b.toNat<=57)))->x=!o:=λ x hx=>eqB (by rw [hx,<- hok]; simp);refine am O (aH (λ h=>ac (mk _ ?_)) (λ h=>aH (λ h1=>?_) (λ h1=>aH (λ h2=>?_) (λ h2=>ac (mk _ ?_)))))
   ·simp; omega
   ·exact MF
   ·exact MF
   ·simp; omega
  ·cases hk:tP s i with
   | false=>exact ap G (ac (by simp [pF,hk]))
   | true=>
    refine ar G (am aV ?_);have:=ih (i+1) O;rw [Int.natCast_add,Int.natCast_one] at this;simpa [pF,hk] using this
theorem Cv (s:Bk)(hs:s.length<=1000000000000000):Ev2 (λ n _=>iy n s) (·=bW s):=by
 simp only [iy];have h:=K6 s hs s.length 0 O;have hi:=mV s
 cases ha:pF (tP s) 0 s.length with
 | false=>
  rw [ha] at h hi;refine kt false (bc h) (eqB ?_);rw [hi]; simp
 | true=>
  rw [ha] at h hi;refine ez () (bc h) ?_;refine aW (·=bW s) (aH (λ h=>ac (eqB ?_)) (λ h=>ac (eqB ?_))) (λ t ht=>ac ht)
  ·rw [hi]; simp [h]
  ·rw [hi,decide_eq_true_eq]; simp [h]; omega
theorem GT (b:UInt8):kj (b.toNat:Int)=some (kD b):=by
 simp only [kj];have h:=rW b;generalize kD b=o at h ⊢;have mk:∀ x:Bool,(x=true↔(97<=b.toNat/\b.toNat<=122)\/(65<=b.toNat/\b.toNat<=90)\/b.toNat=95)->some x=some o:=λ x hx=>congrArg some (eqB (by rw [hx,h]))
 repeat' split
 all_goals (simp only [rg]; apply mk; first|(rw [decide_eq_true_eq]; omega)|(simp; omega))
theorem Io (s:Bk)(hs:s.length<=1000000000000000):∀ (k i:Nat),i+k=s.length->Ev2 (λ _ m=>dw s m (i:Int)) (·=if pF (λ j=>idB (s.getD j 0)) i k then .inl () else .inr false):=by
 intro k
 induction k with
 | zero=>
  intro i hi;refine aM ?_;simp only [dw];refine ar O (ac rfl)
 | succ k ih=>
  intro i hi;refine aM ?_;simp only [dw];refine ap O ?_;have hb:byt s i=((s.getD i 0).toNat:Int):=f0 s i;rw [hb];refine ak (!idB (s.getD i 0)) ?_ ?_
  ·refine am O (ak _ (aA (GT _) Z) ?_);have h:=ns (s.getD i 0);simp only [idB];generalize s.getD i 0=b at h ⊢
   cases hl:kD b with
   | true=>exact ar G (ac G)
   | false=>
    refine ap G (am O (aH (λ h1=>ac ?_) (λ h1=>am O (ac ?_))))
    ·have:hQ b=false:=by rw [<- Bool.not_eq_true,h]; omega
     simp [this]
    ·refine eqB ?_;rw [decide_eq_true_eq,Bool.false_or,Bool.not_eq_true',<- Bool.not_eq_true,h];omega
  ·cases hk:idB (s.getD i 0) with
   | false=>exact ap Z (ac (by simp only [pF,hk,Bool.false_and]; rfl))
   | true=>
    refine ar G (am aV ?_);have:=ih (i+1) O;rw [Int.natCast_add,Int.natCast_one] at this;simp only [pF,hk,Bool.true_and];exact this
theorem vp (s:Bk)(hs:s.length<=1000000000000000):Ev2 (λ n _=>du n s) (·=bW s):=by
 simp only [du];have hi:=C5 s;refine ak (decide (s=[])||decide (64<(s.length:Int))||!kD (s.getD 0 0)) ?_ ?_
 ·refine aH (λ h=>ac (by simp [h])) (λ h=>aH (λ h1=>ac (by simp [h1])) (λ h1=>am ?_ ?_))
  ·have:=List.length_pos_iff.2 h; omega
  ·refine ak (kD (s.getD 0 0)) (aA (GT _) Z) (ac ?_);have:decide (64<(s.length:Int))=false:=decide_eq_false h1;simp [h,this]
 ·refine aH (λ h=>ac (eqB ?_)) (λ h=>?_)
  ·rw [hi]; simp at h ⊢; intro q1 q2 q3;rcases h with (h|h)|h
   ·exact absurd h q1
   ·omega
   ·rw [h] at q3; cases q3
  ·have l:=Io s hs s.length 0 O;simp only [Bool.or_eq_true,decide_eq_true_eq,not_or] at h;obtain ⟨⟨h1,h2⟩,h3⟩:=h;have h3:kD (s.getD 0 0)=true:=by simpa using h3
   cases ha:pF (λ j=>idB (s.getD j 0)) 0 s.length with
   | false=>
    rw [ha] at l hi;refine kt false (bc l) (eqB ?_);rw [hi]; simp
   | true=>
    rw [ha] at l hi;refine ez () (bc l) (ac (eqB ?_));rw [hi]; simp only [true_iff];exact ⟨h1,by omega,h3,trivial⟩
end Go.Ab.R06
end
section
namespace Go.Ab.R06
open Go.Ab Go.Ab.RB Go.Lib
variable {p:Prop}
theorem MN (h:p:=by
 rw [if_neg O]
 symm; rw [bx,decide_eq_false_iff_not]
 intro q; exact q2 q.2.1):p:=h
theorem Ag (h:p:=by
 rw [if_neg O,if_neg q]):p:=h
theorem J3 (h:p:=by
 rw [if_neg O]
 symm; rw [bx,decide_eq_false_iff_not]
 intro q; exact q1 q.1):p:=h
theorem Bf (h:p:=by
 rw [if_pos O,if_pos q]):p:=h
theorem Jz (h:p:=by
 rw [if_neg (by simp only [decide_eq_true_eq]; exact q3)]
 symm; rw [bx,decide_eq_false_iff_not]
 intro q; exact q3 q.2.2.1):p:=h
theorem t31:(List.range 256).all (λ n=>cV .u8 (n:Int) 31==((n%32:Nat):Int))=true:=by kernel_rfl
theorem t15:(List.range 256).all (λ n=>cV .u8 (n:Int) 15==((n%16:Nat):Int))=true:=by kernel_rfl
theorem t7:(List.range 256).all (λ n=>cV .u8 (n:Int) 7==((n%8:Nat):Int))=true:=by kernel_rfl
theorem or64 (a b:Nat)(ha:a<4611686018427387904)(hb:b<4611686018427387904):iOr .i64 (a:Int) (b:Int)=((a ||| b:Nat):Int):=by
 have hlt:a ||| b<4611686018427387904:=Nat.or_lt_two_pow (n:=62) ha hb
 have e1:(BitVec.ofInt 64 (a:Int)).toNat=a:=by
  grind
 have e2:(BitVec.ofInt 64 (b:Int)).toNat=b:=by
  grind
 show IntKind.wrap .i64 (((BitVec.ofInt 64 (a:Int)) ||| (BitVec.ofInt 64 (b:Int))).toNat:Nat)=_
 grind [IntKind.wrap,IntKind.bits]
theorem zA (a b k:Nat)(ha:a*2^k<4611686018427387904)(hb:b<2^k)(hk:k<=20):iOr .i64 ((a*2^k:Nat):Int) (b:Int)=((a*2^k+b:Nat):Int):=by
 have hp:2^k<=2^20:=Nat.pow_le_pow_right (by decide) hk;have h20:(2:Nat)^20=1048576:=rfl;rw [or64 _ _ ha O];have:=Nat.shiftLeft_add_eq_or_of_lt hb a
 grind [Nat.shiftLeft_eq]
theorem y8 (a k:Nat)(hk:k<=20)(ha:a*2^k<4611686018427387904):mX .i64 (a:Int) (k:Int)=((a*2^k:Nat):Int):=by
 grind [mX,IntKind.wrap,IntKind.bits]
def TV (l:Bk):Int×Int:=if (decodeL l).1=65533/\(decodeL l).2=1 then (0,0) else (((decodeL l).1:Int),((decodeL l).2:Int))
theorem Ra (s:Bk)(j:Nat)(lo hi:Int):eY s (j:Int) lo hi=some (decide (j<s.length/\lo<=((s.getD j 0).toNat:Int)/\((s.getD j 0).toNat:Int)<=hi)):=by
 grind [eY,f0,cM]
set_option maxHeartbeats 8000000 in
theorem DX (s:Bk)(i:Nat)(hi:i<s.length)(hs:s.length<=1000000000):mq s (i:Int)=some (TV (s.drop i)):=by
 have hg:∀ k,(s.drop i).getD k 0=s.getD (i+k) 0:=λ k=>by
  rw [List.getD_eq_getElem?_getD,List.getElem?_drop,List.getD_eq_getElem?_getD]
 unfold mq TV;rw [decodeL_N,hg,hg,hg,hg,Nat.add_zero,List.length_drop]
 have b:∀ k:Nat,byt s ((i:Int)+k)=((s.getD (i+k) 0).toNat:Int):=λ k=>by
  rw [show (i:Int)+(k:Int)=((i+k:Nat):Int) by omega]; exact f0 s (i+k)
 have c:∀ (k:Nat) lo hi,eY s ((i:Int)+k) lo hi=some (decide (k<s.length-i/\lo<=((s.getD (i+k) 0).toNat:Int)/\((s.getD (i+k) 0).toNat:Int)<=hi)):=λ k lo hi=>by
  rw [show (i:Int)+(k:Int)=((i+k:Nat):Int) by omega,Ra];refine congrArg some (eqB ?_);rw [decide_eq_true_eq,decide_eq_true_eq];constructor
  ·rintro ⟨h1,h2⟩; exact ⟨by omega,h2⟩
  ·rintro ⟨h1,h2⟩; exact ⟨by omega,h2⟩
 have b0:byt s (i:Int)=((s.getD i 0).toNat:Int):=f0 s i;have b1:byt s ((i:Int)+1)=((s.getD (i+1) 0).toNat:Int):=b 1;have b2:byt s ((i:Int)+2)=((s.getD (i+2) 0).toNat:Int):=b 2;have b3:byt s ((i:Int)+3)=((s.getD (i+3) 0).toNat:Int):=b 3;have c1:∀ lo hi,eY s ((i:Int)+1) lo hi=_:=c 1;have c2:∀ lo hi,eY s ((i:Int)+2) lo hi=_:=c 2;have c3:∀ lo hi,eY s ((i:Int)+3) lo hi=_:=c 3;simp only [b0,b1,b2,b3,c1,c2,c3];obtain ⟨n,hn⟩:∃ n,s.length=i+n:=⟨s.length-i,by omega⟩
 have hn1:s.length-i=n:=by omega
 have Pn:(s.length:Int)=(i:Int)+n:=by omega
 rw [hn1,Pn];have l0:=(s.getD i 0).toNat_lt;have l1:=(s.getD (i+1) 0).toNat_lt;have l2:=(s.getD (i+2) 0).toNat_lt;have l3:=(s.getD (i+3) 0).toNat_lt;generalize (s.getD i 0).toNat=B0 at l0 ⊢;generalize (s.getD (i+1) 0).toNat=B1 at l1 ⊢;generalize (s.getD (i+2) 0).toNat=B2 at l2 ⊢;generalize (s.getD (i+3) 0).toNat=B3 at l3 ⊢;have hnp:0<n:=by omega
 have Xi:n<=1000000000:=by omega
 have hib:i<=1000000000:=by omega
 clear hg b c b0 b1 b2 b3 c1 c2 c3 hn1 Pn hn hi hs
 have a31:cV .u8 (B0:Int) 31=((B0%32:Nat):Int):=tab t31 B0 O;have a15:cV .u8 (B0:Int) 15=((B0%16:Nat):Int):=tab t15 B0 O;have a7:cV .u8 (B0:Int) 7=((B0%8:Nat):Int):=tab t7 B0 O;have a1:cV .u8 (B1:Int) 63=((B1%64:Nat):Int):=tab t63 B1 O;have a2:cV .u8 (B2:Int) 63=((B2%64:Nat):Int):=tab t63 B2 O;have a3:cV .u8 (B3:Int) 63=((B3%64:Nat):Int):=tab t63 B3 O
 have two:iOr .i64 (mX .i64 ((B0%32:Nat):Int) 6) ((B1%64:Nat):Int)=((B0%32*64+B1%64:Nat):Int):=by
  have h1:mX .i64 ((B0%32:Nat):Int) 6=((B0%32*2^6:Nat):Int):=y8 _ 6 (by decide) O;rw [h1];exact zA _ _ 6 O O  (by decide)
 have three:iOr .i64 (iOr .i64 (mX .i64 ((B0%16:Nat):Int) 12) (mX .i64 ((B1%64:Nat):Int) 6)) ((B2%64:Nat):Int)=((B0%16*4096+B1%64*64+B2%64:Nat):Int):=by
  have h1:mX .i64 ((B0%16:Nat):Int) 12=((B0%16*2^12:Nat):Int):=y8 _ 12 (by decide) O;have h2:mX .i64 ((B1%64:Nat):Int) 6=((B1%64*2^6:Nat):Int):=y8 _ 6 (by decide) O;have h3:=zA (B0%16) (B1%64*2^6) 12 O O  (by decide);have h4:=zA (B0%16*64+B1%64) (B2%64) 6 O O  (by decide);rw [h1,h2,h3,show B0%16*2^12+B1%64*2^6=(B0%16*64+B1%64)*2^6 by omega,h4]
 have four:iOr .i64 (iOr .i64 (iOr .i64 (mX .i64 ((B0%8:Nat):Int) 18) (mX .i64 ((B1%64:Nat):Int) 12)) (mX .i64 ((B2%64:Nat):Int) 6)) ((B3%64:Nat):Int)=((B0%8*262144+B1%64*4096+B2%64*64+B3%64:Nat):Int):=by
  have h1:mX .i64 ((B0%8:Nat):Int) 18=((B0%8*2^18:Nat):Int):=y8 _ 18 (by decide) O;have h2:mX .i64 ((B1%64:Nat):Int) 12=((B1%64*2^12:Nat):Int):=y8 _ 12 (by decide) O;have h2':mX .i64 ((B2%64:Nat):Int) 6=((B2%64*2^6:Nat):Int):=y8 _ 6 (by decide) O;have h3:=zA (B0%8) (B1%64*2^12) 18 O O  (by decide);have h4:=zA (B0%8*64+B1%64) (B2%64*2^6) 12 O O  (by decide);have h5:=zA (B0%8*4096+B1%64*64+B2%64) (B3%64) 6 O O  (by decide);rw [h1,h2,h2',h3,show B0%8*2^18+B1%64*2^12=(B0%8*64+B1%64)*2^12 by omega,h4,show (B0%8*64+B1%64)*2^12+B2%64*2^6=(B0%8*4096+B1%64*64+B2%64)*2^6 by omega,h5]
 rw [a31,a15,a7,a1,a2,a3,two,three,four];have i1:inR ((i:Int)+1):=fL O O;have i2:inR ((i:Int)+2):=fL O O;have i3:inR ((i:Int)+3):=fL O O
 have e0:((if (i:Int)<0 then some true else some (decide ((i:Int)+n<=i))):Option Bool)=some false:=by
  rw [if_neg O]; simp; omega
 rw [e0,rg,if_neg G,cM O];unfold decodeN;by_cases h0:B0<128
 ·rw [if_pos (show (B0:Int)<128 by omega),cM aV,if_pos h0];simp only;rw [if_neg O]; rfl
 rw [if_neg (show ¬ (B0:Int)<128 by omega),if_neg h0]
 have YT:((if 194<=(B0:Int) then if (B0:Int)<=223 then ck (inR ((i:Int)+1))<|(some (decide (1<n/\(128:Int)<=(B1:Int)/\(B1:Int)<=191))).bind λ Vg=>some Vg else some false else some false):Option Bool)=some (decide (194<=B0/\B0<=223/\1<n/\128<=B1/\B1<=191)):=by
  by_cases q1:194<=B0
  ·rw [if_pos O];by_cases q2:B0<=223
   ·rw [if_pos O,cM i1,rg];refine congrArg some (eqB ?_);rw [decide_eq_true_eq,decide_eq_true_eq]; omega
   ·rw [if_neg O]; simp; omega
  ·rw [if_neg O]; simp; omega
 rw [YT,rg];by_cases h12:194<=B0/\B0<=223/\1<n/\128<=B1/\B1<=191
 ·rw [if_pos (by simp only [decide_eq_true_eq]; exact h12),cM aV,cM O,cM i1,cM O,cM aV];rw [if_pos (show B0 / 32=6/\1<n/\B1 / 64=2 by omega),if_pos (show B0%32*64+B1%64 >= 128 by omega)];show some _=some (if B0%32*64+B1%64=65533/\_ then _ else _);rw [if_neg O]; rfl
 rw [if_neg (by simp only [decide_eq_true_eq]; exact h12)]
 have hlo:((if (B0:Int)=224 then some 160 else some 128):Option Int)=some (if B0=224 then 160 else 128):=by
  by_cases q:B0=224
  ·exact Bf
  ·exact Ag
 have hhi:((if (B0:Int)=237 then some 159 else some 191):Option Int)=some (if B0=237 then 159 else 191):=by
  by_cases q:B0=237
  ·exact Bf
  ·exact Ag
 have hlo4:((if (B0:Int)=240 then some 144 else some 128):Option Int)=some (if B0=240 then 144 else 128):=by
  by_cases q:B0=240
  ·exact Bf
  ·exact Ag
 have hhi4:((if (B0:Int)=244 then some 143 else some 191):Option Int)=some (if B0=244 then 143 else 191):=by
  by_cases q:B0=244
  ·exact Bf
  ·exact Ag
 rw [hlo,rg,hhi,rg]
 have e32:∀ lo hi:Int,((if 224<=(B0:Int) then if (B0:Int)<=239 then ck (inR ((i:Int)+1))<|(some (decide (1<n/\lo<=(B1:Int)/\(B1:Int)<=hi))).bind λ VI=>if VI=true then ck (inR ((i:Int)+2))<|(some (decide (2<n/\(128:Int)<=(B2:Int)/\(B2:Int)<=191))).bind λ W0=>some W0 else some false else some false else some false):Option Bool)
   = some (decide (224<=B0/\B0<=239/\(1<n/\lo<=(B1:Int)/\(B1:Int)<=hi)/\2<n/\128<=B2/\B2<=191)):=by
  intro lo hi;by_cases q1:224<=B0
  ·rw [if_pos O];by_cases q2:B0<=239
   ·rw [if_pos O,cM i1,rg];by_cases q3:1<n/\lo<=(B1:Int)/\(B1:Int)<=hi
    ·rw [if_pos (by simp only [decide_eq_true_eq]; exact q3),cM i2,rg];refine congrArg some (eqB ?_);rw [decide_eq_true_eq,decide_eq_true_eq];constructor
     ·intro q; exact ⟨q1,q2,q3,by omega⟩
     ·intro q; have:=q.2.2.2; omega
    ·exact Jz
   ·exact MN
  ·exact J3
 rw [e32,rg];by_cases h32:224<=B0/\B0<=239/\(1<n/\(if B0=224 then 160 else 128)<=(B1:Int)/\(B1:Int)<=(if B0=237 then 159 else 191))/\2<n/\128<=B2/\B2<=191
 ·rw [if_pos (by simp only [decide_eq_true_eq]; exact h32)];obtain ⟨k1,k2,⟨k3,k4,k5⟩,k6,k7,k8⟩:=h32;have k4':128<=B1/\(B0=224->160<=B1):=by split at k4 <;> omega
  have k5':B1<=191/\(B0=237->B1<=159):=by split at k5 <;> omega
  clear k4 k5
  repeat rw [cM (by first|exact i1|exact i2|omega|exact fL O O)]
  rw [if_neg (show ¬ (B0 / 32=6/\1<n/\B1 / 64=2) by omega),if_pos (show B0 / 16=14/\(1<n/\B1 / 64=2)/\2<n/\B2 / 64=2 by omega),if_pos (show B0%16*4096+B1%64*64+B2%64 >= 2048/\(B0%16*4096+B1%64*64+B2%64<55296\/57344<=B0%16*4096+B1%64*64+B2%64/\B0%16*4096+B1%64*64+B2%64<=1114111) by omega)];show some _=some (if B0%16*4096+B1%64*64+B2%64=65533/\(3:Nat)=1 then _ else _);rw [if_neg O]; rfl
 rw [if_neg (by simp only [decide_eq_true_eq]; exact h32)];rw [hlo4,rg,hhi4,rg]
 have h32':¬ (224<=B0/\B0<=239/\1<n/\(B0=224->160<=B1)/\128<=B1/\B1<=191/\(B0=237->B1<=159)/\2<n/\128<=B2/\B2<=191):=by
  rintro ⟨k1,k2,k3,k4,k5,k6,k7,k8⟩;exact h32 ⟨k1,k2,⟨k3,by split <;> omega,by split <;> omega⟩,k8⟩
 clear h32 e32
 have e60:∀ lo hi:Int,((if 240<=(B0:Int) then if (B0:Int)<=244 then ck (inR ((i:Int)+1))<|(some (decide (1<n/\lo<=(B1:Int)/\(B1:Int)<=hi))).bind λ r50=>if r50=true then ck (inR ((i:Int)+2))<|(some (decide (2<n/\(128:Int)<=(B2:Int)/\(B2:Int)<=191))).bind λ WJ=>if WJ=true then ck (inR ((i:Int)+3))<|(some (decide (3<n/\(128:Int)<=(B3:Int)/\(B3:Int)<=191))).bind λ Wr=>some Wr else some false else some false else some false else some false):Option Bool)
   = some (decide (240<=B0/\B0<=244/\(1<n/\lo<=(B1:Int)/\(B1:Int)<=hi)/\(2<n/\128<=B2/\B2<=191)/\3<n/\128<=B3/\B3<=191)):=by
  intro lo hi;by_cases q1:240<=B0
  ·rw [if_pos O];by_cases q2:B0<=244
   ·rw [if_pos O,cM i1,rg];by_cases q3:1<n/\lo<=(B1:Int)/\(B1:Int)<=hi
    ·rw [if_pos (by simp only [decide_eq_true_eq]; exact q3),cM i2,rg];by_cases q4:2<n/\128<=B2/\B2<=191
     ·rw [if_pos (by simp only [decide_eq_true_eq]; omega),cM i3,rg];refine congrArg some (eqB ?_);rw [decide_eq_true_eq,decide_eq_true_eq];constructor
      ·intro q; exact ⟨q1,q2,q3,q4,by omega⟩
      ·intro q; have:=q.2.2.2.2; omega
     ·rw [if_neg (by simp only [decide_eq_true_eq]; omega)]
      symm; rw [bx,decide_eq_false_iff_not]
      intro q; exact q4 q.2.2.2.1
    ·exact Jz
   ·exact MN
  ·exact J3
 rw [e60,rg];by_cases h60:240<=B0/\B0<=244/\(1<n/\(if B0=240 then 144 else 128)<=(B1:Int)/\(B1:Int)<=(if B0=244 then 143 else 191))/\(2<n/\128<=B2/\B2<=191)/\3<n/\128<=B3/\B3<=191
 ·rw [if_pos (by simp only [decide_eq_true_eq]; exact h60)];obtain ⟨k1,k2,⟨k3,k4,k5⟩,⟨k6,k7,k8⟩,k9,k10,k11⟩:=h60;have k4':128<=B1/\(B0=240->144<=B1):=by split at k4 <;> omega
  have k5':B1<=191/\(B0=244->B1<=143):=by split at k5 <;> omega
  clear k4 k5
  repeat rw [cM (by first|exact i1|exact i2|exact i3|omega|exact fL O O)]
  rw [if_neg (show ¬ (B0 / 32=6/\1<n/\B1 / 64=2) by omega),if_neg (show ¬ (B0 / 16=14/\(1<n/\B1 / 64=2)/\2<n/\B2 / 64=2) by omega),if_pos (show B0 / 8=30/\(1<n/\B1 / 64=2)/\(2<n/\B2 / 64=2)/\3<n/\B3 / 64=2 by omega)];generalize hv:B0%8*262144+B1%64*4096+B2%64*64+B3%64=v;rw [if_pos (show v >= 65536/\(v<55296\/57344<=v/\v<=1114111) by omega)];show some _=some (if v=65533/\(4:Nat)=1 then _ else _);rw [if_neg O]; rfl
 rw [if_neg (by simp only [decide_eq_true_eq]; exact h60)]
 have h60':¬ (240<=B0/\B0<=244/\1<n/\(B0=240->144<=B1)/\128<=B1/\B1<=191/\(B0=244->B1<=143)/\2<n/\128<=B2/\B2<=191/\3<n/\128<=B3/\B3<=191):=by
  rintro ⟨k1,k2,k3,k4,k5,k6,k7,k8,k9,k10,k11⟩;exact h60 ⟨k1,k2,⟨k3,by split <;> omega,by split <;> omega⟩,⟨k8,k9,k10⟩,k11⟩
 clear h60 e60
 symm
 refine congrArg some (if_pos ?_)
 repeat' split
 all_goals first|exact ⟨Z,Z⟩|(exfalso; omega)
theorem HH (s:Bk)(hs:s.length<=1000000000):∀ (k i:Nat),s.length-i<k->i<=s.length->Ev2 (λ _ m=>ir s m (i:Int)) (·=if validD (s.drop i)=true then .inl () else .inr false):=by
 intro k
 induction k with
 | zero=>intro i h; omega
 | succ k ih=>
  intro i hk hi;refine aM ?_;simp only [ir];by_cases h:i<s.length
  ·have Vs:s.drop i≠[]:=by intro q; have:=congrArg List.length q; rw [List.length_drop] at this; simp at this; omega
   refine ap O (ak _ (aA (DX s i h hs) Z) ?_);have hv:=tD _ Vs;have hdf:=ja _ Vs;rw [List.length_drop] at hdf;unfold TV;by_cases q:(decodeL (s.drop i)).1=65533/\(decodeL (s.drop i)).2=1
   ·rw [if_pos q];refine ap rfl (ac ?_);rw [if_neg (λ z=>((hv.1 z).1 q))]
   ·rw [if_neg q];refine ar (by simp only; omega) (am (fL (by simp only; omega) (by simp only; omega)) ?_);have:=ih (i+(decodeL (s.drop i)).2) O O;rw [Int.natCast_add] at this;refine cH this λ r hr=>?_;rw [hr,<- List.drop_drop];by_cases z:validD ((s.drop i).drop (decodeL (s.drop i)).2)=true
    ·rw [if_pos z,if_pos (hv.2 ⟨q,z⟩)]
    ·rw [if_neg z,if_neg (λ y=>z (hv.1 y).2)]
  ·refine ar O (ac ?_);rw [List.drop_of_length_le O,if_pos validD_nil]
theorem yQ (s:Bk)(hs:s.length<=1000000000):Ev2 (λ n _=>jf n s) (·=(decide (s.length<=4096)&&validD s)):=by
 simp only [jf];refine aH (λ h=>ac ?_) (λ h=>?_)
 ·have:¬ s.length<=4096:=by omega
  simp [this]
 ·have h':s.length<=4096:=by omega
  have l:=HH s hs (s.length+1) 0 O O;rw [List.drop_zero] at l
  cases hv:validD s with
  | true=>rw [hv] at l; exact ez () (bc l) (ac (by simp [h']))
  | false=>rw [hv] at l; exact kt false (bc l) G
theorem drop_at (s:Bk){i:Nat}(h:i<s.length):s.drop i=s.getD i 0::s.drop (i+1):=by
 rw [List.getD_eq_getElem?_getD,List.getElem?_eq_getElem h,Option.getD_some];exact List.drop_eq_getElem_cons h
theorem RO (b:UInt8)(r:Bk)(h:128<=b.toNat):128<=(decodeL (b::r)).1:=by
 have hN:=Pa (b::r).length ((b::r).getD 0 0).toNat ((b::r).getD 1 0).toNat ((b::r).getD 2 0).toNat ((b::r).getD 3 0).toNat G (UInt8.toNat_lt _);rw [<- decodeL_N] at hN;rcases Nat.lt_or_ge (decodeL (b::r)).1 128 with q|q
 ·have:=(hN.2.2.2.1 q).2;have hb0:((b::r).getD 0 0).toNat=b.toNat:=rfl;omega
 ·exact q
end Go.Ab.R06
end
section
namespace Go.Ab
set_option autoImplicit false
theorem ki {α:Type}{tt:List (Nat×TI)}{n t s b:Nat}{cs:List PV}{z:List Value}(f:α->PV)(Q:α->Prop){e:Nat}(hl:look tt t=some ⟨.slice e,s,b,z⟩)(h:WTf tt n t cs)
  (he:∀ m x,m<n->WTf tt m e x.cells->x=mkE (((look tt e).map (·.k.isAgg)).getD false) x.cells->∃ y,x=f y/\Q y):∃ l:List α,cs=[eL f l]/\l.length*(((look tt e).map (·.bytes)).getD 0)<=ei/\∀ y∈l,Q y:=by
 cases n with
 | zero=>exact h.elim
 | succ n=>
  obtain ⟨l,h1,h2,h3⟩:=Jw f Q hl h (by grind)
  grind
inductive ag.Bd:ag->Prop where
 | mk {x:ag} (bKind:inR x.Ar) (bNum:inR x.G') (bStr:x.D'.length<=ei) (bItems:x.Gw.length*80<=ei) (eItems:∀ y∈x.Gw,ag.Bd y) (bKeys:x.F'.length*16<=ei) (eKeys:∀ y∈x.F',y.length<=ei):ag.Bd x
theorem ag.Bd.bKind {x:ag}(h:ag.Bd x):inR x.Ar:=by cases h; assumption
theorem ag.Bd.bNum {x:ag}(h:ag.Bd x):inR x.G':=by cases h; assumption
theorem ag.Bd.bStr {x:ag}(h:ag.Bd x):x.D'.length<=ei:=by cases h; assumption
theorem ag.Bd.bItems {x:ag}(h:ag.Bd x):x.Gw.length*80<=ei:=by cases h; assumption
theorem ag.Bd.eItems {x:ag}(h:ag.Bd x):∀ y∈x.Gw,ag.Bd y:=by cases h; assumption
theorem ag.Bd.bKeys {x:ag}(h:ag.Bd x):x.F'.length*16<=ei:=by cases h; assumption
theorem ag.Bd.eKeys {x:ag}(h:ag.Bd x):∀ y∈x.F',y.length<=ei:=by cases h; assumption
theorem ag.dec (n:Nat):(∀ cs,WTf tt n 28 cs->∃ x:ag,cs=ag.cs x/\ag.Bd x):=by
 induction n using Nat.strongRecOn with
 | _ n ih=>
 have X0:∀ m,m<n->(∀ cs,WTf tt m 28 cs->∃ x:ag,cs=ag.cs x/\ag.Bd x):=λ m hm=>(ih m hm)
 intro cs h
 cases n with
 | zero=>exact h.elim
 | succ n=>
 have h0:=iq rfl h;obtain ⟨c0,q0,rfl,k0,h0⟩:=bI h0;obtain ⟨c1,q1,rfl,k1,h0⟩:=bI h0;obtain ⟨c2,q2,rfl,k2,h0⟩:=bI h0;obtain ⟨c3,q3,rfl,k3,h0⟩:=bI h0;obtain ⟨c4,q4,rfl,k4,h0⟩:=bI h0;have e:q4=[]:=h0;subst e;obtain ⟨x1,rfl,b2⟩:=gx rfl k0;obtain ⟨x3,rfl,b4⟩:=gx rfl k1;obtain ⟨x5,rfl,b6⟩:=jt rfl k2
 obtain ⟨x7,rfl,b8⟩:=ki cn (λ y=>ag.Bd y) rfl k3 (λ m9 y10 hm11 k12 k13=>by
  obtain ⟨x14,Zx,b15⟩:=X0 _ O _ k12;exact ⟨x14,(qZ Zx k13).trans (ag.M' _).symm,b15⟩
  )
 obtain ⟨x17,rfl,b18⟩:=ki eS (λ y=>y.length<=ei) rfl k4 (λ m19 y20 hm21 k22 k23=>by
  obtain ⟨x24,e26,b25⟩:=jt rfl k22;exact ⟨x24,Nz e26 k23,b25⟩
  )
 exact ⟨ag.mk x1 x3 x5 x7 x17,Z,.mk b2 b4 b6 b8.1 b8.2 b18.1 b18.2⟩
inductive ab.Bd:ab->Prop where
 | mk {x:ab} (bKind:inR x.Ar) (bOp:inR x.fOp) (bName:x.AT.length<=ei) (bKey:x.It.length<=ei) (bValue:ag.Bd x.BY) (bKids:x.A'.length*160<=ei) (eKids:∀ y∈x.A',ab.Bd y) (bAt:inR x.fAt):ab.Bd x
theorem ab.Bd.bKind {x:ab}(h:ab.Bd x):inR x.Ar:=by cases h; assumption
theorem ab.Bd.bOp {x:ab}(h:ab.Bd x):inR x.fOp:=by cases h; assumption
theorem ab.Bd.bName {x:ab}(h:ab.Bd x):x.AT.length<=ei:=by cases h; assumption
theorem ab.Bd.bKey {x:ab}(h:ab.Bd x):x.It.length<=ei:=by cases h; assumption
theorem ab.Bd.bValue {x:ab}(h:ab.Bd x):ag.Bd x.BY:=by cases h; assumption
theorem ab.Bd.bKids {x:ab}(h:ab.Bd x):x.A'.length*160<=ei:=by cases h; assumption
theorem ab.Bd.eKids {x:ab}(h:ab.Bd x):∀ y∈x.A',ab.Bd y:=by cases h; assumption
theorem ab.Bd.bAt {x:ab}(h:ab.Bd x):inR x.fAt:=by cases h; assumption
theorem ab.dec (n:Nat):(∀ cs,WTf tt n 31 cs->∃ x:ab,cs=ab.cs x/\ab.Bd x):=by
 induction n using Nat.strongRecOn with
 | _ n ih=>
 have YG:∀ m,m<n->(∀ cs,WTf tt m 31 cs->∃ x:ab,cs=ab.cs x/\ab.Bd x):=λ m hm=>(ih m hm)
 intro cs h
 cases n with
 | zero=>exact h.elim
 | succ n=>
 have h0:=iq rfl h;obtain ⟨c0,q0,rfl,k0,h0⟩:=bI h0;obtain ⟨c1,q1,rfl,k1,h0⟩:=bI h0;obtain ⟨c2,q2,rfl,k2,h0⟩:=bI h0;obtain ⟨c3,q3,rfl,k3,h0⟩:=bI h0;obtain ⟨c4,q4,rfl,k4,h0⟩:=bI h0;obtain ⟨c5,q5,rfl,k5,h0⟩:=bI h0;obtain ⟨c6,q6,rfl,k6,h0⟩:=bI h0;have e:q6=[]:=h0;subst e;obtain ⟨x27,rfl,b28⟩:=gx rfl k0;obtain ⟨x29,rfl,b30⟩:=gx rfl k1;obtain ⟨x31,rfl,b32⟩:=jt rfl k2;obtain ⟨x33,rfl,b34⟩:=jt rfl k3;obtain ⟨x35,rfl,b36⟩:=ag.dec _ _ k4
 obtain ⟨x37,rfl,b38⟩:=ki ao (λ y=>ab.Bd y) rfl k5 (λ m39 y40 hm41 k42 k43=>by
  obtain ⟨x44,Zw,b45⟩:=YG _ O _ k42;exact ⟨x44,(qZ Zw k43).trans (ab.M' _).symm,b45⟩
  )
 obtain ⟨x47,rfl,b48⟩:=gx rfl k6;exact ⟨ab.mk x27 x29 x31 x33 x35 x37 x47,rfl,.mk b28 b30 b32 b34 b36 b38.1 b38.2 b48⟩
inductive ai.Bd:ai->Prop where
 | mk {x:ai} (bName:x.AT.length<=ei) (bExpr:ab.Bd x.I') (bAt:inR x.fAt):ai.Bd x
theorem ai.Bd.bName {x:ai}(h:ai.Bd x):x.AT.length<=ei:=by cases h; assumption
theorem ai.Bd.bExpr {x:ai}(h:ai.Bd x):ab.Bd x.I':=by cases h; assumption
theorem ai.Bd.bAt {x:ai}(h:ai.Bd x):inR x.fAt:=by cases h; assumption
theorem ai.dec (n:Nat):(∀ cs,WTf tt n 59 cs->∃ x:ai,cs=ai.cs x/\ai.Bd x):=by
 induction n using Nat.strongRecOn with
 | _ n ih=>
 have Y7:∀ m,m<n->(∀ cs,WTf tt m 59 cs->∃ x:ai,cs=ai.cs x/\ai.Bd x):=λ m hm=>(ih m hm)
 intro cs h
 cases n with
 | zero=>exact h.elim
 | succ n=>
 have h0:=iq rfl h;obtain ⟨c0,q0,rfl,k0,h0⟩:=bI h0;obtain ⟨c1,q1,rfl,k1,h0⟩:=bI h0;obtain ⟨c2,q2,rfl,k2,h0⟩:=bI h0;have e:q2=[]:=h0;subst e;obtain ⟨x49,rfl,b50⟩:=jt rfl k0;obtain ⟨x51,rfl,b52⟩:=ab.dec _ _ k1;obtain ⟨x53,rfl,b54⟩:=gx rfl k2;exact ⟨ai.mk x49 x51 x53,rfl,.mk b50 b52 b54⟩
mutual
inductive av.Bd:av->Prop where
 | mk {x:av} (bAttrs:x.B'.length*184<=ei) (eAttrs:∀ y∈x.B',ai.Bd y) (bBlocks:x.By.length*96<=ei) (eBlocks:∀ y∈x.By,au.Bd y):av.Bd x
inductive au.Bd:au->Prop where
 | mk {x:au} (bType:x.Mr.length<=ei) (bLabels:x.J'.length*16<=ei) (eLabels:∀ y∈x.J',y.length<=ei) (bBody:av.Bd x.Mp) (bAt:inR x.fAt):au.Bd x
end
theorem av.Bd.bAttrs {x:av}(h:av.Bd x):x.B'.length*184<=ei:=by cases h; assumption
theorem av.Bd.eAttrs {x:av}(h:av.Bd x):∀ y∈x.B',ai.Bd y:=by cases h; assumption
theorem av.Bd.bBlocks {x:av}(h:av.Bd x):x.By.length*96<=ei:=by cases h; assumption
theorem av.Bd.eBlocks {x:av}(h:av.Bd x):∀ y∈x.By,au.Bd y:=by cases h; assumption
theorem au.Bd.bType {x:au}(h:au.Bd x):x.Mr.length<=ei:=by cases h; assumption
theorem au.Bd.bLabels {x:au}(h:au.Bd x):x.J'.length*16<=ei:=by cases h; assumption
theorem au.Bd.eLabels {x:au}(h:au.Bd x):∀ y∈x.J',y.length<=ei:=by cases h; assumption
theorem au.Bd.bBody {x:au}(h:au.Bd x):av.Bd x.Mp:=by cases h; assumption
theorem au.Bd.bAt {x:au}(h:au.Bd x):inR x.fAt:=by cases h; assumption
theorem av.decs (n:Nat):(∀ cs,WTf tt n 35 cs->∃ x:av,cs=av.cs x/\av.Bd x)/\(∀ cs,WTf tt n 61 cs->∃ x:au,cs=au.cs x/\au.Bd x):=by
 induction n using Nat.strongRecOn with
 | _ n ih=>
 have YH:∀ m,m<n->(∀ cs,WTf tt m 35 cs->∃ x:av,cs=av.cs x/\av.Bd x):=λ m hm=>(ih m hm).1;have X1:∀ m,m<n->(∀ cs,WTf tt m 61 cs->∃ x:au,cs=au.cs x/\au.Bd x):=λ m hm=>(ih m hm).2;refine ⟨?_,?_⟩
 ·intro cs h
  cases n with
  | zero=>exact h.elim
  | succ n=>
  have h0:=iq rfl h;obtain ⟨c0,q0,rfl,k0,h0⟩:=bI h0;obtain ⟨c1,q1,rfl,k1,h0⟩:=bI h0;have e:q1=[]:=h0;subst e
  obtain ⟨x55,rfl,b56⟩:=ki aw (λ y=>ai.Bd y) rfl k0 (λ m57 y58 hm59 k60 k61=>by
   obtain ⟨x62,e64,b63⟩:=ai.dec _ _ k60;exact ⟨x62,(qZ e64 k61).trans (ai.M' _).symm,b63⟩
   )
  obtain ⟨x65,rfl,b66⟩:=ki aI (λ y=>au.Bd y) rfl k1 (λ m67 y68 hm69 k70 k71=>by
   obtain ⟨x72,e74,b73⟩:=X1 _ O _ k70;exact ⟨x72,(qZ e74 k71).trans (au.M' _).symm,b73⟩
   )
  exact ⟨av.mk x55 x65,Z,.mk b56.1 b56.2 b66.1 b66.2⟩
 ·intro cs h
  cases n with
  | zero=>exact h.elim
  | succ n=>
  have h0:=iq rfl h;obtain ⟨c0,q0,rfl,k0,h0⟩:=bI h0;obtain ⟨c1,q1,rfl,k1,h0⟩:=bI h0;obtain ⟨c2,q2,rfl,k2,h0⟩:=bI h0;obtain ⟨c3,q3,rfl,k3,h0⟩:=bI h0;have e:q3=[]:=h0;subst e;obtain ⟨x75,rfl,b76⟩:=jt rfl k0
  obtain ⟨x77,rfl,b78⟩:=ki eS (λ y=>y.length<=ei) rfl k1 (λ m79 y80 hm81 k82 k83=>by
   obtain ⟨x84,e86,b85⟩:=jt rfl k82;exact ⟨x84,Nz e86 k83,b85⟩
   )
  obtain ⟨x87,rfl,b88⟩:=YH _ O _ k2;obtain ⟨x89,rfl,b90⟩:=gx rfl k3;exact ⟨au.mk x75 x77 x87 x89,rfl,.mk b76 b78.1 b78.2 b88 b90⟩
theorem av.dec (n:Nat):(∀ cs,WTf tt n 35 cs->∃ x:av,cs=av.cs x/\av.Bd x):=(av.decs n).1
theorem au.dec (n:Nat):(∀ cs,WTf tt n 61 cs->∃ x:au,cs=au.cs x/\au.Bd x):=(av.decs n).2
inductive az.Bd:az->Prop where
 | mk {x:az} (bKind:inR x.Ar) (bAt:inR x.fAt) (bName:x.AT.length<=ei):az.Bd x
theorem az.Bd.bKind {x:az}(h:az.Bd x):inR x.Ar:=by cases h; assumption
theorem az.Bd.bAt {x:az}(h:az.Bd x):inR x.fAt:=by cases h; assumption
theorem az.Bd.bName {x:az}(h:az.Bd x):x.AT.length<=ei:=by cases h; assumption
theorem az.dec (n:Nat):(∀ cs,WTf tt n 43 cs->∃ x:az,cs=az.cs x/\az.Bd x):=by
 induction n using Nat.strongRecOn with
 | _ n ih=>
 have abC:∀ m,m<n->(∀ cs,WTf tt m 43 cs->∃ x:az,cs=az.cs x/\az.Bd x):=λ m hm=>(ih m hm)
 intro cs h
 cases n with
 | zero=>exact h.elim
 | succ n=>
 have h0:=iq rfl h;obtain ⟨c0,q0,rfl,k0,h0⟩:=bI h0;obtain ⟨c1,q1,rfl,k1,h0⟩:=bI h0;obtain ⟨c2,q2,rfl,k2,h0⟩:=bI h0;have e:q2=[]:=h0;subst e;obtain ⟨x91,rfl,b92⟩:=gx rfl k0;obtain ⟨x93,rfl,b94⟩:=gx rfl k1;obtain ⟨x95,rfl,b96⟩:=jt rfl k2;exact ⟨az.mk x91 x93 x95,rfl,.mk b92 b94 b96⟩
inductive af.Bd:af->Prop where
 | mk {x:af} (bKind:inR x.Ar) (bText:x.C'.length<=ei) (bAt:inR x.fAt):af.Bd x
theorem af.Bd.bKind {x:af}(h:af.Bd x):inR x.Ar:=by cases h; assumption
theorem af.Bd.bText {x:af}(h:af.Bd x):x.C'.length<=ei:=by cases h; assumption
theorem af.Bd.bAt {x:af}(h:af.Bd x):inR x.fAt:=by cases h; assumption
theorem af.dec (n:Nat):(∀ cs,WTf tt n 86 cs->∃ x:af,cs=af.cs x/\af.Bd x):=by
 induction n using Nat.strongRecOn with
 | _ n ih=>
 have aa6:∀ m,m<n->(∀ cs,WTf tt m 86 cs->∃ x:af,cs=af.cs x/\af.Bd x):=λ m hm=>(ih m hm)
 intro cs h
 cases n with
 | zero=>exact h.elim
 | succ n=>
 have h0:=iq rfl h;obtain ⟨c0,q0,rfl,k0,h0⟩:=bI h0;obtain ⟨c1,q1,rfl,k1,h0⟩:=bI h0;obtain ⟨c2,q2,rfl,k2,h0⟩:=bI h0;have e:q2=[]:=h0;subst e;obtain ⟨x97,rfl,b98⟩:=gx rfl k0;obtain ⟨x99,rfl,b100⟩:=jt rfl k1;obtain ⟨x101,rfl,b102⟩:=gx rfl k2;exact ⟨af.mk x97 x99 x101,rfl,.mk b98 b100 b102⟩
inductive aj.Bd:aj->Prop where
 | mk {x:aj} (bl:x.fl.length*32<=ei) (el:∀ y∈x.fl,af.Bd y) (bat:inR x.fat) (bbad:az.Bd x.AI):aj.Bd x
theorem aj.Bd.bl {x:aj}(h:aj.Bd x):x.fl.length*32<=ei:=by cases h; assumption
theorem aj.Bd.el {x:aj}(h:aj.Bd x):∀ y∈x.fl,af.Bd y:=by cases h; assumption
theorem aj.Bd.bat {x:aj}(h:aj.Bd x):inR x.fat:=by cases h; assumption
theorem aj.Bd.bbad {x:aj}(h:aj.Bd x):az.Bd x.AI:=by cases h; assumption
theorem aj.dec (n:Nat):(∀ cs,WTf tt n 81 cs->∃ x:aj,cs=aj.cs x/\aj.Bd x):=by
 induction n using Nat.strongRecOn with
 | _ n ih=>
 have Yj:∀ m,m<n->(∀ cs,WTf tt m 81 cs->∃ x:aj,cs=aj.cs x/\aj.Bd x):=λ m hm=>(ih m hm)
 intro cs h
 cases n with
 | zero=>exact h.elim
 | succ n=>
 have h0:=iq rfl h;obtain ⟨c0,q0,rfl,k0,h0⟩:=bI h0;obtain ⟨c1,q1,rfl,k1,h0⟩:=bI h0;obtain ⟨c2,q2,rfl,k2,h0⟩:=bI h0;have e:q2=[]:=h0;subst e
 obtain ⟨x103,rfl,b104⟩:=ki aE (λ y=>af.Bd y) rfl k0 (λ m105 y106 hm107 k108 k109=>by
  obtain ⟨x110,e112,b111⟩:=af.dec _ _ k108;exact ⟨x110,(qZ e112 k109).trans (af.M' _).symm,b111⟩
  )
 obtain ⟨x113,rfl,b114⟩:=gx rfl k1;obtain ⟨x115,rfl,b116⟩:=az.dec _ _ k2;exact ⟨aj.mk x103 x113 x115,rfl,.mk b104.1 b104.2 b114 b116⟩
inductive ah.Bd:ah->Prop where
 | mk {x:ah} (bl:x.fl.length*32<=ei) (el:∀ y∈x.fl,af.Bd y) (bat:inR x.fat) (bnest:inR x.IT) (bbase:inR x.IS) (bbad:az.Bd x.AI):ah.Bd x
theorem ah.Bd.bl {x:ah}(h:ah.Bd x):x.fl.length*32<=ei:=by cases h; assumption
theorem ah.Bd.el {x:ah}(h:ah.Bd x):∀ y∈x.fl,af.Bd y:=by cases h; assumption
theorem ah.Bd.bat {x:ah}(h:ah.Bd x):inR x.fat:=by cases h; assumption
theorem ah.Bd.bnest {x:ah}(h:ah.Bd x):inR x.IT:=by cases h; assumption
theorem ah.Bd.bbase {x:ah}(h:ah.Bd x):inR x.IS:=by cases h; assumption
theorem ah.Bd.bbad {x:ah}(h:ah.Bd x):az.Bd x.AI:=by cases h; assumption
theorem ah.dec (n:Nat):(∀ cs,WTf tt n 113 cs->∃ x:ah,cs=ah.cs x/\ah.Bd x):=by
 induction n using Nat.strongRecOn with
 | _ n ih=>
 have aan:∀ m,m<n->(∀ cs,WTf tt m 113 cs->∃ x:ah,cs=ah.cs x/\ah.Bd x):=λ m hm=>(ih m hm)
 intro cs h
 cases n with
 | zero=>exact h.elim
 | succ n=>
 have h0:=iq rfl h;obtain ⟨c0,q0,rfl,k0,h0⟩:=bI h0;obtain ⟨c1,q1,rfl,k1,h0⟩:=bI h0;obtain ⟨c2,q2,rfl,k2,h0⟩:=bI h0;obtain ⟨c3,q3,rfl,k3,h0⟩:=bI h0;obtain ⟨c4,q4,rfl,k4,h0⟩:=bI h0;have e:q4=[]:=h0;subst e
 obtain ⟨x117,rfl,b118⟩:=ki aE (λ y=>af.Bd y) rfl k0 (λ m119 y120 hm121 k122 k123=>by
  obtain ⟨x124,e126,b125⟩:=af.dec _ _ k122;exact ⟨x124,(qZ e126 k123).trans (af.M' _).symm,b125⟩
  )
 obtain ⟨x127,rfl,b128⟩:=gx rfl k1;obtain ⟨x129,rfl,b130⟩:=gx rfl k2;obtain ⟨x131,rfl,b132⟩:=gx rfl k3;obtain ⟨x133,rfl,b134⟩:=az.dec _ _ k4;exact ⟨ah.mk x117 x127 x129 x131 x133,rfl,.mk b118.1 b118.2 b128 b130 b132 b134⟩
inductive bP.Bd:bP->Prop where
 | mk {x:bP} (bcount:inR x.fcount):bP.Bd x
theorem bP.Bd.bcount {x:bP}(h:bP.Bd x):inR x.fcount:=by cases h; assumption
theorem bP.dec (n:Nat):(∀ cs,WTf tt n 134 cs->∃ x:bP,cs=bP.cs x/\bP.Bd x):=by
 induction n using Nat.strongRecOn with
 | _ n ih=>
 have ZP:∀ m,m<n->(∀ cs,WTf tt m 134 cs->∃ x:bP,cs=bP.cs x/\bP.Bd x):=λ m hm=>(ih m hm)
 intro cs h
 cases n with
 | zero=>exact h.elim
 | succ n=>
 have h0:=iq rfl h;obtain ⟨c0,q0,rfl,k0,h0⟩:=bI h0;have e:q0=[]:=h0;subst e;obtain ⟨x135,rfl,b136⟩:=gx rfl k0;exact ⟨bP.mk x135,rfl,.mk b136⟩
inductive ay.Bd:ay->Prop where
 | mk {x:ay} (bs:x.fs.length<=ei) (bat:inR x.fat) (bi:inR x.fi) (bfrom:inR x.H') (btext:x.IN.length<=ei) (bparts:x.Df.length*160<=ei) (eparts:∀ y∈x.Df,ab.Bd y):ay.Bd x
theorem ay.Bd.bs {x:ay}(h:ay.Bd x):x.fs.length<=ei:=by cases h; assumption
theorem ay.Bd.bat {x:ay}(h:ay.Bd x):inR x.fat:=by cases h; assumption
theorem ay.Bd.bi {x:ay}(h:ay.Bd x):inR x.fi:=by cases h; assumption
theorem ay.Bd.bfrom {x:ay}(h:ay.Bd x):inR x.H':=by cases h; assumption
theorem ay.Bd.btext {x:ay}(h:ay.Bd x):x.IN.length<=ei:=by cases h; assumption
theorem ay.Bd.bparts {x:ay}(h:ay.Bd x):x.Df.length*160<=ei:=by cases h; assumption
theorem ay.Bd.eparts {x:ay}(h:ay.Bd x):∀ y∈x.Df,ab.Bd y:=by cases h; assumption
theorem ay.dec (n:Nat):(∀ cs,WTf tt n 223 cs->∃ x:ay,cs=ay.cs x/\ay.Bd x):=by
 induction n using Nat.strongRecOn with
 | _ n ih=>
 have Zm:∀ m,m<n->(∀ cs,WTf tt m 223 cs->∃ x:ay,cs=ay.cs x/\ay.Bd x):=λ m hm=>(ih m hm)
 intro cs h
 cases n with
 | zero=>exact h.elim
 | succ n=>
 have h0:=iq rfl h;obtain ⟨c0,q0,rfl,k0,h0⟩:=bI h0;obtain ⟨c1,q1,rfl,k1,h0⟩:=bI h0;obtain ⟨c2,q2,rfl,k2,h0⟩:=bI h0;obtain ⟨c3,q3,rfl,k3,h0⟩:=bI h0;obtain ⟨c4,q4,rfl,k4,h0⟩:=bI h0;obtain ⟨c5,q5,rfl,k5,h0⟩:=bI h0;obtain ⟨c6,q6,rfl,k6,h0⟩:=bI h0;have e:q6=[]:=h0;subst e;obtain ⟨x137,rfl,b138⟩:=jt rfl k0;obtain ⟨x139,rfl,b140⟩:=gx rfl k1;obtain ⟨x141,rfl,b142⟩:=gx rfl k2;obtain ⟨x143,rfl,b144⟩:=gx rfl k3;obtain ⟨x145,rfl,b146⟩:=jt rfl k4
 obtain ⟨x147,rfl,b148⟩:=ki ao (λ y=>ab.Bd y) rfl k5 (λ m149 y150 hm151 k152 k153=>by
  obtain ⟨x154,e156,b155⟩:=ab.dec _ _ k152;exact ⟨x154,(qZ e156 k153).trans (ab.M' _).symm,b155⟩
  )
 obtain ⟨x157,rfl⟩:=Ng rfl k6;exact ⟨ay.mk x137 x139 x141 x143 x145 x147 x157,rfl,.mk b138 b140 b142 b144 b146 b148.1 b148.2⟩
end Go.Ab
end
section
namespace Go.Ab.R06
open Go.Ab Go.Ab.RB Go.Lib
variable {p:Prop}
theorem Kv (h:p:=by
 have hk:v.Ar=0\/v.Ar=1\/v.Ar=2\/v.Ar=3:=by omega
 clear h0 h3
 rcases hk with h|h|h|h <;> by_cases a:v.G'=0 <;> by_cases b:v.G'=1 <;> by_cases c:v.D'=[] <;> by_cases d:v.Gw=[] <;> by_cases e:v.F'=[] <;> simp [h,a,b,c,d,e,OS,MG,TW,S3]):p:=h
theorem zY (h:p:=by
 rw [if_pos O]; simp_all [ac]):p:=h
theorem yv (h:p:=by exact ap O (ac Z)):p:=h
theorem p6 (h:p:=by exact mz O):p:=h
theorem lS {P:Int->Prop}{i:Nat}(h:P ((i+1:Nat):Int)):P ((i:Int)+1):=by grind
theorem gi {α:Type} [Inhabited α] (l:List α){i:Nat}(h:i<l.length):l.drop i=lat l (i:Int)::l.drop (i+1):=by
 grind [me,List.drop_eq_getElem_cons]
theorem zZ (s:Bk):ij s=some (iO s):=by
 grind [ij,iO,RL]
def xy (v:ag):Prop:=v.Ar=1/\v.G'≠0/\v.G'≠1\/v.Ar≠1/\v.Ar≠2/\v.G'≠0\/v.Ar≠3/\v.D'≠[]\/v.Gw≠[]\/v.F'≠[]
theorem OS {α:Type}(l:List α):(0<(l.length:Int))↔l≠[]:=by grind [List.length_pos_iff]
theorem MG {α:Type}(l:List α):((l.length:Int)=0)↔l=[]:=by simp_all
theorem Hn (v:ag)(h0:0<=v.Ar)(h3:v.Ar<=3):∃ b,mt v=some b/\(b=true↔¬ xy v):=by
 unfold mt xy;exact Kv
theorem Ij (v:ag)(h0:0<=v.Ar)(h3:v.Ar<=3):∃ b,mh v=some b/\(b=true↔¬ xy v):=by
 unfold mh xy;exact Kv
theorem xq {v:ag}(h:xy v):uz v=1:=if_pos h
theorem zd {v:ag}(h:¬ xy v):uz v=if v.Ar=2/\¬ (-kO<=v.G'/\v.G'<=kO) then 5 else if v.Ar=3/\4096<v.D'.length then 3 else if v.Ar=3/\validD v.D'=false then 1 else 0:=if_neg h
def A6 (s:Bk):Int:=if 4096<s.length then 3 else if validD s=false then 1 else 0
theorem RJ (s:Bk):mK s=some (A6 s):=by
 grind [mK,A6,R5]
theorem Sd (s:Bk):Ev2 (λ n _=>lm n s) (·=A6 s):=by
 simp only [lm];unfold A6;refine aH (λ h=>ac (by grind)) (λ h=>?_);rw [if_neg (show ¬ 4096<s.length by omega)];refine ak _ (yQ s O) ?_;have:decide (s.length<=4096)=true:=by grind
 rw [this,Bool.true_and]
 cases validD s with
 | true=>simp_all [ac]
 | false=>simp_all [ac]
theorem Gm:A6 []=0:=by unfold A6; rw [if_neg (by decide)]; rfl
theorem PP (v:ag)(h0:0<=v.Ar)(h3:v.Ar<=3):Ev2 (λ n _=>pE n v) (·=uz v):=by
 obtain ⟨b,hb,hi⟩:=Hn v h0 h3;simp only [pE];refine ak _ (aA hb rfl) (aH (λ h=>ac ?_) (λ h=>?_))
 ·grind [xq]
 ·have hg:¬ xy v:=hi.1 (by grind);rw [zd hg];by_cases h2:v.Ar=2
  ·simp only [h2,if_true,true_and];by_cases hv:-kO<=v.G'/\v.G'<=kO
   ·refine ez () (ak _ (aA (AJ _) Z) (ar (by simp [hv]) (ac Z))) (ac ?_)
    grind
   ·refine kt 5 (ak _ (aA (AJ _) Z) (ap (by simp [hv]) (ac Z))) ?_
    grind
  ·by_cases h5:v.Ar=3
   ·refine kt (A6 v.D') (ar h2 (ap h5 (ak _ (aA (RJ _) Z) (ac Z)))) ?_
    grind [A6]
   ·refine ez () (ar h2 (ar h5 AO)) (ac ?_)
    grind
theorem OZ (v:ag)(h0:0<=v.Ar)(h3:v.Ar<=3):Ev2 (λ n _=>oT n v) (·=uz v):=by
 obtain ⟨b,hb,hi⟩:=Ij v h0 h3;simp only [oT];refine ak _ (aA hb rfl) (aH (λ h=>ac ?_) (λ h=>?_))
 ·grind [xq]
 ·have hg:¬ xy v:=hi.1 (by grind);rw [zd hg];have nv:pL v.G'=some (decide (-kO<=v.G'/\v.G'<=kO)):=AJ v.G';have tail:v.F'=[]:=by grind [xy]
  have str:v.Ar≠3->v.D'=[]:=λ k=>by grind [xy]
  have last:Ev2 (λ n _=>(lm n v.D').bind λ r9=>if r9=0 then jn (gK n v n 0) λ _=>some 0 else some r9) (·=A6 v.D'):=by
   refine ak _ (Sd _) (aH (λ h=>?_) (λ h=>ac Z));refine ez () (bc (f:=λ n m=>gK n v m 0) (aM ?_)) (ac h.symm)
   simp_all [gK,ac]
  by_cases h2:v.Ar=2
  ·simp only [h2,if_true,true_and];refine ak (!decide (-kO<=v.G'/\v.G'<=kO)) (ak _ (aA nv rfl) (ac rfl)) (aH (λ h=>ac ?_) (λ h=>?_))
   ·grind
   grind [Gm]
  ·refine ak false (ar h2 (ac Z)) (ar (by decide) ?_);rw [if_neg O];by_cases h5:v.Ar=3
   ·simp only [h5,true_and]; exact last
   grind [Gm]
theorem xI {v:ag}(h:uz v=0):v.Gw=[]:=by
 grind [xy,xq]
theorem Ma (v:ag)(h0:0<=v.Ar)(h3:v.Ar<=3):Ev2 (λ n _=>nu n v) (·=uz v):=by
 simp only [nu];refine aW (λ r=>r.1=uz v) (bD ?_) (λ r hr=>ac hr);simp only [gM];refine ar (by decide) (ar (by decide) (am (by decide) (ak _ (PP v h0 h3) (aH (λ h=>?_) (λ h=>ac rfl)))));refine ez 1 (bc (f:=λ n m=>fE (gM n) v 1 m 0 (0+1)) (aM ?_)) (ac h.symm)
 simp_all [fE,xI,ac]
theorem JR (v:ag)(h0:0<=v.Ar)(h3:v.Ar<=3):Ev2 (λ n _=>nU n v) (·=uz v):=by
 simp only [nU];refine aW (λ r=>r.1=uz v) (bD ?_) (λ r hr=>ac hr);simp only [jj];refine ar (by decide) (ar (by decide) (ak _ (OZ v h0 h3) (aH (λ h=>am (by decide) ?_) (λ h=>ac rfl))));refine ez 1 (bc (f:=λ n m=>ic (jj n) v 1 m (0+1) 0) (aM ?_)) (ac h.symm)
 simp_all [ic,xI,ac]
theorem PY (k:Int):lh k=some (decide (k=3\/k=4\/k=9\/k=12\/k=13)):=by
 grind [lh,mL]
theorem zU (k:Int):bB k=some (decide (k=3\/k=4\/k=9\/k=12\/k=13)):=by
 grind [bB,a6]
section
variable {α β:Type}
theorem zL {p:Prop} [Decidable p] {a b:Option α}(h1:p->∃ r,a=some r)(h2:¬p->∃ r,b=some r):∃ r,(if p then a else b)=some r:=by
 by_cases h:p
 ·grind
 grind
theorem zE {g:Option β}{k:β->Option α}(h:∃ r,g=some r)(hk:∀ x,∃ r,k x=some r):∃ r,g.bind k=some r:=by
 obtain ⟨x,rfl⟩:=h;exact hk x
theorem Mf {p:Prop} [Decidable p] {a:Option α}(hp:p)(h:∃ r,a=some r):∃ r,ck p a=some r:=by grind [cM]
end
theorem LA (k:Int):∃ r,a6 k=some r:=by simp_all [a6,zL]
theorem Tf (k n:Int):∃ r,gb k n=some r:=by unfold gb; repeat' (first|exact ⟨_,rfl⟩|exact LA _|exact ⟨_,zU _⟩|refine zE ?_ (λ _=>?_)|refine zL (λ _=>?_) (λ _=>?_)|refine Mf (by decide) ?_)
theorem DN (e:ab):∃ r,fQ e=some r:=by unfold fQ; repeat' (first|exact ⟨_,rfl⟩|exact LA _|exact ⟨_,zU _⟩|exact Tf _ _|exact Rn _|refine zE ?_ (λ _=>?_)|refine zL (λ _=>?_) (λ _=>?_)|refine Mf (by decide) ?_)
inductive VSz:ag->Prop where
 | mk {x:ag} (v:x.Gw.length+x.F'.length<=1000000000000000) (sub:∀ y∈x.Gw,VSz y):VSz x
theorem VSz.v {x:ag}(h:VSz x):x.Gw.length+x.F'.length<=1000000000000000:=by cases h; assumption
theorem R3 {v:ag}(hb:ag.Bd v):VSz v:=by
 induction hb with
 | @mk x bKind bNum bStr bItems eItems bKeys eKeys ih=>
  have h1:=bItems;have h2:=bKeys;unfold ei at h1 h2;exact .mk O ih
theorem HF {k n:Int}{s:Bk}:VSz (.mk k n s [] []):=.mk (ph _) (λ _ h=>by cases h)
inductive Sz:ab->Prop where
 | mk {x:ab} (n:x.AT.length<=1000000000000000) (k:x.It.length<=1000000000000000) (w:VSz x.BY) (c:x.A'.length<=1000000000000000) (kids:∀ y∈x.A',Sz y):Sz x
theorem Sz.n {x:ab}(h:Sz x):x.AT.length<=1000000000000000:=by cases h; assumption
theorem Sz.k {x:ab}(h:Sz x):x.It.length<=1000000000000000:=by cases h; assumption
theorem Sz.w {x:ab}(h:Sz x):VSz x.BY:=by cases h; assumption
theorem Sz.v {x:ab}(h:Sz x):x.BY.Gw.length+x.BY.F'.length<=1000000000000000:=h.w.v
theorem Sz.kids {x:ab}(h:Sz x):∀ y∈x.A',Sz y:=by cases h; assumption
theorem C9 {e:ab}(hb:ab.Bd e):Sz e:=by
 induction hb with
 | @mk x bKind bOp bName bKey bValue bKids eKids bAt ih=>
  unfold ei at bName bKey bKids;exact .mk O O  (R3 bValue) O ih
theorem uf {e:ab}(hb:Sz e):fQ e=some (ui e):=by
 have h:=zj e hb.v;obtain ⟨r,hr⟩:=DN e
 grind [ui]
theorem Lb {e:ab}(hb:Sz e):jh e=some (ui e):=by
 rw [zj e hb.v,uf hb]
theorem CX {e:ab}(hb:Sz e)(h:ui e=true)(hk:e.Ar=1):0<=e.BY.Ar/\e.BY.Ar<=3:=by
 have h1:=uf hb;rw [h] at h1;unfold fQ at h1;generalize (Option.bind (gb e.Ar (e.A'.length:Int)) _:Option Bool)=o at h1
 cases o with
 | none=>cases h1
 | some t=>
  grind
theorem SO {e:ab}(hb:Sz e):Ev2 (λ n _=>qn n e) (·=lB e):=by
 have b1:=hb.n;have b2:=hb.k;simp only [qn];unfold lB;refine ak _ (aA (Lb hb) Z) (aH (λ h=>ac (by grind)) (λ h=>?_));have h:ui e=true:=by grind
 rw [if_neg (show ¬ ui e=false by grind)];refine aH (λ hk=>?_) (λ hk=>?_)
 ·simp_all [Ma,CX]
 rw [if_neg hk];refine ak (decide ((e.Ar=3\/e.Ar=4\/e.Ar=9\/e.Ar=12\/e.Ar=13)/\(bW e.AT=false\/e.Ar≠4/\iO e.AT=true))) ?_ ?_
 ·refine ak _ (aA (PY _) Z) (aH (λ hn=>?_) (λ hn=>ac ?_))
  ·have hn:=of_decide_eq_true hn;rw [show decide ((e.Ar=3\/e.Ar=4\/e.Ar=9\/e.Ar=12\/e.Ar=13)/\(bW e.AT=false\/e.Ar≠4/\iO e.AT=true))=decide (bW e.AT=false\/e.Ar≠4/\iO e.AT=true) by grind];refine ak _ (Cv _ O) (aH (λ hi=>ac ?_) (λ hi=>aH (λ h4=>ac ?_) (λ h4=>ak _ yu (ac ?_))))
   ·grind
   ·grind
   grind
  grind
 ·refine aH (λ hq=>ac (by grind)) (λ hq=>?_);rw [if_neg (λ k=>hq (decide_eq_true k))];refine ak (decide (e.It≠[]/\(bW e.It=false\/iO e.It=true))) ?_ ?_
  ·refine aH (λ hk=>ac (by simp [hk])) (λ hk=>?_);refine ak _ (Cv _ O) (aH (λ hi=>ac ?_) (λ hi=>ak _ yu (ac ?_)))
   ·grind
   grind
  ·refine aH (λ hq=>ac (by grind)) (λ hq=>ac ?_)
   grind
theorem RR {e:ab}(hb:Sz e):Ev2 (λ n _=>pg n e) (·=lB e):=by
 have b1:=hb.n;have b2:=hb.k;simp only [pg];unfold lB;refine ak _ (aA (uf hb) Z) (aH (λ h=>ac (by grind)) (λ h=>?_));have h:ui e=true:=by grind
 rw [if_neg (show ¬ ui e=false by grind)];refine aH (λ hk=>?_) (λ hk=>?_)
 ·simp_all [JR,CX]
 rw [if_neg hk];refine ak (decide ((e.Ar=3\/e.Ar=4\/e.Ar=9\/e.Ar=12\/e.Ar=13)/\(bW e.AT=false\/e.Ar≠4/\iO e.AT=true))) ?_ ?_
 ·refine ak _ (aA (zU _) Z) (aH (λ hn=>?_) (λ hn=>ac ?_))
  ·have hn:=of_decide_eq_true hn;rw [show decide ((e.Ar=3\/e.Ar=4\/e.Ar=9\/e.Ar=12\/e.Ar=13)/\(bW e.AT=false\/e.Ar≠4/\iO e.AT=true))=decide (bW e.AT=false\/e.Ar≠4/\iO e.AT=true) by grind];refine ak _ (vp _ O) (aH (λ hi=>ac ?_) (λ hi=>aH (λ h4=>ac ?_) (λ h4=>ak _ (aA (zZ _) Z) (ac ?_))))
   ·grind
   ·grind
   grind
  grind
 ·refine aH (λ hq=>ac (by grind)) (λ hq=>?_);rw [if_neg (λ k=>hq (decide_eq_true k))];refine ak (decide (e.It≠[]/\(bW e.It=false\/iO e.It=true))) ?_ ?_
  ·refine aH (λ hk=>ac (by simp [hk])) (λ hk=>?_);simp only [qG];refine ak (bW e.It&&!iO e.It) ?_ (ac ?_)
   ·refine ak (bW e.It&&!iO e.It) (ak _ (vp _ O) (aH (λ hi=>ak _ (aA (zZ _) Z) (ac ?_)) (λ hi=>ac ?_))) (ac Z)
    ·grind
    grind
   grind
  ·refine aH (λ hq=>ac (by grind)) (λ hq=>ac ?_)
   grind
theorem Up {e:ab}(hb:Sz e):∀ (c lv:Nat) (ci li:Int),ci=c->li=lv->c<=4096->lv<=33 ->
  Ev2 (λ n _=>cp n (bP.mk ci) e li) (λ r=>r.1=(nr c lv e).1/\r.2=bP.mk (((nr c lv e).2:Nat):Int)/\(nr c lv e).2<=4096):=by
 induction hb with
 | @mk x sn sk sv hs skids ih=>
  intro c lv ci li hc hl h1 h2;have hb:Sz x:=.mk sn sk sv hs skids;refine bD ?_;simp only [cp];rw [pP];refine aH (λ h=>?_) (λ h=>?_)
  ·exact zY
  rw [if_neg (show ¬ 32<lv by omega)];refine aH (λ h5=>?_) (λ h5=>?_)
  ·exact zY
  rw [if_neg (show ¬ 4096<=c by omega)];refine am aV ?_;refine ak _ (SO hb) ?_;refine aH (λ h0=>?_) (λ h0=>?_)
  ·rw [if_pos h0]
   have loop:∀ (k i c:Nat) (ci:Int),i+k=x.A'.length->ci=c->c<=4096->Ev2 (λ n m=>b9 (cp n) x li m (i:Int) ci) (λ s=>(nN c (lv+1) (x.A'.drop i)).2<=4096/\s=if (nN c (lv+1) (x.A'.drop i)).1=0 then .inl (((nN c (lv+1) (x.A'.drop i)).2:Nat):Int) else .inr ((nN c (lv+1) (x.A'.drop i)).1,bP.mk (((nN c (lv+1) (x.A'.drop i)).2:Nat):Int))):=by
    intro k
    induction k with
    | zero=>
     simp_all [aM,b9,ac,nN]
    | succ k ihk=>
     intro i c ci hi hc h6;refine aM ?_;simp only [b9];rw [gi _ (show i<x.A'.length by omega),oB];refine ap O (am O (am aV ?_));refine aW _ (ih _ p6 c (lv+1) ci (li+1) hc O h6 O) ?_;rintro ⟨r1,r2⟩ ⟨q1,q2,q3⟩;simp only at q1 q2;subst q1 q2;refine aH (λ h8=>?_) (λ h8=>?_)
     ·simp only [if_pos h8];refine am aV ?_;exact lS (P:=λ j=>Ev2 (λ n m=>b9 (cp n) x li m j _) _) (ihk (i+1) _ _ O rfl q3)
     simp_all [ac]
   refine gh (cH (bc (f:=λ n m=>b9 (cp n) x li m 0 (ci+1)) (loop x.A'.length 0 (c+1) (ci+1) O O O)) ?_);rintro s ⟨s1,s2⟩;simp only [List.drop_zero] at s1 s2;subst s2;by_cases h9:(nN (c+1) (lv+1) x.A').1=0
   ·simp_all [ac]
   grind
  ·rw [if_neg h0]; exact ac ⟨rfl,by grind,by omega⟩
theorem Gq {e:ab}(hb:Sz e):Ev2 (λ n _=>oQ n e) (·=chk e):=by
 simp only [oQ];exact aW _ (Up hb 0 1 0 1 Z Z (by decide) (by decide)) (λ r hr=>ac hr.1)
theorem UI {e:ab}(hb:Sz e):∀ (c lv:Nat) (ci li:Int),ci=c->li=lv->c<=4096->lv<=33 ->
  Ev2 (λ n _=>eq n e li ci) (λ r=>r.1=(nr c lv e).1/\(r.1=0->r.2=(((nr c lv e).2:Nat):Int))/\(nr c lv e).2<=4096):=by
 induction hb with
 | @mk x sn sk sv hs skids ih=>
  intro c lv ci li hc hl h1 h2;have hb:Sz x:=.mk sn sk sv hs skids;refine bD ?_;simp only [eq];rw [pP];refine aH (λ h=>?_) (λ h=>?_)
  ·exact zY
  rw [if_neg (show ¬ 32<lv by omega)];refine aH (λ h5=>?_) (λ h5=>?_)
  ·exact zY
  rw [if_neg (show ¬ 4096<=c by omega)];refine ak _ (RR hb) ?_;refine am aV ?_
  have stop:∀ (i ci kk:Int),kk≠0->Ev2 (λ n m=>cJ (eq n) x li m kk ci i) (·=(kk,ci)):=by
   simp_all [aM,cJ,ac]
  by_cases h0:lB x=0
  ·rw [if_pos h0,h0]
   have loop:∀ (k i c:Nat) (ci:Int),i+k=x.A'.length->ci=c->c<=4096->Ev2 (λ n m=>cJ (eq n) x li m 0 ci (i:Int)) (λ s=>(nN c (lv+1) (x.A'.drop i)).2<=4096/\s.1=(nN c (lv+1) (x.A'.drop i)).1/\(s.1=0->s.2=(((nN c (lv+1) (x.A'.drop i)).2:Nat):Int))):=by
    intro k
    induction k with
    | zero=>
     simp_all [aM,cJ,ac,nN]
    | succ k ihk=>
     intro i c ci hi hc h6;refine aM ?_;simp only [cJ];rw [gi _ (show i<x.A'.length by omega),oB];refine ak true yv (ap rfl (am O (am aV ?_)));refine aW _ (ih _ p6 c (lv+1) ci (li+1) hc O h6 O) ?_;rintro ⟨r1,r2⟩ ⟨q1,q2,q3⟩;simp only at q1 q2;refine am aV ?_;by_cases h8:r1=0
     ·subst h8;have q2:=q2 rfl;simp only [if_pos q1.symm];subst q2;exact lS (P:=λ j=>Ev2 (λ n m=>cJ (eq n) x li m 0 _ j) _) (ihk (i+1) _ _ O rfl q3)
     ·simp only [if_neg (show ¬ (nr c (lv+1) (lat x.A' (i:Int))).1=0 by grind)];exact cH (stop _ _ _ h8) (λ s hs=>by grind)
   refine aW _ (bc (f:=λ n m=>cJ (eq n) x li m 0 (ci+1) 0) (loop x.A'.length 0 (c+1) (ci+1) O O O)) ?_
   simp_all [ac]
  ·rw [if_neg h0];exact aW _ (bc (f:=λ n m=>cJ (eq n) x li m (lB x) (ci+1) 0) (stop _ _ _ h0)) (λ s hs=>by subst hs; exact ac (by grind))
theorem Ha {e:ab}(hb:Sz e):Ev2 (λ n _=>lC n e) (·=chk e):=by
 simp only [lC];exact aW _ (UI hb 0 1 0 1 Z Z (by decide) (by decide)) (λ r hr=>ac hr.1)
mutual
def cQ:ab->Nat|.mk _ _ _ _ _ kids _=>1+cC kids
def cC:List ab->Nat|[]=>0|x::r=>cQ x+cC r
end
theorem lr (e:ab):cQ e=1+cC e.A':=by cases e; simp only [cQ,ab.A']
theorem Nb {e:ab}(hb:ab.Bd e):∀ (nodes levels:Int),0<=nodes->nodes<=1000000->-1000000<=levels->levels<=1000000 ->
  Ev2 (λ n _=>gZ n e nodes levels) (λ r=>-1<=r/\r<=nodes/\(0<=r->r=nodes-(cQ e:Int))):=by
 induction hb with
 | @mk x bKind bOp bName bKey bValue bKids eKids bAt ih=>
  intro nodes levels h1 h2 h3 h4;have hl:=bKids;unfold ei at hl;refine bD ?_;simp only [gZ];refine aH (λ _=>ac ⟨by omega,by omega,by omega⟩) (λ h=>?_);refine am aV ?_
  have loop:∀ (k i:Nat) (c:Int),i+k=x.A'.length->-1<=c->c<=1000000->Ev2 (λ n m=>eF (gZ n) x levels m c (i:Int)) (λ s=>-1<=s/\s<=c/\(0<=s->s=c-(cC (x.A'.drop i):Int))):=by
   intro k
   induction k with
   | zero=>
    simp_all [aM,eF,ac,cC]
   | succ k ihk=>
    intro i c hi h6 h7;refine aM ?_;simp only [eF];refine ak (decide (0<=c)) yv (aH (λ h8=>?_) (λ h8=>ac ⟨h6,by omega,λ h=>absurd (by grind) h8⟩));have h8:0<=c:=by grind
    refine am O (am aV ?_);refine aW _ (ih _ p6 c (levels-1) h8 h7 O O) (λ q hq=>?_);refine am aV ?_;refine cH (lS (P:=λ j=>Ev2 (λ n m=>eF (gZ n) x levels m q j) _) (ihk (i+1) q O hq.1 O)) (λ s hs=>⟨hs.1,by omega,λ h=>?_⟩)
    grind [gi,cC]
  refine aW _ (bc (f:=λ n m=>eF (gZ n) x levels m (nodes-1) 0) (loop x.A'.length 0 (nodes-1) O O O)) (λ s hs=>ac ⟨hs.1,by omega,λ h=>?_⟩)
  grind [lr]
theorem zm {e:ab}(hb:ab.Bd e)(nodes:Int)(h1:0<=nodes)(h2:nodes<=1000000):Ev2 (λ n _=>lD n e nodes) (λ r=>r=true->(cQ e:Int)<=nodes):=by
 simp only [lD];refine aW _ (Nb hb nodes 40 h1 h2 (by decide) (by decide)) (λ r hr=>ac (λ h=>?_))
 grind
theorem Ht {e:ab}(hb:ab.Bd e):cQ e<=1000000->Ev2 (λ n _=>gG n e) (·=(cQ e:Int)):=by
 induction hb with
 | @mk x bKind bOp bName bKey bValue bKids eKids bAt ih=>
  intro h0;have hl:=bKids;unfold ei at hl;rw [lr] at h0;refine bD ?_;simp only [gG]
  have loop:∀ (k i:Nat) (c:Int),i+k=x.A'.length->0<=c->c+(cC (x.A'.drop i):Int)<=2000000->cC (x.A'.drop i)<=1000000->Ev2 (λ n m=>eR (gG n) x m c (i:Int)) (·=c+(cC (x.A'.drop i):Int)):=by
   intro k
   induction k with
   | zero=>
    simp_all [aM,eR,ac,cC]
   | succ k ihk=>
    intro i c hi h6 h7 h8;refine aM ?_;simp only [eR];rw [gi _ O] at h7 h8 ⊢;simp only [cC] at h7 h8 ⊢;refine ap O (am O ?_);refine ak _ (ih _ p6 O) ?_;refine am aV (am aV ?_)
    refine cH (lS (P:=λ j=>Ev2 (λ n m=>eR (gG n) x m (c+(cQ (lat x.A' (i:Int)):Int)) j) _) (ihk (i+1) _ O O O O)) (λ s hs=>?_);rw [hs];omega
  refine ak _ (bc (f:=λ n m=>eR (gG n) x m 1 0) (loop x.A'.length 0 1 O O  (by grind) (by grind))) (ac ?_);rw [lr]; simp
theorem Ks (h:p:=by exact xM (by decide) (by decide) (by have:=z1.2; have:=(glt g hs).2; omega) z1.1):p:=h
theorem tlS (b:Bool)(l:List af):tl b l <:+ l:=by
 grind [tl,nf,List.tail_suffix,List.dropWhile_suffix]
theorem t1 {b:Bool}{l m:List af}(h:l <:+ m):tl b l <:+ m:=(tlS b l).trans h
def Gl (l:List af):Prop:=Gd l/\l.length<=1000000000
def jl {α:Type}(P:α->Prop)(l0:List af)(x:PR α):Prop:=∀ q,x=some q->match q with
 | .inl e=>e.1≠0
 | .inr (a,l')=>P a/\l' <:+ l0/\Gl l'
theorem kP {α:Type}{P:α->Prop}{l0:List af}:jl P l0 none:=by intro q h; cases h
theorem gj {α:Type}{P:α->Prop}{l0 l':List af}{a:α}(p:P a)(h:l' <:+ l0)(g:Gl l'):jl P l0 (pok a l'):=by intro q h'; cases h'; grind
theorem vP {α:Type}{P:α->Prop}{l0:List af}{k a:Int}(h:k≠0):jl P l0 (per k a):=by intro q h'; cases h'; exact h
theorem dX {α:Type}{P:α->Prop}{p:Prop} [Decidable p] {l0:List af}{x y:PR α}(h1:p->jl P l0 x)(h2:¬p->jl P l0 y):jl P l0 (if p then x else y):=by
 grind
theorem FP {α β:Type}{x:PR α}{k:α->List af->PR β}{q:PE⊕(β×List af)}(h:pb x k=some q):(∃ e,x=some (.inl e)/\q=.inl e)\/(∃ a l,x=some (.inr (a,l))/\k a l=some q):=by
 cases x with
 | none=>cases h
 | some y=>
  rcases y with e|⟨a,l⟩
  ·cases h; grind
  ·exact .inr ⟨a,l,Z,h⟩
theorem eM {α β:Type}{P:α->Prop}{P':β->Prop}{l0 l1:List af}{x:PR α}{k:α->List af->PR β}(h:jl P l1 x)(hs:l1 <:+ l0)(hk:∀ a l',P a->l' <:+ l0->Gl l'->jl P' l0 (k a l')):jl P' l0 (pb x k):=by
 intro q hq;rcases FP hq with ⟨e,hx,rfl⟩|⟨a,l,hx,hq⟩
 ·exact h _ hx
 ·exact hk a l (h _ hx).1 ((h _ hx).2.1.trans hs) (h _ hx).2.2 q hq
theorem xC {α:Type}{P:α->Prop}{l0 l1:List af}{x:PR α}(h:jl P l1 x)(hs:l1 <:+ l0):jl P l0 x:=by
 intro q hq;have:=h q hq
 grind
theorem glk {b:Bool}{l:List af}{k:Int}(g:Gl l)(h:(hd b l).Ar=k)(hk:k≠6):Gl (tl b l):=⟨Mm (x8 g.1) O,Nat.le_trans (tlS b l).length_le g.2⟩
theorem glt {b:Bool}{l:List af}{s:Bk}(g:Gl l)(h:sgB b l s=true):Gl (tl b l):=glk g (tU.1 h).1 (by decide)
theorem glw {b:Bool}{l:List af}{s:Bk}(g:Gl l)(h:wdB b l s=true):Gl (tl b l):=glk g (AM.1 h).1 (by decide)
theorem gln {b:Bool}{l:List af}(g:Gl l):(hd b l).C'.length<=1000000000:=by
 have:=Dj (x8 (b:=b) g.1);have h1:=this.1;have h2:=this.2.1;omega
theorem gll {b:Bool}{l:List af}(g:Gl l):(tl b l).length<l.length:=SY (x8 g.1)
abbrev Tr {α:Type}:α->Prop:=λ _=>True
abbrev Nm:Bk->Prop:=λ s=>s.length<=1000000000
theorem mr {b:Bool}{s:Bk}{l:List af}(g:Gl l):jl Tr (tl b l) (fW b s l):=dX (λ h=>gj trivial (List.suffix_refl _) (glt g h)) (λ _=>vP (by decide))
theorem Tj {b:Bool}{s:Bk}{l:List af}(g:Gl l):jl Tr (tl b l) (ID b s l):=dX (λ h=>gj trivial (List.suffix_refl _) (glw g h)) (λ _=>vP (by decide))
theorem NQ {b:Bool}{l:List af}(g:Gl l):jl Nm (tl b l) (DO b l):=dX (λ h=>gj (gln g) (List.suffix_refl _) (glk g h.1 (by decide))) (λ _=>vP (by decide))
theorem GU:∀ (f c:Nat) (l:Bk) (e:SE),mg f c l=.inl e->e.1≠0
 | 0,c,l,e,h=>by grind [mg]
 | f+1,c,l,e,h=>by
  rw [na] at h
  cases hsk:fw true l with
  | nil=>
   grind [sB]
  | cons b r=>
   rw [hsk,jP] at h;split at h
   ·grind
   split at h
   ·grind
   cases ht:my (ig f 0) (b::r) with
   | inl e'=>
    rw [ht] at h; cases h;show e'.1≠0;exact GP (λ x y hxy=>(JN f 0).1 x y hxy) ht
   | inr z=>
    obtain ⟨k,t,l'⟩:=z;rw [ht,nb] at h
    cases hs:mg f (c+1) l' with
    | inl e'=>rw [hs] at h; cases h; exact GU f (c+1) l' _ hs
    | inr ts'=>grind
theorem O3 {src:Bk->SE⊕Bk}{l:Bk}(hsrc:∀ r r',src r=.inr r'->r'.length<r.length){c:Int}{t l':Bk}(h:my src l=.inr (c,t,l')):c≠6/\t.length<=l.length/\(c=3->t.length+2<=l.length)/\(c=2->t.all hQ=true):=by
 cases l with
 | nil=>cases h
 | cons b r=>
  grind [jc,List.takeWhile_prefix,List.all_takeWhile,yq]
theorem LE (c:Bool)(l:Bk):(fw c l).length<=l.length:=by
 grind [List.dropWhile_suffix,fw]
theorem CV (s:Bk)(a:Int)(h0:0<=a)(h1:a+(s.length:Int)<=1000000000):∀ (f c:Nat) (l:Bk) (ts:List Tk),l.length<=s.length->mg f c l=.inr ts->Gd ((ts.map (tkS s)).map (mvT a))/\(∀ t∈ts.map (tkS s),t.Ar=3->t.C'.length+2<=l.length)/\ts.length<=l.length+1
 | 0,c,l,ts,_,h=>by grind [mg]
 | f+1,c,l,ts,hl,h=>by
  rw [na] at h;have hk:=LE true l
  cases hsk:fw true l with
  | nil=>
   rw [hsk,sB] at h;split at h
   ·cases h
   ·cases h
    refine ⟨⟨⟨?_,?_,λ h=>absurd (show (6:Int)=3 from h) (by decide),λ h=>absurd (show (6:Int)=2 from h) (by decide)⟩,.inl ⟨Z,Z⟩⟩,?_,by simp⟩
    ·show 0<=(s.length:Int)-((0:Nat):Int)+a; omega
    ·show (s.length:Int)-((0:Nat):Int)+a+((0:Nat):Int)<=_; omega
    ·intro t ht hk; simp only [n7,List.map_nil,List.mem_singleton] at ht; subst ht; cases hk
  | cons b r=>
   rw [hsk] at hk;rw [hsk,jP] at h;split at h
   ·cases h
   split at h
   ·cases h
   cases ht:my (ig f 0) (b::r) with
   | inl e=>rw [ht] at h; cases h
   | inr z=>
    obtain ⟨k,t,l'⟩:=z;rw [ht,nb] at h;obtain ⟨b1,b2,b3,b4⟩:=O3 (λ x y hxy=>((jK f 0).1 x y hxy).2) ht;have b5:=(nt (λ x y _ hxy=>(jK f 0).1 x y hxy) ht).2
    cases hs:mg f (c+1) l' with
    | inl e=>grind
    | inr ts'=>
     rw [hs] at h; cases h;obtain ⟨i1,i2,i3⟩:=CV s a h0 h1 f (c+1) l' ts' O hs;have hn:(b::r).length<=s.length:=by omega
     refine ⟨⟨⟨?_,?_,?_,b4⟩,.inr ⟨b1,i1⟩⟩,?_,by grind⟩
     ·show 0<=(s.length:Int)-((b::r).length:Int)+a; omega
     ·show (s.length:Int)-((b::r).length:Int)+a+(t.length:Int)<=_; omega
     ·intro Xt;have:=b3 Xt;show (s.length:Int)-((b::r).length:Int)+a+1+(t.length:Int)<=_; omega
     ·intro y hy hy3;rw [n7] at hy;rcases qr.1 hy with rfl|hy
      ·have:=b3 hy3;show t.length+2<=_; omega
      grind
theorem Aj {s:Bk}{a:Int}(h0:0<=a)(h1:a+(s.length:Int)<=1000000000)(h:(jU s).2.Ar=0):Gd ((jU s).1.map (mvT a))/\(∀ t∈(jU s).1,t.Ar=3->t.C'.length+2<=s.length)/\(jU s).1.length<=65537:=by
 unfold jU at h ⊢;split
 ·grind
 ·rename_i hl;rw [if_neg hl] at h
  cases hs:mg (s.length+1) 0 s with
  | inl e=>
   rw [hs] at h;exact absurd h (GU _ _ _ e hs)
  | inr ts=>
   obtain ⟨i1,i2,i3⟩:=CV s a h0 h1 _ _ s ts (bt _) hs;refine ⟨i1,i2,?_⟩;show ([]++ts.map (tkS s)).length<=_
   grind
theorem Ay {s:Bk}{a:Int}(h0:0<=a)(h1:a+(s.length:Int)<=1000000000)(h:(jU s).2.Ar=0):Gl ((jU s).1.map (mvT a)) :=
 ⟨(Aj h0 h1 h).1,by grind [Aj]⟩
theorem sa:∀ (f:Nat),(∀ d l r,fU f d l=some (some r)->r <:+ l/\r.length<l.length)/\(∀ l r,iC f l=some (some r)->r <:+ l/\r.length<l.length)
 | 0=>⟨λ d l r h=>(by grind [fU]),λ l r h=>(by grind [iC])⟩
 | f+1=>by
  obtain ⟨i1,i2⟩:=sa f;constructor
  ·intro d l r h
   cases l with
   | nil=>grind [fU]
   | cons b l=>
    grind [fU]
  ·intro l r h
   cases l with
   | nil=>grind [iC]
   | cons b l=>
    grind [iC,List.drop_suffix]
theorem CU {l t:Bk}{n:Nat}(h:lQ l=.inr (t,n)):1<=n/\n<=l.length:=by
 cases l with
 | nil=>cases h
 | cons b r=>
  rw [lQ] at h;split at h
  ·split at h
   ·rename_i hz
    cases h
    simp_all [ua]
   ·cases h
  grind [ja]
def uh {α:Type}(P:α->Prop)(x:Option (PE⊕α)):Prop:=∀ q,x=some q->match q with
 | .inl e=>e.1≠0
 | .inr a=>P a
theorem ug {α:Type}{P:α->Prop}:uh P none:=by intro e h; cases h
theorem Ue {α:Type}{P:α->Prop}{a:α}(h:P a):uh P (some (.inr a)):=by intro e h'; grind
theorem BP {α:Type}{P:α->Prop}{k a:Int}(h:k≠0):uh P (some (.inl (k,a))):=by intro e h'; grind
theorem yo {α:Type}{P:α->Prop}{p:Prop} [Decidable p] {x y:Option (PE⊕α)}(h1:p->uh P x)(h2:¬p->uh P y):uh P (if p then x else y):=by
 grind
theorem xM {k op:Int}{nm key:Bk}{kids:List ab}{at':Int}(n:nm.length<=1000000000)(m:key.length<=1000000000)(c:kids.length<=4000000000)(h:∀ y∈kids,Sz y):Sz (ab.mk k op nm key v0 kids at') :=
 .mk (Nat.le_trans n (by decide)) (Nat.le_trans m (by decide)) HF (Nat.le_trans c (by decide)) h
theorem Km (v:ag)(at':Int)(h:VSz v):Sz (sR v at'):=.mk (ph _) (ph _) h (ph _) (λ y hy=>by cases hy)
theorem TD (s:Bk)(at':Int):Sz (p9 s at'):=Km _ _ HF
theorem m1 {a:ab}(h:Sz a):∀ y∈[a],Sz y:=λ y hy=>by grind
theorem m2 {a b:ab}(h:Sz a)(g:Sz b):∀ y∈[a,b],Sz y:=λ y hy=>by
 grind
theorem m3 {a b c:ab}(h:Sz a)(g:Sz b)(k:Sz c):∀ y∈[a,b,c],Sz y:=λ y hy=>by
 grind
def Kd (N:Nat)(ks:List ab):Prop:=(∀ y∈ks,Sz y)/\ks.length<=N
def Rd (n:Nat)(z:Int×Int×Bk×List ab×Bool):Prop:=z.2.2.1.length<=4096/\(∀ y∈z.2.2.2.1,Sz y)/\z.2.2.2.1.length<=n
structure Fct (f:Nat):Prop where
 e:∀ b l,Gl l->jl Sz (tl b l) (hZ f b l)
 b:∀ Vt b l,Gl l->jl Sz (tl b l) (tv f Vt b l)
 bl:∀ Vt b x l,Sz x->Gl l->jl Sz l (uU f Vt b x l)
 u:∀ b l,Gl l->jl Sz (tl b l) (unS f b l)
 pl:∀ b x l,Sz x->Gl l->jl Sz l (pp f b x l)
 p:∀ b l,Gl l->jl Sz (tl b l) (lR f b l)
 s:∀ b l,Gl l->(hd b l).Ar=3->jl Sz (tl b l) (yr f b l)
 n:∀ b l,Gl l->(hd b l).Ar=1->jl Sz (tl b l) (rH f b l)
 i:∀ e l,Gl l->jl (Kd l.length) (tl true l) (lk f e l)
 t:∀ l,Gl l->jl (Kd (2*l.length)) (tl true l) (uM f l)
 k:∀ l,Gl l->jl Sz (tl true l) (rb f l)
 lo:∀ a k l,Gl l->jl Sz l (q9 f a k l)
 tm:∀ (s:Bk) (a:Int),0<=a->a+(s.length:Int)<=1000000000->uh Sz (qt f s a)
 r:∀ (frm pos:Int) (text:Bk) (parts:List ab) (Vo:Bool) (s:Bk) (n:Nat),0<=pos->pos+(s.length:Int)<=1000000000->text.length<=4096->(∀ y∈parts,Sz y)->parts.length+2*s.length<=n->uh (Rd n) (ii f frm pos text parts Vo s)
 w:∀ (s:Bk) (a:Int),0<=a->a+(s.length:Int)<=1000000000->uh Sz (ll f s a)
theorem wE {l p:Bk}(h:hasPrefix l p=true):p.length<=l.length:=by
 grind [hasPrefix]
theorem PO {s:Bk}{k:Int}(h:lQ s=.inl k):k≠0:=by
 cases s with
 | nil=>cases h; decide
 | cons b r=>
  grind [lQ]
theorem J5 {frm pos:Int}{text:Bk}{parts:List ab}(h:∀ y∈parts,Sz y):(∀ y∈flS frm pos text parts,Sz y)/\(flS frm pos text parts).length<=parts.length+1:=by
 grind [flS,TD]
theorem CS {at':Int}{n:Nat}{z:Int×Int×Bk×List ab×Bool}(hn:n<=3000000000)(h:Rd n z):Sz (xR at' z):=by
 obtain ⟨frm,pos,text,parts,Vo⟩:=z;obtain ⟨h1,h2,h3⟩:=h
 grind [xR,J5,xM,TD]
theorem UF {e:ab}(h:Sz e)(at':Int):Sz (ab.mk e.Ar e.fOp e.AT e.It e.BY e.A' at'):=by
 cases h with
 | mk n k v c kids=>exact .mk n k v c kids
abbrev sfx (l:List af):l <:+ l:=List.suffix_refl l
theorem fct:∀ f,Fct f:=by
 intro f
 induction f with
 | zero=>
  constructor
  ·grind [hZ,kP]
  ·grind [tv,kP]
  ·grind [uU,kP]
  ·grind [unS,kP]
  ·grind [pp,kP]
  ·grind [lR,kP]
  ·grind [yr,kP]
  ·grind [rH,kP]
  ·grind [lk,kP]
  ·grind [uM,kP]
  ·grind [rb,kP]
  ·grind [q9,kP]
  ·grind [qt,ug]
  ·grind [ii,ug]
  grind [ll,ug]
 | succ f ih=>
  constructor
  ·intro b l g;rw [hZ];refine eM (ih.b 0 b l g) (sfx _) λ c l1 z1 s1 g1=>dX (λ hs=>?_) (λ _=>gj z1 s1 g1);exact eM (ih.e b _ (glt g1 hs)) (t1 (t1 s1)) λ a l2 z2 s2 g2=>eM (mr g2) (t1 s2) λ _ l3 _ s3 g3=>eM (ih.e b _ g3) (t1 s3) λ d l4 z4 s4 g4=>gj (xM (by decide) (by decide) G (m3 z1 z2 z4)) s4 g4
  ·intro v b l g;rw [tv];exact dX (λ _=>ih.u b l g) (λ _=>eM (ih.b _ b l g) (sfx _) λ e l1 z1 s1 g1=>xC (ih.bl v b e l1 z1 g1) s1)
  ·intro v b x l zx g;rw [uU]
   cases ha:wY b l v with
   | none=>grind [gj]
   | some p=>
    have hs:sgB b l p.1=true:=List.find?_some (p:=λ p:Bk×Int=>sgB b l p.1) ha;exact eM (ih.b _ b _ (glt g hs)) (t1 (tlS b l)) λ y l1 z1 s1 g1=>xC (ih.bl v b _ l1 (xM (by decide) (by decide) G (m2 zx z1)) g1) s1
  ·intro b l g;rw [unS];refine dX (λ hs=>eM (ih.u b _ (glt g hs)) (t1 (sfx _)) λ e l1 z1 s1 g1=>gj (xM (by decide) (by decide) G (m1 z1)) s1 g1) (λ _=>dX (λ hs=>eM (ih.u b _ (glt g hs)) (t1 (sfx _)) λ e l1 z1 s1 g1=>gj (xM (by decide) (by decide) G (m1 z1)) s1 g1) (λ _=>?_));exact eM (ih.p b l g) (sfx _) λ e l1 z1 s1 g1=>xC (ih.pl b e l1 z1 g1) s1
  ·intro b x l zx g;rw [pp];refine dX (λ hs=>dX (λ hk=>?_) (λ _=>vP (by decide))) (λ _=>dX (λ hs=>?_) (λ _=>gj zx (sfx _) g))
   ·exact xC (ih.pl b _ _ (xM (gln (glt g hs)) (by decide) G (m1 zx)) (glk (glt g hs) hk (by decide))) (t1 (tlS b l))
   ·exact eM (ih.e true _ (glt g hs)) (t1 (tlS b l)) λ y l1 z1 s1 g1=>eM (mr g1) (t1 s1) λ _ l2 _ s2 g2=>xC (ih.pl b _ _ (xM (by decide) (by decide) G (m2 zx z1)) g2) s2
  ·intro b l g;rw [lR];refine dX (λ hk=>dX (λ _=>gj (Km _ _ HF) (sfx _) (glk g hk (by decide))) (λ h=>vP h)) (λ _=>dX (λ hk=>ih.s b l g hk) (λ _=>dX (λ hk=>ih.n b l g hk) (λ _=>?_)));refine dX (λ hs=>eM (ih.e true _ (glt g hs)) (tlS true _) λ e l1 z1 s1 g1=>eM (mr g1) (t1 s1) λ _ l2 _ s2 g2=>gj z1 s2 g2) (λ _=>?_);refine dX (λ hs=>dX (λ hw=>xC (ih.lo _ _ _ (glw (glt g hs) hw)) (tlS true _)) (λ _=>eM (ih.i _ _ (glt g hs)) (tlS true _) λ ks l1 z1 s1 g1=>gj Ks s1 g1)) (λ _=>?_);exact dX (λ hs=>dX (λ hw=>xC (ih.lo _ _ _ (glw (glt g hs) hw)) (tlS true _)) (λ _=>eM (ih.t _ (glt g hs)) (tlS true _) λ ks l1 z1 s1 g1=>gj Ks s1 g1)) (λ _=>vP (by decide))
  ·intro b l g hk;rw [yr];intro q hq;have hb:=Dj (x8 (b:=b) g.1);have ht':=ih.tm (hd b l).C' ((hd b l).fAt+1) (by have:=hb.1; omega) (by have:=hb.2.2.1 hk; omega)
   cases ht:qt f (hd b l).C' ((hd b l).fAt+1) with
   | none=>grind
   | some y=>
    rw [ht] at hq;have ht':=ht' y ht;rcases y with e|e
    ·grind
    ·cases hq; simp_all [UF,glk]
  ·intro b l g hk;have g1:=glk g hk (by decide);have gn:=gln (b:=b) g;rw [rH];refine dX (λ _=>gj (Km _ _ HF) (sfx _) g1) (λ _=>dX (λ _=>gj (Km _ _ HF) (sfx _) g1) (λ _=>dX (λ _=>gj (Km _ _ HF) (sfx _) g1) (λ _=>dX (λ _=>vP (by decide)) (λ _=>?_))));exact dX (λ hs=>eM (ih.i _ _ (glt g1 hs)) (t1 (tlS b _)) λ ks l1 z1 s1 g2=>gj (xM gn (by decide) (by have:=z1.2; have:=(glt g1 hs).2; omega) z1.1) s1 g2) (λ _=>gj (xM gn (by decide) (by decide) (λ y hy=>by cases hy)) (sfx _) g1)
  ·intro e l g;have gt:=gll (b:=true) g;rw [lk];refine dX (λ hs=>gj ⟨(λ y hy=>by cases hy),ph _⟩ (sfx _) (glt g hs)) (λ _=>eM (ih.e true l g) (sfx _) λ x l1 zx s1 g1=>dX (λ hs=>?_) (λ _=>eM (mr g1) (t1 s1) λ _ l2 _ s2 g2=>gj ⟨m1 zx,by grind⟩ s2 g2));have h1:=s1.length_le;have h2:=gll (b:=true) g1
   exact eM (ih.i e _ (glt g1 hs)) (t1 (t1 s1)) λ r l2 z2 s2 g2=>gj ⟨λ y hy=>by
    rcases qr.1 hy with rfl|hy
    ·exact zx
    ·exact z2.1 y hy,by have:=z2.2; grind⟩ s2 g2
  ·intro l g;have gt:=gll (b:=true) g;rw [uM];refine dX (λ hs=>gj ⟨(λ y hy=>by cases hy),ph _⟩ (sfx _) (glt g hs)) (λ _=>eM (ih.k l g) (sfx _) λ k l1 z1 s1 g1=>eM (mr g1) (t1 s1) λ _ l2 _ s2 g2=>eM (ih.e true l2 g2) (t1 s2) λ x l3 z3 s3 g3=>dX (λ hs=>?_) (λ _=>eM (mr g3) (t1 s3) λ _ l4 _ s4 g4=>gj ⟨m2 z1 z3,by grind⟩ s4 g4));have h1:=s3.length_le;have h2:=gll (b:=true) g3
   exact eM (ih.t _ (glt g3 hs)) (t1 (t1 s3)) λ r l4 z4 s4 g4=>gj ⟨λ y hy=>by
    rcases qr.1 hy with rfl|hy
    ·exact z1
    rcases qr.1 hy with rfl|hy
    ·exact z3
    ·exact z4.1 y hy,by have:=z4.2; grind⟩ s4 g4
  ·intro l g;rw [rb];refine dX (λ hk=>gj (TD _ _) (sfx _) (glk g hk (by decide))) (λ _=>dX (λ hk=>ih.s true l g hk) (λ _=>dX (λ hs=>?_) (λ _=>vP (by decide))));exact eM (ih.e true _ (glt g hs)) (tlS true _) λ e l1 z1 s1 g1=>eM (mr g1) (t1 s1) λ _ l2 _ s2 g2=>gj z1 s2 g2
  ·intro a k l g;rw [q9];refine eM (NQ g) (tlS true l) λ v l1 z1 s1 g1=>eM (P:=λ p:Bk×Bk=>p.1.length<=1000000000/\p.2.length<=1000000000) (l1:=l1) (dX (λ hs=>eM (NQ (glt g1 hs)) (t1 (tlS true l1)) λ w l2 z2 s2 g2=>gj ⟨z2,z1⟩ s2 g2) (λ _=>gj ⟨z1,ph _⟩ (sfx _) g1)) s1 λ nk l2 zn s2 g2=>?_;refine eM (Tj g2) (t1 s2) λ _ l3 _ s3 g3=>eM (ih.e true l3 g3) (t1 s3) λ x l4 z4 s4 g4=>eM (mr g4) (t1 s4) λ _ l5 _ s5 g5=>eM (ih.e true l5 g5) (t1 s5) λ c l6 z6 s6 g6=>?_;refine eM (P:=Kd 3) (l1:=l6) (dX (λ _=>eM (mr g6) (tlS true l6) λ _ l7 _ s7 g7=>eM (ih.e true l7 g7) (t1 s7) λ d l8 z8 s8 g8=>gj ⟨m3 z4 z6 z8,by simp⟩ s8 g8) (λ _=>gj ⟨m2 z4 z6,by simp⟩ (sfx _) g6)) s6 λ ks l7 z7 s7 g7=>?_
   refine eM (P:=Kd 4) (l1:=l7) (dX (λ hw=>eM (ih.e true _ (glw g7 hw)) (t1 (tlS true l7)) λ e l8 z8 s8 g8=>gj ⟨λ y hy=>by
    rcases List.mem_append.1 hy with hy|hy
    ·exact z7.1 y hy
    grind,by have:=z7.2; grind⟩ s8 g8) (λ _=>gj ⟨z7.1,by have:=z7.2; omega⟩ (sfx _) g7)) s7 λ ks l8 z8 s8 g8=>?_
   exact eM (mr g8) (t1 s8) λ _ l9 _ s9 g9=>gj (xM zn.1 zn.2 (by have:=z8.2; omega) z8.1) s9 g9
  ·intro s a h0 h1;rw [qt];have hr':=ih.r a a [] [] false s (2*s.length) h0 h1 (by decide) (λ y hy=>by cases hy) G;intro q hq
   cases hr:ii f a a [] [] false s with
   | none=>grind
   | some y=>
    rw [hr] at hq;have hr':=hr' y hr;rcases y with e'|z
    ·grind
    ·have hz:Sz (xR a z):=CS O hr'
     grind [uy]
  ·intro frm pos text parts Vo s n h0 h1 ht hp hn
   cases s with
   | nil=>rw [ii]; exact Ue ⟨ht,hp,by grind⟩
   | cons c r=>
    have hcl:(c::r).length=r.length+1:=rfl;rw [ii];refine yo (λ hx=>yo (λ _=>BP (by decide)) (λ hl=>ih.r _ _ _ _ _ _ n O ?_ ?_ hp ?_)) (λ _=>yo (λ hx=>?_) (λ _=>?_))
    ·have:=wE hx
     grind
    ·grind
    ·grind
    ·cases hc:fU f 1 ((c::r).drop 2) with
     | none=>exact ug
     | some y=>
      cases y with
      | none=>grind [BP]
      | some r'=>
       simp only [];have hr:=(sa f).1 _ _ _ hc;have hr2:=hr.2;have hr1:=hr.1.length_le;have hx:=wE hx;have hfl:=J5 (frm:=frm) (pos:=pos) (text:=text) hp;rw [List.length_drop] at hr1 hr2;simp only [aq,List.length_nil] at hr1 hr2 h1 hx hn;have hw':=ih.w (((c::r).drop 2).take (((c::r).drop 2).length-r'.length-1)) (pos+2) O (by grind)
       cases hw:ll f (((c::r).drop 2).take (((c::r).drop 2).length-r'.length-1)) (pos+2) with
       | none=>exact ug
       | some z=>
        have hw':=hw' z hw;rcases z with e|e
        ·intro e' h; grind
        ·refine ih.r _ _ _ _ _ _ n O (by grind) (by decide) (λ y hy=>?_) (by grind)
         grind
    ·cases hi:lQ (c::r) with
     | inl k=>exact BP (PO hi)
     | inr tn=>
      have:=CU hi;exact yo (λ _=>BP (by decide)) (λ hl=>ih.r _ _ _ _ _ _ n O (by grind) (by grind) hp (by grind))
  ·intro s a h0 h1;rw [ll];refine yo (λ h=>BP h) (λ hk=>?_);have hk:(jU s).2.Ar=0:=Classical.not_not.1 hk;have hx':=ih.e true _ (Ay h0 h1 hk);intro q hq
   cases hx:hZ f true ((jU s).1.map (mvT a)) with
   | none=>grind
   | some y=>
    rw [hx] at hq;have hx':=hx' y hx
    grind
theorem KX (h:p:=by
 refine ap Z ?_;refine gm (wK hL Pn _ h) λ j h3=>?_
 exact ac ⟨j,Z,h3⟩):p:=h
theorem Em (h:p:=by
 refine gm (fZ hL Pn h3 O) λ j ⟨h3,h4,h5⟩=>?_
 exact ak _ (aA Z Z) (ac ⟨Z,j,Z,h3⟩)):p:=h
theorem N8 (h:p:=by
 rw [if_pos hs] at hq; cases hq;refine ar (by simp [hs]) (ac ⟨j,l,by grind,h3,?_⟩)
 unfold fW; rw [if_pos hs]; rfl):p:=h
theorem Ki (h:p:=by
 rintro ⟨ks,z⟩ ⟨j,l'',hz,h3,h4⟩
 cases hz; exact ac ⟨j,l'',rfl,rfl,h3,h4⟩):p:=h
theorem Ec (h:p:=by
 rintro ⟨ys,z⟩ ⟨j,l'',hy,hz,h3,hxx⟩
 cases hy; cases hz
 refine aW _ (ql hL Pn _ hn hb h3 hxx) ?_;rintro _ ⟨j,rfl,h3,h4⟩
 cases hq
 exact ac ⟨Z,j,Z,h3⟩):p:=h
theorem vg (h:p:=by
 cases hq
 exact ac ⟨Z,j,Z,h3⟩):p:=h
theorem qN (h:p:=by exact wK hL Pn _ h3):p:=h
theorem xV (h:p:=by exact ac ⟨j,Z,h3⟩):p:=h
theorem ql {L:List af}{base:Int}(hL:Gd (L.map (mvT base)))(Pn:L.length<=1000000000){i:Nat}{Sk:Int}{b:Bool}{l:List af}(s:Bk){q:PE⊕(Unit×List af)}(h0:0<=Sk)(hb:b=decide (0<Sk))(h:Pos L base i (Sk+1) true l)(hq:fW true s l=some q) :
  Ev2 (λ n _=>co n (.mk L (i:Int) (Sk+1) base dOk) s) (Jr L base Sk b q):=by subst hb; grind [L4]
theorem sg6 {b:Bool}{l:List af}{s:Bk}(h:sgB b l s=true):(hd b l).Ar≠6:=by grind [tU]
theorem wd6 {b:Bool}{l:List af}{s:Bk}(h:wdB b l s=true):(hd b l).Ar≠6:=by grind [AM]
theorem Rx (e:ab):ab.mk e.Ar e.fOp e.AT e.It (ag.mk e.BY.Ar e.BY.G' e.BY.D' e.BY.Gw e.BY.F') e.A' e.fAt=e:=by
 obtain ⟨k,op,nm,key,⟨vk,vn,vs,vi,vks⟩,kids,at'⟩:=e; rfl
def BI {α:Type}(L:List af)(base Sk:Int)(b:Bool)(q:α×List af)(z:α×ah):Prop:=z.1=q.1/\∃ j:Nat,z.2=.mk L (j:Int) Sk base dOk/\Pos L base j Sk b q.2
def FG {α:Type}(b:Bool)(l:List af)(x:PR α)(G0z:List af->Int->Nat->Int->α×List af->Prop):Prop :=∀ (L:List af) (base:Int),Gd (L.map (mvT base))->L.length<=1000000000->∀ (i:Nat) (Sk:Int) (q:α×List af),Pos L base i Sk b l->x=some (.inr q)->G0z L base i Sk q
def Fl {α:Type}(F:Nat->ah->Option (α×ah))(b:Bool)(l:List af)(x:PR α):Prop:=FG b l x λ L base i Sk q=>Ev2 (λ n _=>F n (.mk L (i:Int) Sk base dOk)) (BI L base Sk b q)
def FlC {α:Type}(F:Nat->ah->Option (α×ah))(l:List af)(x:PR α):Prop :=∀ (L:List af) (base:Int),Gd (L.map (mvT base))->L.length<=1000000000->∀ (i:Nat) (Sk:Int) (b:Bool) (q:α×List af),0<=Sk->b=decide (0<Sk)->Pos L base i (Sk+1) true l->x=some (.inr q)->Ev2 (λ n _=>F n (.mk L (i:Int) (Sk+1) base dOk)) (BI L base Sk b q)
def Rk (L:List af)(base Sk:Int)(en:Bk)(out:List ab)(q:List ab×List af)(r:List ab×List af×Int×Int×Int×Int×Int×Bk):Prop:=∃ (j:Nat) (l'':List af),r=(out++q.1,L,(j:Int),Sk,base,0,0,[])/\Pos L base j Sk true l''/\fW true en l''=some (.inr ((),q.2))
def RdO (s:Bk)(a:Int)(q:Int×Int×Bk×List ab×Bool)(r:(Bk×Int×Int×Int×Bk×(List ab)×Bool)⊕(az×ay)):Prop:=∃ (i fr:Nat),q.1=a+(fr:Int)/\q.2.1=a+(i:Int)/\fr<=i/\i<=s.length/\q.2.2.2.1.length<=2*i/\r=.inl (s,a,(i:Int),(fr:Int),q.2.2.1,q.2.2.2.1,q.2.2.2.2)
structure Fol (f:Nat):Prop where
 e:∀ b l,Fl aO b l (hZ f b l)
 b:∀ (Vt:Nat) (li:Int) b l,li=Vt->Vt<=6->Fl (λ n p=>ca n p li) b l (tv f Vt b l)
 bl:∀ (Vt:Nat) (li:Int) b l (x:ab) (r5:ab×ah),li=Vt->Vt<=5->x.fAt=r5.1.fAt->FG b l (uU f Vt b x l) λ L base i Sk q=>Ev2 (λ n m=>cF n (ca n) li r5 m x.Ar x.fOp x.AT x.It x.BY.Ar x.BY.G' x.BY.D' x.BY.Gw x.BY.F' x.A' L (i:Int) Sk base 0 0 []) (λ s=>∃ z,s=.inr z/\BI L base Sk b q z)
 u:∀ b l,Fl eH b l (unS f b l)
 pl:∀ b l (x:ab) (r1:ab×ah),x.fAt=r1.1.fAt->FG b l (pp f b x l) λ L base i Sk q=>Ev2 (λ n m=>cw n (aO n) r1 m x.Ar x.fOp x.AT x.It x.BY.Ar x.BY.G' x.BY.D' x.BY.Gw x.BY.F' x.A' L (i:Int) Sk base 0 0 []) (λ s=>∃ z,s=.inr z/\BI L base Sk b q z)
 p:∀ b l,Fl fo b l (lR f b l)
 s:∀ b l,(hd b l).Ar=3->Fl fJ b l (yr f b l)
 n:∀ b l,(hd b l).Ar=1->Fl gT b l (rH f b l)
 i:∀ (en:Bk) (l:List af) (out:List ab),Gd l->out.length+l.length<=1000000000->FG true l (lk f en l) λ L base i Sk q=>Ev2 (λ n m=>dx n (aO n) en m out L (i:Int) Sk base 0 0 []) (Rk L base Sk en out q)
 t:∀ (l:List af) (out:List ab),Gl l->out.length+2*l.length<=3000000000->FG true l (uM f l) λ L base i Sk q=>Ev2 (λ n m=>cx n (aO n) (dN n) m out L (i:Int) Sk base 0 0 []) (Rk L base Sk [125] out q)
 k:∀ l,Fl dN true l (rb f l)
 lo:∀ (a k:Int) l,wdB true l [102,111,114]=true->k=12\/k=13->FlC (λ n p=>fO n p a k) l (q9 f a k (tl true l))
 tm:∀ (s:Bk) (a:Int) q,0<=a->a+(s.length:Int)<=1000000000->qt f s a=some (.inr q)->Ev2 (λ n _=>jF n s a) (·=(q,dOk))
 r:∀ (s:Bk) (a:Int) (i fr:Nat) (text:Bk) (parts:List ab) (Vo:Bool) q,0<=a->a+(s.length:Int)<=1000000000->i<=s.length->fr<=i->text.length<=4096->parts.length<=2*i->ii f (a+(fr:Int)) (a+(i:Int)) text parts Vo (s.drop i)=some (.inr q)->Ev2 (λ n m=>cq n (bm n) m s a (i:Int) (fr:Int) text parts Vo) (RdO s a q)
 w:∀ (s:Bk) (a:Int) q,0<=a->a+(s.length:Int)<=1000000000->ll f s a=some (.inr q)->Ev2 (λ n _=>jr n s a) (·=(q,dOk))
theorem sS {α β:Type}{x:PR α}{k:α->List af->PR β}{q:β×List af}(h:pb x k=some (.inr q)):∃ a l,x=some (.inr (a,l))/\k a l=some (.inr q):=by
 rcases FP h with ⟨e,_,h⟩|⟨a,l,h⟩
 ·cases h
 grind
theorem rB {α β γ:Type}{L:List af}{base Sk:Int}{b:Bool}{x:PR α}{k:α->List af->PR β}{q:β×List af}{f:Nat->Nat->Option (α×ah)}{g:Nat->Nat->α×ah->Option γ}{P:γ->Prop}(hq:pb x k=some (.inr q))
  (hc:∀ q',x=some (.inr q')->Ev2 f (BI L base Sk b q'))
  (h2:∀ a l (j:Nat),x=some (.inr (a,l))->Pos L base j Sk b l->k a l=some (.inr q)->Ev2 (λ n m=>g n m (a,.mk L (j:Int) Sk base dOk)) P):Ev2 (λ n m=>(f n m).bind (g n m)) P:=by
 obtain ⟨a,l,hx,hq⟩:=sS hq;refine aW _ (hc _ hx) ?_;rintro ⟨z1,z2⟩ ⟨h,j,h3,h4⟩
 grind
theorem vU {β γ:Type}{L:List af}{base Sk:Int}{b:Bool}{x:PR Unit}{k:Unit->List af->PR β}{q:β×List af}{f:Nat->Nat->Option ah}{g:Nat->Nat->ah->Option γ}{P:γ->Prop}(hq:pb x k=some (.inr q))
  (hc:∀ q',x=some q'->Ev2 f (Jr L base Sk b q'))
  (h2:∀ l (j:Nat),x=some (.inr ((),l))->Pos L base j Sk b l->(L.drop j).map (mvT base)=l->k () l=some (.inr q)->Ev2 (λ n m=>g n m (.mk L (j:Int) Sk base dOk)) P):Ev2 (λ n m=>(f n m).bind (g n m)) P:=by
 obtain ⟨a,l,hx,hq⟩:=sS hq;refine aW _ (hc _ hx) ?_;rintro _ ⟨j,rfl,h3,h4⟩
 grind
theorem UB {f:Nat}(ih:Fol f):∀ b l,Fl aO b l (hZ (f+1) b l):=by
 intro b l L base hL Pn i Sk q h hq;rw [hZ] at hq;refine bD ?_;simp only [aO];refine rB hq (λ _ hx=>ih.b 0 0 b l rfl (by decide) L base hL Pn i Sk _ h hx) ?_;intro c l1 j hx h3 hq;refine gm qN λ j h3=>?_;by_cases hs:sgB b l1 [63]=true
 ·rw [if_pos hs] at hq;refine ar (by simp [hs]) ?_;refine gm (fZ hL Pn h3 (sg6 hs)) λ j ⟨h3,h4,h5⟩=>?_;refine rB hq (λ _ hx=>ih.e b _ L base hL Pn j Sk _ h3 hx) ?_;intro a l2 j hx h3 hq;refine vU hq (λ _ hx=>uH hL Pn _ h3 hx) ?_;intro l3 j hx h3 h4 hq;refine rB hq (λ _ hx=>ih.e b _ L base hL Pn j Sk _ h3 hx) ?_;intro d l4 j hx h3 hq;exact vg
 ·rw [if_neg hs] at hq; cases hq;exact ap (by grind) vd
theorem Ug {f:Nat}(ih:Fol f):∀ (Vt:Nat) (li:Int) b l,li=Vt->Vt<=6->Fl (λ n p=>ca n p li) b l (tv (f+1) Vt b l):=by
 intro Vt li b l hli h6 L base hL Pn i Sk q h hq;rw [tv] at hq;refine bD ?_;simp only [ca];by_cases hv:5<Vt
 ·rw [if_pos hv] at hq;refine ap O ?_;refine aW _ (ih.u b l L base hL Pn i Sk _ h hq) ?_
  simp_all [ac]
 ·rw [if_neg hv] at hq;refine ar O (am aV ?_);refine rB hq (λ _ hx=>ih.b (Vt+1) (li+1) b l O O  L base hL Pn i Sk _ h hx) ?_;intro c l1 j hx h3 hq;refine gh (cH (bc (ih.bl Vt li b _ _ (_,.mk L (j:Int) Sk base dOk) hli O rfl L base hL Pn j Sk q h3 hq)) ?_)
  grind
theorem TN {f:Nat}(ih:Fol f):∀ (Vt:Nat) (li:Int) b l (x:ab) (r5:ab×ah),li=Vt->Vt<=5->x.fAt=r5.1.fAt->FG b l (uU (f+1) Vt b x l) λ L base i Sk q=>Ev2 (λ n m=>cF n (ca n) li r5 m x.Ar x.fOp x.AT x.It x.BY.Ar x.BY.G' x.BY.D' x.BY.Gw x.BY.F' x.A' L (i:Int) Sk base 0 0 []) (λ s=>∃ z,s=.inr z/\BI L base Sk b q z):=by
 intro Vt li b l x r5 hli hl5 VD L base hL Pn i Sk q h hq;rw [uU] at hq;refine aM ?_;simp only [cF];subst hli;refine ak _ (aA (Kp hl5) rfl) ?_;have ha:=LW hL Pn ((sN Vt).map (·.1)) QG h;rw [ME] at ha;have eta:ab.mk x.Ar x.fOp x.AT x.It (ag.mk x.BY.Ar x.BY.G' x.BY.D' x.BY.Gw x.BY.F') x.A' r5.1.fAt=x:=by grind [Rx]
 rw [eta]
 cases hp:wY b l Vt with
 | none=>
  rw [hp] at ha hq
  cases hq
  refine aW _ ha ?_;rintro _ ⟨j,rfl,h3⟩;exact ap rfl (ac ⟨_,rfl,rfl,j,rfl,h3⟩)
 | some p=>
  rw [hp] at ha hq;obtain ⟨hm,hs⟩:=QC hp;refine aW _ ha ?_;rintro _ ⟨j,rfl,h3⟩;refine ar wr ?_;refine gm (fZ hL Pn h3 (sg6 hs)) λ j ⟨h3,h4,h5⟩=>?_;refine am aV ?_;have hq:pb (tv f (Vt+1) b (tl b l)) (λ y l=>uU f Vt b (ab.mk 7 p.2 [] [] v0 [x,y] x.fAt) l)=some (.inr q):=hq;refine rB hq (λ _ hx=>ih.b (Vt+1) ((Vt:Int)+1) b _ O O  L base hL Pn j Sk _ h3 hx) ?_;intro y l1 j hx h3 hq;refine ak _ (Ur hl5 hm) ?_;exact ih.bl Vt Vt b _ (ab.mk 7 p.2 [] [] v0 [x,_] x.fAt) r5 rfl hl5 VD L base hL Pn j Sk q h3 hq
theorem MQ {f:Nat}(ih:Fol f):∀ b l,Fl gq b l (pb (lR f b l) λ e l=>pp f b e l):=by
 intro b l L base hL Pn i Sk q h hq;refine bD ?_;simp only [gq];refine rB hq (λ _ hx=>ih.p b l L base hL Pn i Sk _ h hx) ?_;intro c l1 j hx h3 hq;refine gh (cH (bc (ih.pl b _ _ (_,.mk L (j:Int) Sk base dOk) rfl L base hL Pn j Sk q h3 hq)) ?_)
 grind
theorem UH {f:Nat}(ih:Fol f):∀ b l,Fl eH b l (unS (f+1) b l):=by
 intro b l L base hL Pn i Sk q h hq;rw [unS] at hq;refine bD ?_;simp only [eH];by_cases hs:sgB b l [33]=true
 ·rw [if_pos hs] at hq;refine aW (λ t=>∃ j:Nat,t=(1,L,(j:Int),Sk,base,0,0,[])/\Pos L base j Sk b l) ?_ ?_
  ·refine gm xZ λ j h3=>?_;exact ap hs xV
  ·rintro _ ⟨j,rfl,h3⟩;refine ar (show ¬ (1:Int)=0 by decide) ?_;refine gm (fZ hL Pn h3 (sg6 hs)) λ j ⟨h3,h4,h5⟩=>?_;refine rB hq (λ _ hx=>ih.u b _ L base hL Pn j Sk _ h3 hx) ?_;intro c l1 j hx h3 hq;exact vg
 rw [if_neg hs] at hq;by_cases hs2:sgB b l [45]=true
 ·rw [if_pos hs2] at hq;refine aW (λ t=>∃ j:Nat,t=(2,L,(j:Int),Sk,base,0,0,[])/\Pos L base j Sk b l) ?_ ?_
  ·refine gm xZ λ j h3=>?_;refine ar hs ?_;refine gm qN λ j h3=>?_;exact ap hs2 xV
  ·rintro _ ⟨j,rfl,h3⟩;refine ar (show ¬ (2:Int)=0 by decide) ?_;refine gm (fZ hL Pn h3 (sg6 hs2)) λ j ⟨h3,h4,h5⟩=>?_;refine rB hq (λ _ hx=>ih.u b _ L base hL Pn j Sk _ h3 hx) ?_;intro c l1 j hx h3 hq;exact vg
 rw [if_neg hs2] at hq;refine aW (λ t=>∃ j:Nat,t=(0,L,(j:Int),Sk,base,0,0,[])/\Pos L base j Sk b l) ?_ ?_
 ·refine gm xZ λ j h3=>?_;refine ar hs ?_;refine gm qN λ j h3=>?_;exact ar hs2 xV
 ·rintro _ ⟨j,rfl,h3⟩;refine ap rfl ?_;refine aW _ (MQ ih b l L base hL Pn j Sk _ h3 hq) ?_
  simp_all [ac]
theorem S6 {f:Nat}(ih:Fol f):∀ b l (x:ab) (r1:ab×ah),x.fAt=r1.1.fAt->FG b l (pp (f+1) b x l) λ L base i Sk q=>Ev2 (λ n m=>cw n (aO n) r1 m x.Ar x.fOp x.AT x.It x.BY.Ar x.BY.G' x.BY.D' x.BY.Gw x.BY.F' x.A' L (i:Int) Sk base 0 0 []) (λ s=>∃ z,s=.inr z/\BI L base Sk b q z):=by
 intro b l x r1 VD L base hL Pn i Sk q h hq;have hn:=h.2.1;have hb:=h.2.2.2.1;rw [pp] at hq;refine aM ?_;simp only [cw];have eta:ab.mk x.Ar x.fOp x.AT x.It (ag.mk x.BY.Ar x.BY.G' x.BY.D' x.BY.Gw x.BY.F') x.A' r1.1.fAt=x:=by grind [Rx]
 rw [eta];refine gh ?_;refine gm xZ λ j h3=>?_;by_cases hs:sgB b l [46]=true
 ·rw [if_pos hs] at hq;refine ap hs ?_;refine gm (fZ hL Pn h3 (sg6 hs)) λ j ⟨h3,h4,h5⟩=>?_;refine gm (kT hL Pn h3) λ j ⟨h3,h4,h5⟩=>?_;by_cases hk:(hd b (tl b l)).Ar=1
  ·rw [if_pos hk] at hq;refine ap hk ?_;refine gm (fZ hL Pn h3 O) λ j ⟨h3,h4,h5⟩=>?_;exact ac (ih.pl b _ (ab.mk 4 0 (hd b (tl b l)).C' [] v0 [x] x.fAt) r1 VD L base hL Pn j Sk q h3 hq)
  ·rw [if_neg hk] at hq; cases hq
 rw [if_neg hs] at hq;refine ar hs ?_;refine gm qN λ j h3=>?_;by_cases hs2:sgB b l [91]=true
 ·rw [if_pos hs2] at hq;refine ap hs2 ?_;refine aW _ (sI hL Pn h3 (sg6 hs2)) ?_;rintro _ ⟨j,rfl,h3⟩;refine rB hq (λ _ hx=>ih.e true _ L base hL Pn j (Sk+1) _ h3 hx) ?_;intro y l1 j hx h3 hq;refine vU hq (λ _ hx=>ql hL Pn _ hn hb h3 hx) ?_;intro l2 j hx h3 h4 hq;exact ac (ih.pl b _ (ab.mk 5 0 [] [] v0 [x,_] x.fAt) r1 VD L base hL Pn j Sk q h3 hq)
 ·rw [if_neg hs2] at hq; cases hq;exact ar hs2 (ac ⟨_,rfl,rfl,j,rfl,h3⟩)
theorem Pos.gl {L:List af}{base:Int}(hL:Gd (L.map (mvT base)))(Pn:L.length<=1000000000){i:Nat}{Sk:Int}{b:Bool}{l:List af}(h:Pos L base i Sk b l)(hk:(hd b l).Ar≠6):Gl (tl b l):=by
 refine ⟨Mm (h.gd hL) hk,?_⟩;have h1:=congrArg List.length (yy (h.gd hL));have h2:=congrArg List.length h.2.2.2.2
 grind [Ee]
def LP (L:List af)(base Sk:Int)(en:Bk)(q:List ab×List af)(r:List ab×ah):Prop:=∃ (j:Nat) (l'':List af),r.1=q.1/\r.2=.mk L (j:Int) Sk base dOk/\Pos L base j Sk true l''/\fW true en l''=some (.inr ((),q.2))
theorem CP {f:Nat}(ih:Fol f):∀ (en:Bk) (l:List af),Gl l->FG true l (lk f en l) λ L base i Sk q=>Ev2 (λ n _=>gU n (.mk L (i:Int) Sk base dOk) en) (LP L base Sk en q):=by
 intro en l gl L base hL Pn i Sk q h hq;refine bD ?_;simp only [gU];refine aW _ (bc (ih.i en l [] gl.1 (by have:=gl.2; grind) L base hL Pn i Sk q h hq)) ?_;exact Ki
theorem OT {f:Nat}(ih:Fol f):∀ (l:List af),Gl l->FG true l (uM f l) λ L base i Sk q=>Ev2 (λ n _=>gk n (.mk L (i:Int) Sk base dOk)) (LP L base Sk [125] q):=by
 intro l gl L base hL Pn i Sk q h hq;refine bD ?_;simp only [gk];refine aW _ (bc (ih.t l [] gl (by have:=gl.2; grind) L base hL Pn i Sk q h hq)) ?_;exact Ki
theorem UM {f:Nat}(ih:Fol f):∀ b l,Fl fo b l (lR (f+1) b l):=by
 intro b l L base hL Pn i Sk q h hq;have hn:=h.2.1;have hb:=h.2.2.2.1;rw [lR] at hq;refine bD ?_;simp only [fo,bK,rg];refine ar wr ?_;refine gm (kT hL Pn h) λ j ⟨h3,h4,h5⟩=>?_;have tk:=Dj (h3.gd hL);have t1':=tk.1;have t2':=tk.2.1;by_cases k2:(hd b l).Ar=2
 ·rw [if_pos k2] at hq;refine ap k2 (ak _ (C6 _ (by grind)) ?_);by_cases hz:(wn (hd b l).C').2=0
  ·rw [if_pos hz] at hq; cases hq;refine ap hz ?_;exact Em
  ·rw [if_neg hz] at hq; cases hq
 rw [if_neg k2] at hq;refine ar k2 ?_;by_cases k3:(hd b l).Ar=3
 ·rw [if_pos k3] at hq;refine ap k3 (aW _ (ih.s b l k3 L base hL Pn j Sk q h3 hq) ?_)
  simp_all [ac]
 rw [if_neg k3] at hq;refine ar k3 ?_;by_cases k1:(hd b l).Ar=1
 ·rw [if_pos k1] at hq;refine ap k1 (aW _ (ih.n b l k1 L base hL Pn j Sk q h3 hq) ?_)
  simp_all [ac]
 rw [if_neg k1] at hq;refine ar k1 ?_;by_cases k4:(hd b l).Ar=4
 ·have sg:∀ s,sgB b l s=true↔(hd b l).C'=s:=λ s=>by grind [tU]
  refine ap k4 (aW (BI L base Sk b q) (bD ?_) (λ z hz=>ac hz));simp only [iG];refine gm (kT hL Pn h3) λ j ⟨h3,h4,h5⟩=>?_;by_cases s1:(hd b l).C'=[40]
  ·rw [if_pos ((sg _).2 s1)] at hq;refine ap s1 ?_;refine aW _ (sI hL Pn h3 O) ?_;rintro _ ⟨j,rfl,h3⟩;refine rB hq (λ _ hx=>ih.e true _ L base hL Pn j (Sk+1) _ h3 hx) ?_;intro c l1 j hx h3 hq;refine vU hq (λ _ hx=>ql hL Pn _ hn hb h3 hx) ?_;intro l2 j hx h3 h4 hq;exact vg
  rw [if_neg (λ h=>s1 ((sg _).1 h))] at hq;refine ar s1 ?_;by_cases s2:(hd b l).C'=[91]
  ·rw [if_pos ((sg _).2 s2)] at hq;refine ap s2 ?_;have gl:=h3.gl hL Pn (by omega:(hd b l).Ar≠6);refine aW _ (sI hL Pn h3 O) ?_;rintro _ ⟨j,rfl,h3⟩;refine gm (wP hL Pn _ h3) λ j h3=>?_;by_cases hw:wdB true (tl b l) [102,111,114]=true
   ·rw [if_pos hw] at hq;refine ap hw (aW _ (ih.lo (hd b l).fAt 12 (tl b l) hw (by decide) L base hL Pn j Sk b q hn hb h3 hq) ?_)
    simp_all [ac]
   ·rw [if_neg hw] at hq;refine ar hw ?_;obtain ⟨ks,l1,hx,hq⟩:=sS hq
    ·refine aW _ (CP ih _ _ gl L base hL Pn j (Sk+1) _ h3 hx) ?_;exact Ec
  rw [if_neg (λ h=>s2 ((sg _).1 h))] at hq;refine ar s2 ?_;by_cases s3:(hd b l).C'=[123]
  ·rw [if_pos ((sg _).2 s3)] at hq;refine ap s3 ?_;have gl:=h3.gl hL Pn (by omega:(hd b l).Ar≠6);refine aW _ (sI hL Pn h3 O) ?_;rintro _ ⟨j,rfl,h3⟩;refine gm (wP hL Pn _ h3) λ j h3=>?_;by_cases hw:wdB true (tl b l) [102,111,114]=true
   ·rw [if_pos hw] at hq;refine ap hw (aW _ (ih.lo (hd b l).fAt 13 (tl b l) hw (by decide) L base hL Pn j Sk b q hn hb h3 hq) ?_)
    simp_all [ac]
   ·rw [if_neg hw] at hq;refine ar hw ?_;obtain ⟨ks,l1,hx,hq⟩:=sS hq
    ·refine aW _ (OT ih _ gl L base hL Pn j (Sk+1) _ h3 hx) ?_;exact Ec
  rw [if_neg (λ h=>s3 ((sg _).1 h))] at hq; cases hq
 ·have sn:∀ s,¬ sgB b l s=true:=λ s h=>k4 (tU.1 h).1;rw [if_neg (sn _),if_neg (sn _),if_neg (sn _)] at hq; cases hq
theorem T8 {f:Nat}(ih:Fol f):∀ b l,(hd b l).Ar=1->Fl gT b l (rH (f+1) b l):=by
 intro b l k1 L base hL Pn i Sk q h hq;have hn:=h.2.1;have hb:=h.2.2.2.1;rw [rH] at hq;refine bD ?_;simp only [gT];refine gm (kT hL Pn h) λ j ⟨h3,h4,h5⟩=>?_;by_cases s1:(hd b l).C'=[110,117,108,108]
 ·rw [if_pos s1] at hq; cases hq;refine ap s1 ?_;exact Em
 rw [if_neg s1] at hq;refine ar s1 ?_;by_cases s2:(hd b l).C'=[116,114,117,101]
 ·rw [if_pos s2] at hq; cases hq;refine ak true (ap s2 (ac rfl)) (ap rfl ?_);refine gm (fZ hL Pn h3 O) λ j ⟨h3,h4,h5⟩=>?_;exact ak 1 (ap s2 (ac rfl)) (ak _ (aA Z Z) vd)
 rw [if_neg s2] at hq;by_cases s3:(hd b l).C'=[102,97,108,115,101]
 ·rw [if_pos s3] at hq; cases hq;refine ak true (ar s2 (ac (decide_eq_true s3))) (ap rfl ?_);refine gm (fZ hL Pn h3 O) λ j ⟨h3,h4,h5⟩=>?_;exact ak 0 (ar s2 (ac rfl)) (ak _ (aA Z Z) vd)
 rw [if_neg s3] at hq;refine ak false (ar s2 (ac (decide_eq_false s3))) (ar wr (ak _ yu ?_));by_cases s4:iO (hd b l).C'=true
 ·rw [if_pos s4] at hq; cases hq
 rw [if_neg s4] at hq;refine ar s4 ?_;refine gm (fZ hL Pn h3 O) λ j ⟨h3,h4,h5⟩=>?_;refine gm qN λ j h3=>?_;by_cases s5:sgB b (tl b l) [40]=true
 ·rw [if_pos s5] at hq;refine ar (by simp [s5]) ?_;have gl:=h3.gl hL Pn (sg6 s5);refine aW _ (sI hL Pn h3 (sg6 s5)) ?_;rintro _ ⟨j,rfl,h3⟩;obtain ⟨ks,l1,hx,hq⟩:=sS hq
  ·refine aW _ (CP ih _ _ gl L base hL Pn j (Sk+1) _ h3 hx) ?_;exact Ec
 ·rw [if_neg s5] at hq; cases hq;exact ap (by grind) vd
theorem UR {f:Nat}(ih:Fol f):∀ (en:Bk) (l:List af) (out:List ab),Gd l->out.length+l.length<=1000000000->FG true l (lk (f+1) en l) λ L base i Sk q=>Ev2 (λ n m=>dx n (aO n) en m out L (i:Int) Sk base 0 0 []) (Rk L base Sk en out q):=by
 intro en l out hg U0 L base hL Pn i Sk q h hq;have gl:Gl l:=⟨hg,by omega⟩
 have gt:=gll (b:=true) gl;rw [lk] at hq;refine aM ?_;simp only [dx,bK,rg];refine aW (λ t=>∃ j:Nat,t=(!sgB true l en,L,(j:Int),Sk,base,0,0,[])/\Pos L base j Sk true l) ?_ ?_
 ·exact KX
 rintro _ ⟨j,rfl,h3⟩;by_cases hs:sgB true l en=true
 ·exact N8
 rw [if_neg hs] at hq;refine ap (by grind) ?_;refine rB hq (λ _ hx=>ih.e true l L base hL Pn j Sk _ h3 hx) ?_;intro x l1 j hx h3 hq;have f1:=(fct f).e true l gl _ hx;refine am (by grind) ?_;refine gm qN λ j h3=>?_;by_cases hc:sgB true l1 [44]=true
 ·rw [if_pos hc] at hq;refine ar (by simp [hc]) ?_;have b1:=f1.2.1.length_le;have b2:=gll (b:=true) f1.2.2;have g2:=glt f1.2.2 hc;refine gm (fZ hL Pn h3 (sg6 hc)) λ j ⟨h3,h4,h5⟩=>?_;obtain ⟨ks,l2,hy,hq⟩:=sS hq
  ·cases hq
   refine cH (ih.i en _ (out++[_]) g2.1 (by grind) L base hL Pn j Sk _ h3 hy) ?_;rintro r ⟨j,l'',rfl,h3,hn⟩;exact ⟨j,l'',by grind,h3,hn⟩
 ·rw [if_neg hc] at hq;refine ap (by grind) ?_;obtain ⟨u,l2,hy,hq⟩:=sS hq
  ·cases hq
   exact ac ⟨j,l1,Z,h3,hy⟩
theorem Ut {f:Nat}(ih:Fol f):∀ (l:List af) (out:List ab),Gl l->out.length+2*l.length<=3000000000->FG true l (uM (f+1) l) λ L base i Sk q=>Ev2 (λ n m=>cx n (aO n) (dN n) m out L (i:Int) Sk base 0 0 []) (Rk L base Sk [125] out q):=by
 intro l out gl U0 L base hL Pn i Sk q h hq;have hgn:=yy (h.gd hL);rw [uM] at hq;refine aM ?_;simp only [cx,bK,rg];refine aW (λ t=>∃ j:Nat,t=(!sgB true l [125],L,(j:Int),Sk,base,0,0,[])/\Pos L base j Sk true l) ?_ ?_
 ·exact KX
 rintro _ ⟨j,rfl,h3⟩;by_cases hs:sgB true l [125]=true
 ·exact N8
 rw [if_neg hs] at hq;refine ap (by grind) ?_;refine rB hq (λ _ hx=>ih.k l L base hL Pn j Sk _ h3 hx) ?_;intro x l1 j hx h3 hq;refine am (by grind) ?_;refine vU hq (λ _ hy=>uH hL Pn _ h3 hy) ?_;intro l2 j hy h3 h4 hq;refine rB hq (λ _ hv=>ih.e true l2 L base hL Pn j Sk _ h3 hv) ?_;intro y l3 j hv h3 hq;refine am (by grind) ?_;refine gm qN λ j h3=>?_;by_cases hc:sgB true l3 [44]=true
 ·rw [if_pos hc] at hq;refine ar (by simp [hc]) ?_;have gt:=gll (b:=true) gl;have f1:=(fct f).k l gl _ hx;have f2:=mr (b:=true) (s:=[61]) f1.2.2 _ hy;have f3:=(fct f).e true l2 f2.2.2 _ hv;have b1:=f1.2.1.length_le;have b2:=(f2.2.1.trans (tlS true l1)).length_le;have b3:=(f3.2.1.trans (tlS true l2)).length_le;have b4:=gll (b:=true) f3.2.2;have g2:=glt f3.2.2 hc;refine gm (fZ hL Pn h3 (sg6 hc)) λ j ⟨h3,h4,h5⟩=>?_;obtain ⟨ks,l4,hr,hq⟩:=sS hq
  ·cases hq
   refine cH (ih.t _ ((out++[_])++[_]) g2 (by grind) L base hL Pn j Sk _ h3 hr) ?_;rintro r ⟨j,l'',rfl,h3,hn⟩;exact ⟨j,l'',by grind,h3,hn⟩
 ·rw [if_neg hc] at hq;refine ap (by grind) ?_;obtain ⟨u,l4,hr,hq⟩:=sS hq
  ·cases hq
   exact ac ⟨j,l3,by rw [n6]; rfl,h3,hr⟩
theorem Ud {f:Nat}(ih:Fol f):∀ l,Fl dN true l (rb (f+1) l):=by
 intro l L base hL Pn i Sk q h hq;have hn:=h.2.1;have hb:=h.2.2.2.1;rw [rb] at hq;refine bD ?_;simp only [dN];refine gm (kT hL Pn h) λ j ⟨h3,h4,h5⟩=>?_;by_cases k1:(hd true l).Ar=1
 ·rw [if_pos k1] at hq; cases hq;refine ap k1 ?_;exact Em
 rw [if_neg k1] at hq;refine ar k1 ?_;by_cases k3:(hd true l).Ar=3
 ·rw [if_pos k3] at hq;refine ap k3 (aW _ (ih.s true l k3 L base hL Pn j Sk q h3 hq) ?_)
  simp_all [ac]
 rw [if_neg k3] at hq;refine ar k3 ?_;refine gm qN λ j h3=>?_;by_cases s1:sgB true l [40]=true
 ·rw [if_pos s1] at hq;refine ap s1 ?_;refine aW _ (sI hL Pn h3 (sg6 s1)) ?_;rintro _ ⟨j,rfl,h3⟩;refine rB hq (λ _ hx=>ih.e true _ L base hL Pn j (Sk+1) _ h3 hx) ?_;intro c l1 j hx h3 hq;refine vU hq (λ _ hx=>ql hL Pn _ hn hb h3 hx) ?_;intro l2 j hx h3 h4 hq;exact vg
 ·rw [if_neg s1] at hq; cases hq
theorem SL {f:Nat}(ih:Fol f):∀ (a k:Int) l,wdB true l [102,111,114]=true->k=12\/k=13->FlC (λ n p=>fO n p a k) l (q9 (f+1) a k (tl true l)):=by
 intro a k l hw hk L base hL Pn i Sk b q hn hb h hq;rw [q9] at hq;refine bD ?_;simp only [fO];refine gm (fZ hL Pn h (wd6 hw)) λ j ⟨h3,h4,h5⟩=>?_;refine rB hq (λ _ hx=>vS hL Pn h3 hx) ?_;intro v l1 j hx h3 hq;obtain ⟨nk,l2,hy,hq⟩:=sS hq
 ·refine aW (λ t=>∃ (j:Nat),t=(nk.1,nk.2,L,(j:Int),Sk+1,base,0,0,[])/\Pos L base j (Sk+1) true l2) ?_ ?_
  ·refine gm qN λ j h3=>?_;by_cases hc:sgB true l1 [44]=true
   ·rw [if_pos hc] at hy;refine ap hc ?_;refine gm (fZ hL Pn h3 (sg6 hc)) λ j ⟨h3,h4,h5⟩=>?_;obtain ⟨v2,l3,hz,hee⟩:=sS hy
    ·refine gm (vS hL Pn h3 hz) λ j h3=>?_
     cases hee
     exact ac ⟨j,Z,h3⟩
   ·rw [if_neg hc] at hy; cases hy;exact ar hc xV
  rintro _ ⟨j,rfl,h3⟩;refine vU hq (λ _ hx=>D2 hL Pn _ h3 hx) ?_;intro l3 j hx h3 h4 hq;refine rB hq (λ _ hx=>ih.e true l3 L base hL Pn j (Sk+1) _ h3 hx) ?_;intro x l4 j hx h3 hq;refine am (by grind) ?_;refine vU hq (λ _ hx=>uH hL Pn _ h3 hx) ?_;intro l5 j hx h3 h4 hq;refine rB hq (λ _ hx=>ih.e true l5 L base hL Pn j (Sk+1) _ h3 hx) ?_;intro c l6 j hx h3 hq;refine am (by grind) ?_;obtain ⟨ks,l7,hy,hq⟩:=sS hq
  ·refine aW (λ t=>∃ (j:Nat),t=((if k=13 then [125] else [93]:Bk),ks,L,(j:Int),Sk+1,base,0,0,[])/\ks.length<=3/\Pos L base j (Sk+1) true l7) ?_ ?_
   ·refine aH (λ hk=>?_) (λ hk=>?_)
    ·rw [if_pos hk] at hy;obtain ⟨u,l8,hz,hy⟩:=sS hy
     ·refine aW _ (uH hL Pn _ h3 hz) ?_;rintro _ ⟨j,rfl,h3,h4⟩;obtain ⟨d,l9,hz,hee⟩:=sS hy
      ·refine gm (ih.e true l8 L base hL Pn j (Sk+1) _ h3 hz) λ j h3=>?_;refine am (by grind) ?_
       cases hee
       exact ac ⟨j,by rw [if_pos hk]; rfl,by simp,h3⟩
    ·rw [if_neg hk] at hy; cases hy;exact ac ⟨j,by rw [if_neg hk]; rfl,by simp,h3⟩
   rintro _ ⟨j,rfl,hks,h3⟩;obtain ⟨ks2,l8,hy,hq⟩:=sS hq
   ·refine aW (λ t=>∃ (j:Nat),t=(ks2,L,(j:Int),Sk+1,base,0,0,[])/\Pos L base j (Sk+1) true l8) ?_ ?_
    ·refine gm (wP hL Pn _ h3) λ j h3=>?_;by_cases hc:wdB true l7 [105,102]=true
     ·rw [if_pos hc] at hy;refine ap hc ?_;refine gm (fZ hL Pn h3 (wd6 hc)) λ j ⟨h3,h4,h5⟩=>?_;obtain ⟨d,l9,hz,hee⟩:=sS hy
      ·refine gm (ih.e true _ L base hL Pn j (Sk+1) _ h3 hz) λ j h3=>?_;refine am (by grind) ?_
       cases hee
       exact ac ⟨j,Z,h3⟩
     ·rw [if_neg hc] at hy; cases hy;exact ar hc xV
    rintro _ ⟨j,rfl,h3⟩;refine vU hq (λ _ hx=>ql hL Pn _ hn hb h3 hx) ?_;intro l9 j hx h3 h4 hq;exact vg
theorem Uy {f:Nat}(ih:Fol f):∀ b l,(hd b l).Ar=3->Fl fJ b l (yr (f+1) b l):=by
 intro b l k3 L base hL Pn i Sk q h hq;rw [yr] at hq;refine bD ?_;simp only [fJ];refine gm (kT hL Pn h) λ j ⟨h3,h4,h5⟩=>?_;have tk:=Dj (h3.gd hL);have t1':=tk.1;have t2':=tk.2.2.1 k3;refine am gz ?_
 cases ht:qt f (hd b l).C' ((hd b l).fAt+1) with
 | none=>grind
 | some y=>
  rw [ht] at hq;rcases y with e|e
  ·cases hq
  cases hq
  refine ak _ (ih.tm (hd b l).C' ((hd b l).fAt+1) e O O  ht) (ap Z ?_);refine gm (fZ hL Pn h3 O) λ j ⟨h3,h4,h5⟩=>?_;exact ac ⟨Z,j,Z,h3⟩
theorem KA (h:p:=by
 have hlr:r.length=s.length-(i+1):=by grind
 refine ap O (ac ?_);show Sum.inr ci=Sum.inr _
 grind):p:=h
theorem NH (h:p:=by
 exact ap (by decide) (ac (by unfold xD; rw [if_neg (by decide)]; rfl))):p:=h
theorem Jc (h:p:=by
 cases y with
 | none=>
  rintro r (rfl|rfl)
  ·exact ac Z
  ·rfl
 | some r'=>rintro r rfl; rfl):p:=h
theorem MK (h:p:=by
 refine ar O (ac (am (fL (by grind) (by grind)) ?_))
 grind):p:=h
theorem A3 (h:p:=by exact ar (by decide) (ac Z)):p:=h
theorem Jm (h:p:=by exact fL (by show _<=(s.length:Int)-(r'.length:Int)-1+1; omega) (by show (s.length:Int)-(r'.length:Int)-1+1<=_; omega)):p:=h
theorem xY (h:p:=by exact aA (tr _ _) hp):p:=h
theorem wX (h:p:=by exact ar wr (ac Z)):p:=h
theorem Cq {s:Bk}{i:Nat}{b:UInt8}{r:Bk}(h:s.drop i=b::r):s.getD i 0=b/\i<s.length/\s.drop (i+1)=r:=by
 grind [List.drop_eq_nil_of_le,List.drop_eq_getElem_cons]
theorem Qg {s:Bk}{i:Nat}(h:s.drop i=[]):s.length<=i:=List.drop_eq_nil_iff.1 h
theorem yT (s:Bk)(i k:Nat):s.drop (i+k)=(s.drop i).drop k:=by simp_all
theorem Ty {s r:Bk}(h:r <:+ s):s.drop (s.length-r.length)=r:=(List.suffix_iff_eq_drop.1 h).symm
theorem tr (l p:Bk):strings_HasPrefix l p=some (hasPrefix l p):=rfl
def CO (s:Bk)(y:Option Bk)(r:Unit⊕Int):Prop:=match y with
 | none=>r=.inl ()\/r=.inr (-1)
 | some r'=>r=.inr ((s.length:Int)-(r'.length:Int)-1)
def SN (s:Bk):Option Bk->Int|none=>-1|some r'=>(s.length:Int)-(r'.length:Int)-1
theorem F9 {s:Bk}{i:Int}{y:Option Bk}(h:Ev2 (λ n m=>ed (gC n) s m i 1) (CO s y)):Ev2 (λ n _=>eh n s i) (·=SN s y):=by
 refine bD ?_;simp only [eh];refine gh (cH (bc (f:=λ n m=>ed (gC n) s m i 1) h) ?_);exact Jc
theorem O1 {s:Bk}{i:Int}{y:Option Bk}(h:Ev2 (λ n m=>eN (eh n) s m i) (CO s y)):Ev2 (λ n _=>gC n s i) (·=SN s y):=by
 refine bD ?_;simp only [gC];refine gh (cH (bc (f:=λ n m=>eN (eh n) s m i) h) ?_);exact Jc
theorem Jp {s:Bk}(hs:s.length<=1000000000):∀ (f:Nat),
  (∀ (d i:Nat) (ci di:Int) (y:Option Bk),ci=i->di=d->1<=d->d+(s.drop i).length<=2000000000->i<=1000000010->fU f d (s.drop i)=some y->Ev2 (λ n m=>ed (gC n) s m ci di) (CO s y)) /\
  (∀ (i:Nat) (ci:Int) (y:Option Bk),ci=i->i<=1000000010->iC f (s.drop i)=some y->Ev2 (λ n m=>eN (eh n) s m ci) (CO s y))
 | 0=>⟨λ d i ci di y _ _ _ _ _ h=>(by grind [fU]),λ i ci y _ _ h=>(by grind [iC])⟩
 | f+1=>by
  obtain ⟨i1,i2⟩:=Jp hs f;constructor
  ·intro d i ci di y hci hdi h1 hd hi h;refine aM ?_;simp only [ed]
   cases hl:s.drop i with
   | nil=>
    rw [hl,fU] at h; cases h;have:=Qg hl;exact ar O (ac (.inl rfl))
   | cons b r=>
    obtain ⟨g1,g2,g3⟩:=Cq hl;have hb:byt s ci=(b.toNat:Int):=by grind [f0]
    rw [hl,fU] at h;rw [hl,aq] at hd;refine ap O (am O ?_);rw [hb];refine gh ?_;by_cases h123:b.toNat=123
    ·rw [if_pos h123] at h;refine ap O (am aV (ac (am gz ?_)))
     grind
    rw [if_neg h123] at h;refine ar O ?_;by_cases h125:b.toNat=125
    ·rw [if_pos h125] at h;refine ap O (am aV ?_);by_cases hd1:d=1
     ·rw [if_pos hd1] at h; cases h;exact KA
     ·rw [if_neg hd1] at h;exact MK
    rw [if_neg h125] at h;refine ar O ?_;by_cases h34:b.toNat=34
    ·rw [if_pos h34] at h;refine ap O (am aV ?_)
     cases hq:iC f r with
     | none=>grind
     | some z=>
      rw [hq] at h;refine ak _ (O1 (i2 (i+1) (ci+1) z O O  (by grind))) ?_
      cases z with
      | none=>cases h; exact ap (show (-1:Int)<0 by decide) (ac (.inr rfl))
      | some r'=>
       have hsf:=(sa f).2 _ _ hq;have UT:=hsf.1.length_le;have hrl:r.length=s.length-(i+1):=by grind
       have hrs:r' <:+ s:=by grind [List.drop_suffix]
       have hsd:=Ty hrs;refine ar (by show ¬ (s.length:Int)-(r'.length:Int)-1<0; omega) (ac (am Jm ?_));exact i1 d (s.length-r'.length) _ di y (by show (s.length:Int)-(r'.length:Int)-1+1=_; omega) hdi h1 (by grind) O (by grind)
    ·rw [if_neg h34] at h;exact MK
  ·intro i ci y hci hi h;refine aM ?_;simp only [eN]
   cases hl:s.drop i with
   | nil=>
    rw [hl,iC] at h; cases h;have:=Qg hl;exact ar O (ac (.inl rfl))
   | cons b r=>
    obtain ⟨g1,g2,g3⟩:=Cq hl;have hb:byt s ci=(b.toNat:Int):=by grind [f0]
    have hsub:sub s ci (s.length:Int)=b::r:=by grind [mw]
    rw [hl,iC] at h;refine ap O ?_;rw [hb,hsub];refine gh (am O ?_);by_cases h34:b.toNat=34
    ·rw [if_pos h34] at h; cases h;exact KA
    rw [if_neg h34] at h;refine ar O (am O ?_);by_cases h92:b.toNat=92
    ·rw [if_pos h92] at h;refine ap O (am aV (ac (am aV ?_)));exact i2 (i+1+1) (ci+1+1) y O O  (by grind [yT])
    rw [if_neg h92] at h;refine ar O (am O (ak _ (aA (tr _ _) rfl) ?_));by_cases hp3:hasPrefix (b::r) [36,36,123]=true
    ·rw [if_pos hp3] at h;refine ap hp3 (am aV (ac (am aV ?_)));exact i2 (i+3) (ci+2+1) y O O  (by grind [yT])
    rw [if_neg hp3] at h;refine ar hp3 (am O (ak _ (aA (tr _ _) rfl) ?_));by_cases hp2:hasPrefix (b::r) [36,123]=true
    ·rw [if_pos hp2] at h;refine ap hp2 (am aV ?_)
     cases hq:fU f 1 ((b::r).drop 2) with
     | none=>grind
     | some z=>
      rw [hq] at h;have e2:s.drop (i+2)=(b::r).drop 2:=by grind [yT]
      refine ak _ (F9 (i1 1 (i+2) (ci+2) 1 z O rfl (by decide) (by grind) O (by grind))) ?_
      cases z with
      | none=>cases h; exact ap (show (-1:Int)<0 by decide) (ac (.inr rfl))
      | some r'=>
       have hsf:=(sa f).1 _ _ _ hq;have UT:=hsf.1.length_le;have hrl:((b::r).drop 2).length=s.length-(i+2):=by grind
       have hrs:r' <:+ s:=by grind [List.drop_suffix]
       have hsd:=Ty hrs;refine ar (by show ¬ (s.length:Int)-(r'.length:Int)-1<0; omega) (ac (am Jm ?_));exact i2 (s.length-r'.length) _ y (by show (s.length:Int)-(r'.length:Int)-1+1=_; omega) O (by grind)
    ·rw [if_neg hp2] at h;refine ar hp2 (ac (am aV ?_))
     grind
theorem wc:∀ (k:Nat) (l:Bk) (a:Nat) (x:Bk),(cB k l a).2<l.length->cB k (l.take ((cB k l a).2+1)++x) a=cB k l a
 | 0,l,a,x,_=>by simp [cB]
 | k+1,[],a,x,h=>by simp at h
 | k+1,b::r,a,x,h=>by
  have e:cB (k+1) (b::r) a=match tR b with
   | some d=>((cB k r (16*a+d)).1,(cB k r (16*a+d)).2+1)
   | none=>(a,0):=by grind [cB]
  cases hd:tR b with
  | none=>
   grind [cB]
  | some d=>
   rw [hd] at e;simp only at e;rw [e] at h ⊢;have ih:=wc k r (16*a+d) x (by grind)
   grind [cB]
theorem Q9 (b:UInt8):strings_IndexByte ([48,49,50,51,52,53,54,55,56,57,97,98,99,100,101,102]:Bk) (b.toNat:Int)=some (indexByte K9 b)/\decide (0<=indexByte K9 b)=(tR b).isSome:=by
 constructor
 ·exact Mb
 grind [y9]
theorem Qm (s:Bk)(hs:s.length<=1000000000):∀ (k i a:Nat),i+k=6->i<=s.length->Ev2 (λ _ m=>cr s m (i:Int)) (·=((i+(cB k (s.drop i) a).2:Nat):Int)):=by
 intro k
 induction k with
 | zero=>
  simp_all [aM,cr,ac,cB]
 | succ k ih=>
  intro i a hi hl;refine aM ?_;simp only [cr]
  cases hd:s.drop i with
  | nil=>
   have:=Qg hd;refine ak false AO (ar wr (ac ?_));rw [cB]; rfl
  | cons b r=>
   obtain ⟨g1,g2,g3⟩:=Cq hd;have hb:byt s (i:Int)=(b.toNat:Int):=by rw [f0,g1]
   refine ak (tR b).isSome ?_ ?_
   ·refine ap O (ap O (am O ?_))
    simp_all [Q9,ac]
   ·rw [cB]
    cases hx:tR b with
    | none=>simp_all [ac]
    | some d=>
     refine ap Z (am aV ?_);have:=lS (P:=λ j=>Ev2 (λ _ m=>cr s m j) _) (ih (i+1) (16*a+d) O O)
     grind
theorem QZ (s:Bk)(hs:s.length<=1000000000):Ev2 (λ n _=>iY n s) (·=((cB 6 s 0).2:Int)):=by
 simp only [iY];refine ak _ (bc (f:=λ _ m=>cr s m 0) (Qm s hs 6 0 0 rfl (ph _))) (ac ?_)
 grind
theorem MB (b:UInt8)(r:Bk)(h:b.toNat<128):decodeL (b::r)=(b.toNat,1):=by
 have e:=sj b h;have h2:=wO (b.toNat:Int) (by grind [ju]) r
 grind
theorem UN (r:Bk):(decodeL (92::r)).1=92:=by
 grind [MB]
theorem QW (x:Bk):((em (x++[34])).2.2=0->(em (x++[34])).2.1=(x.length:Int)->(Fc (34::92::(x++[34]))).1=encodeRune (em (x++[34])).1/\(Fc (34::92::(x++[34]))).2.2=0)/\((em (x++[34])).2.2≠0->(Fc (34::92::(x++[34]))).2.2≠0):=by
 have h34:(34:UInt8).toNat=34:=rfl;rw [u0,if_pos h34,lI,if_neg (show ¬ (92:UInt8).toNat=34 by decide),if_pos (UN _)];constructor
 ·intro h0 h1;rw [if_pos h0,h1,Int.toNat_natCast,List.drop_left];have hn:(92::(x++[34])).length=(x.length+1)+1:=by simp
  rw [hn,lI,if_pos h34];have hr:=(ua (x++[34])).2.2.1 h0
  grind [qX]
 grind
theorem Rh {c:UInt8}(h:c.toNat≠117)(t t':Bk):em (c::t)=em (c::t')/\((em (c::t)).2.2=0->(em (c::t)).2.1=1)/\((em (c::t)).2.2≠0->(em (c::t)).2.2=2):=by
 grind [oD]
theorem Gk (d:UInt8)(u:Bk):em (117::d::u)=if d.toNat=123 then ((jC u).1,(jC u).2.1+2,(jC u).2.2) else (0,0,2):=by
 rw [oD]; rfl
theorem Hz (u:Bk)(h:(cB 6 u 0).2<u.length):jC (u.take ((cB 6 u 0).2+1)++[34])=jC u/\((jC u).2.2=0->(jC u).2.1=(((cB 6 u 0).2+1:Nat):Int))/\((jC u).2.2≠0->(jC u).2.2=2):=by
 grind [wc,jC]
def xD (r:Bk):Bk×Int×Int:=if (em r).2.2=0 then (encodeRune (em r).1,(em r).2.1+1,0) else ([],0,(em r).2.2)
theorem GW {s x:Bk}{k:Int}(hs:s.length<=1000000000)(hxs:x.length<=100)(hk:k=((x.length+1:Nat):Int))(hx:s.take (x.length+1)=92::x){q:Bk×Int×Int}(h0:(em (x++[34])).2.2=0->(em (x++[34])).2.1=(x.length:Int)/\q=(encodeRune (em (x++[34])).1,k,0))(h1:(em (x++[34])).2.2≠0->q=([],0,2)) :
  Ev2 (λ n _=>if (s.length:Int)<k then some (([]:Bk),(0:Int),(40:Int)) else
   ck ((0:Int)<=0/\0<=k/\k<=(s.length:Int)) <|
   ck (([34]:Bk).length+(sub s 0 k).length<=9223372036854775807) <|
   ck ((([34]:Bk)++(sub s 0 k)).length+([34]:Bk).length<=9223372036854775807) <|
   (gW n ((([34]:Bk)++(sub s 0 k))++([34]:Bk))).bind λ Wt=>
   if Wt.2.2=0 then some (Wt.1,k,0) else some (([]:Bk),0,2)) (·=q):=by
 have hl:(92::x).length=x.length+1:=rfl
 have hxl:x.length+1<=s.length:=by
  grind
 have hsub:sub s 0 k=92::x:=by
  subst hk;show (s.take _).drop 0=_
  grind
 rw [hsub];refine ar O (am O (am (by grind) (am (by grind) ?_)));have U0:((([34]:Bk)++(92::x))++([34]:Bk)).length<=1000000000:=by grind
 refine ak _ (MX _ U0) ?_;have e:(([34]:Bk)++(92::x))++([34]:Bk)=34::92::(x++[34]):=rfl;rw [e];obtain ⟨u1,u2⟩:=QW x;by_cases hz:(em (x++[34])).2.2=0
 ·simp_all [ac]
 simp_all [ac]
theorem Rw {r:Bk}(hs:(92::r:Bk).length<=1000000000):Ev2 (λ n _=>nw n (92::r)) (·=xD r):=by
 simp only [nw];have hl0:(92::r:Bk).length=r.length+1:=rfl
 cases r with
 | nil=>
  refine ez 2 (ak false (aA (tr _ _) (by decide)) wX) ?_;exact NH
 | cons c t=>
  by_cases hc:c.toNat=117
  ·have hc':c=117:=(Cd (by decide)).1 hc;subst hc';have hp:hasPrefix (92::117::t) [92,117]=true:=by simp [hasPrefix]
   cases t with
   | nil=>
    refine ez 4 (ak true xY (ap Z (ak false A3 (ar wr A3)))) ?_;exact NH
   | cons d u=>
    have hl:(92::117::d::u:Bk).length=u.length+3:=rfl;have hb:byt (92::117::d::u) 2=(d.toNat:Int):=rfl;have e:=Gk d u;by_cases hd:d.toNat=123
    ·rw [if_pos hd] at e;have hd':d=123:=(Cd (by decide)).1 hd
     have h6:Ev2 (λ _ _=>(if (2:Int)<((92::117::d::u:Bk).length:Int) then ck ((0:Int)<=2/\(2:Int)<((92::117::d::u:Bk).length:Int))<|some (!decide (byt (92::117::d::u) 2=123)) else some false:Option Bool)) (·=false):=by
      refine ap O (am O (ac ?_))
      grind
     cases u with
     | nil=>
      refine ez 4 (ak true xY (ap Z (ak false h6 (ar wr ti)))) ?_;refine ap G (ac ?_);have hx:(jC []).2.2=40:=by decide
      grind [xD]
     | cons v w=>
      have hlv:(v::w).length=w.length+1:=rfl;have hsub:sub (92::117::d::v::w) 3 ((92::117::d::v::w:Bk).length:Int)=v::w:=by rw [mw]; rfl
      have hrun:=vh 6 (v::w) 0;refine ez (4+((cB 6 (v::w) 0).2:Int)) (ak true xY (ap Z (ak false h6 (ar wr (ap O (am O ?_)))))) ?_
      ·rw [hsub];exact ak _ (QZ _ O) xP
      by_cases hc:(cB 6 (v::w) 0).2=(v::w).length
      ·refine ap O (ac ?_)
       grind [jC,xD]
      ·obtain ⟨x1,x2,x3⟩:=Hz (v::w) O;have hlt:((v::w).take ((cB 6 (v::w) 0).2+1)).length=(cB 6 (v::w) 0).2+1:=by grind
       have ex:em ((117::d::(v::w).take ((cB 6 (v::w) 0).2+1))++[34])=em (117::d::v::w):=by
        grind [Gk]
       refine GW (x:=117::d::(v::w).take ((cB 6 (v::w) 0).2+1)) hs (by grind) (by grind) ?_ ?_ ?_
       ·grind
       ·grind [xD]
       grind [xD]
    ·rw [if_neg hd] at e;refine kt ([],0,2) (ak true xY (ap rfl (ak true (ap O (am O (ac ?_))) oR))) ?_
     ·grind
     grind [xD]
  ·have hp:hasPrefix (92::c::t) [92,117]=false:=by
    have:¬ c=117:=λ h=>hc (by rw [h]; rfl)
    grind [hasPrefix]
   obtain ⟨o1,o2,o3⟩:=Rh hc t [34];refine ez 2 (ak false xY wX) ?_;refine GW (x:=[c]) hs G rfl rfl ?_ ?_
   ·grind [xD]
   grind [xD]
theorem Lw (s:Bk)(a i fr:Int)(text:Bk)(parts:List ab)(Vo:Bool)(h:inR (a+fr)):ek (.mk s a i fr text parts Vo)=some (if 4096<text.length then az.mk 3 (a+fr) [] else dOk,.mk s a i fr text parts Vo):=by
 unfold ek;by_cases hl:4096<text.length
 ·grind [cM]
 ·rw [if_neg (by grind),if_neg hl]; rfl
def ItO (s:Bk)(a i fr:Int)(text:Bk)(parts:List ab)(Vo:Bool)(q:Int⊕(Bk×Nat))(r:az×ay):Prop:=match q with
 | .inl k=>r.1=az.mk k (a+i) []
 | .inr (t,n)=>if 4096<text.length+t.length then r.1=az.mk 3 (a+fr) [] else r=(dOk,.mk s a (i+n) fr (text++t) parts Vo)
theorem Tq {s:Bk}(hs:s.length<=1000000000){a fr:Int}{i:Nat}(ha:0<=a)(ha2:a<=1000000000)(hf:0<=fr)(hf2:fr<=1000000000)(text:Bk)(ht:text.length<=4096)(parts:List ab)(Vo:Bool){b:UInt8}{r:Bk}(hl:s.drop i=b::r) :
  Ev2 (λ n _=>hH n (.mk s a (i:Int) fr text parts Vo)) (ItO s a i fr text parts Vo (lQ (b::r))):=by
 obtain ⟨g1,g2,g3⟩:=Cq hl;have hsub:sub s (i:Int) (s.length:Int)=b::r:=by grind [mw]
 have Pn:(b::r).length=s.length-i:=by grind
 have hb0:byt (b::r) 0=(b.toNat:Int):=rfl;have hlc:(b::r).length=r.length+1:=rfl
 have fin:∀ (t:Bk) (n:Nat),lQ (b::r)=.inr (t,n)->n<=1000000000->t.length<=1000000000->Ev2 (λ _ _=>(ek (ay.mk s a ((i:Int)+(n:Int)) fr (text++t) parts Vo)).bind λ VI=>some (VI.1,(ay.mk VI.2.fs VI.2.fat VI.2.fi VI.2.H' VI.2.IN VI.2.Df VI.2.L'))) (ItO s a i fr text parts Vo (lQ (b::r))):=by
  intro t n hi _ _;refine ak _ (aA (Lw s a _ fr _ parts Vo aV) rfl) (ac ?_)
  grind [ItO]
 simp only [hH];rw [hsub];refine am O ?_;by_cases h92:b.toNat=92
 ·have hb':b=92:=(Cd (by decide)).1 h92;have hle:=ua r;have hi:lQ (b::r)=if (em r).2.2=0 then .inr (encodeRune (em r).1,(em r).2.1.toNat+1) else .inl (em r).2.2:=by grind [lQ]
  subst hb';by_cases hz:(em r).2.2=0
  ·rw [if_pos hz] at hi;obtain ⟨e1,e2⟩:=hle.2.2.1 hz;have hel:=qX _ e1;refine ez ((i:Int)+(((em r).2.1.toNat+1:Nat):Int),text++encodeRune (em r).1) (am O (ap (by grind) (ak _ (Rw O) ?_))) (fin _ _ hi O O);unfold xD; rw [if_pos hz];refine ap rfl (am (by grind) (am gz (ac ?_)))
   grind
  ·rw [if_neg hz] at hi;refine kt (az.mk (em r).2.2 (a+(i:Int)) [],ay.mk s a (i:Int) fr text parts Vo) (am O (ap (by grind) (ak _ (Rw O) ?_))) ?_
   ·unfold xD; rw [if_neg hz];exact ar hz Et
   ·rw [hi]; rfl
 ·have hd:bo (b::r)=some (((decodeL (b::r)).1:Int),((decodeL (b::r)).2:Int)):=by
   grind [bo,jt]
  have hdf:=ja (b::r) G
  have hq:(decodeL (b::r)).1=34↔b.toNat=34:=by
   grind [MB,RO]
  have hi:lQ (b::r)=if mC (decodeL (b::r))\/b.toNat=34 then .inl 2 else .inr ((b::r).take (decodeL (b::r)).2,(decodeL (b::r)).2):=by grind [lQ]
  have hsb:∀ w:Nat,sub (b::r) 0 (w:Int)=(b::r).take w:=λ w=>by show ((b::r).take _).drop 0=_; grind
  generalize decodeL (b::r)=D at hd hdf hq hi;obtain ⟨c,w⟩:=D;simp only at hd hdf hq
  have hbad:Ev2 (λ _ _=>(if (c:Int)=65533 then if (w:Int)=1 then some true else if (c:Int)<32 then some true else if (c:Int)=127 then some true else some (decide ((c:Int)=34)) else if (c:Int)<32 then some true else if (c:Int)=127 then some true else some (decide ((c:Int)=34)):Option Bool)) (·=decide (mC (c,w)\/b.toNat=34)):=by
   have mk:∀ x:Bool,(x=true↔(((c=65533/\w=1)\/c<32\/c=127)\/c=34))->x=decide (mC (c,w)\/b.toNat=34):=by
    intro x hx;refine eqB ?_;rw [hx,decide_eq_true_eq,<- hq]
    rfl
   refine aH (λ h1=>aH (λ h2=>ac (mk _ ?_)) (λ h2=>aH (λ h3=>ac (mk _ ?_)) (λ h3=>aH (λ h4=>ac (mk _ ?_)) (λ h4=>ac (mk _ ?_))))) (λ h1=>aH (λ h3=>ac (mk _ ?_)) (λ h3=>aH (λ h4=>ac (mk _ ?_)) (λ h4=>ac (mk _ ?_))))
   all_goals grind
   all_goals grind
   all_goals omega
  by_cases hx:mC (c,w)\/b.toNat=34
  ·rw [if_pos hx] at hi;refine kt (az.mk 2 (a+(i:Int)) [],ay.mk s a (i:Int) fr text parts Vo) (am O (ar (by grind) (ak _ (aA hd rfl) (ak _ hbad (ap (decide_eq_true hx) Et))))) ?_;rw [hi]; rfl
  ·rw [if_neg hx] at hi;have hw2:=hdf.2.1;refine ez ((i:Int)+(w:Int),text++(b::r).take w) (am O (ar (by grind) (ak _ (aA hd rfl) (ak _ hbad (ar (by grind) ?_))))) (fin _ _ hi O (by grind));simp only [hsb];exact am O (am (by grind) xP)
theorem Fp (h:p:=by exact aA (tr _ _) (by grind)):p:=h
theorem T3 {f:Nat}(ih:Fol f):∀ (s:Bk) (a:Int) q,0<=a->a+(s.length:Int)<=1000000000->ll (f+1) s a=some (.inr q)->Ev2 (λ n _=>jr n s a) (·=(q,dOk)):=by
 intro s a q h0 h1 hq;rw [ll] at hq;refine bD ?_;simp only [jr];refine ak _ (G5 s) ?_;by_cases hk:(jU s).2.Ar=0
 ·rw [if_neg (by grind)] at hq;refine ap hk ?_;have hg:=Ay h0 h1 hk;have Pn:(jU s).1.length<=65537:=(Aj h0 h1 hk).2.2;have hL:=hg.1;have hL1:(jU s).1.length<=1000000000:=by omega
  generalize (jU s).1=L at hq hL Pn hL1
  have Vs:0<L.length:=by
   grind [Hj]
  have hpos:Pos L a 0 1 true (L.map (mvT a)):=⟨Vs,by decide,by omega,Z,Z⟩
  cases hx:hZ f true (L.map (mvT a)) with
  | none=>grind
  | some y=>
   rw [hx] at hq;rcases y with e|⟨x,l⟩
   ·cases hq
   refine gm (ih.e true _ L a hL hL1 0 1 (x,l) hpos hx) λ j h3=>?_;have hq:(if (hd true l).Ar=6 then some (.inr x) else some (.inl (2,(hd true l).fAt)):Option (PE⊕ab))=some (.inr q):=hq;by_cases k6:(hd true l).Ar=6
   ·rw [if_pos k6] at hq; cases hq;refine aW (λ t=>∃ j:Nat,t=(L,(j:Int),1,a,0,0,[])) (gm (kT hL hL1 h3) λ j ⟨h3,h4,h5⟩=>ap k6 (ac ⟨j,rfl⟩)) ?_;rintro _ ⟨j,rfl⟩;exact ac rfl
   grind
 grind
theorem GE {s:Bk}{a:Int}{i fr:Nat}(text:Bk)(parts:List ab)(Vo:Bool)(ha:0<=a)(h1:a+(s.length:Int)<=1000000000)(hi:i<=s.length)(hf:fr<=i)(hp:parts.length<=2*i) :
  fm (.mk s a (i:Int) (fr:Int) text parts Vo)=some (.mk s a (i:Int) (fr:Int) [] (flS (a+(fr:Int)) (a+(i:Int)) text parts) Vo):=by
 unfold fm flS;by_cases h:fr<i
 ·rw [if_pos (by grind),if_pos O];show ((ck (inR (a+(fr:Int)))<|ck ((parts.length+1)*160<=140737488355328)<|some (parts++[p9 text (a+(fr:Int))]):Option (List ab)).bind λ f6=>some (ay.mk s a (i:Int) (fr:Int) ([]:Bk) f6 Vo))=_
  grind [cM,fL]
 grind
theorem BQ {e:ab}(hb:Sz e):Ev2 (λ n _=>jg n e dOk) (·=outE (uy (.inr e))):=by
 simp only [jg];refine ap rfl (ak _ (Gq hb) ?_);by_cases h:chk e=0
 ·exact ap h (ac (by unfold uy; simp only [h,if_true]; rfl))
 ·exact ar h (ac (by unfold uy; simp only [h,if_false]; rfl))
theorem Tg {f:Nat}(ih:Fol f):∀ (s:Bk) (a:Int) q,0<=a->a+(s.length:Int)<=1000000000->qt (f+1) s a=some (.inr q)->Ev2 (λ n _=>jF n s a) (·=(q,dOk)):=by
 intro s a q h0 h1 hq;rw [qt] at hq;refine bD ?_;simp only [jF]
 cases hr:ii f a a [] [] false s with
 | none=>grind
 | some y=>
  rw [hr] at hq;have U0:=(fct f).r a a [] [] false s (2*s.length) h0 h1 (by decide) (λ y hy=>by cases hy) G y hr;rcases y with e|⟨frm,pos,text,parts,Vo⟩
  ·cases hq
  have hread:=ih.r s a 0 0 [] [] false _ h0 h1 (ph _) (bt _) (by decide) (by decide) (by simpa using hr);have hq:uy (.inr (xR a (frm,pos,text,parts,Vo)))=.inr q:=Option.some.inj hq;refine aW (λ r=>∃ (i fr:Nat),frm=a+(fr:Int)/\pos=a+(i:Int)/\fr<=i/\i<=s.length/\parts.length<=2*i/\r=(dOk,.mk s a (i:Int) (fr:Int) text parts Vo)) (bD ?_) ?_
  ·simp only [jw];refine gh (cH (bc (f:=λ n m=>cq n (bm n) m s a 0 0 [] [] false) hread) ?_);rintro r ⟨i,fr,g1,g2,g3,g4,g5,rfl⟩;exact ac ⟨i,fr,g1,g2,g3,g4,g5,rfl⟩
  ·rintro _ ⟨i,fr,rfl,rfl,g3,g4,g5,rfl⟩;have hz:Sz (xR a (a+(fr:Int),a+(i:Int),text,parts,Vo)):=CS O U0;have hf:=BQ hz;rw [hq] at hf;refine ap rfl (ak _ (aA rfl rfl) ?_)
   cases Vo with
   | true=>
    refine ak (2,0,[],[],0,0,[],[],[],flS (a+(fr:Int)) (a+(i:Int)) text parts,a) (ap Z (ak _ (aA (GE text parts true h0 h1 g4 g3 g5) Z) (ac Z))) ?_;exact ak _ hf (ac Z)
   | false=>
    refine ak (1,0,[],[],3,0,text,[],[],[],a) wX ?_;exact ak _ hf (ac Z)
theorem Ua {f:Nat}(ih:Fol f):∀ (s:Bk) (a:Int) (i fr:Nat) (text:Bk) (parts:List ab) (Vo:Bool) q,0<=a->a+(s.length:Int)<=1000000000->i<=s.length->fr<=i->text.length<=4096->parts.length<=2*i->ii (f+1) (a+(fr:Int)) (a+(i:Int)) text parts Vo (s.drop i)=some (.inr q) ->
  Ev2 (λ n m=>cq n (bm n) m s a (i:Int) (fr:Int) text parts Vo) (RdO s a q):=by
 intro s a i fr text parts Vo q h0 h1 hi hf ht hp hq;refine aM ?_;simp only [cq]
 cases hl:s.drop i with
 | nil=>
  rw [hl,ii] at hq; cases hq;have:=Qg hl;exact ar O (ac ⟨i,fr,rfl,rfl,hf,hi,hp,rfl⟩)
 | cons b r=>
  obtain ⟨g1,g2,g3⟩:=Cq hl;have hsub:sub s (i:Int) (s.length:Int)=b::r:=by grind [mw]
  have Pn:(b::r).length=s.length-i:=by grind
  rw [hl,ii] at hq;refine ap O (am O ?_);rw [hsub];by_cases hp3:hasPrefix (b::r) [36,36,123]=true
  ·rw [if_pos hp3] at hq;have hpl:=wE hp3;simp only [aq,List.length_nil] at hpl Pn;have hlong:=Lw s a ((i:Int)+3) (fr:Int) (text++[36,123]) parts Vo aV;have htl:(text++[36,123]).length=text.length+2:=by simp
   rw [htl] at hlong;by_cases hlg:4096<text.length+2
   ·grind
   ·rw [if_neg hlg] at hq hlong;refine ak (0,0,[],s,a,(i:Int)+3,(fr:Int),text++[36,123],parts,Vo) ?_ (ap rfl ?_)
    ·exact ak true (aA (tr _ _) hp3) (ap Z (am (by grind) (am aV (ak _ (aA hlong Z) (ac Z)))))
    ·have e3:s.drop (i+3)=(b::r).drop 3:=by grind [yT]
     have:=ih.r s a (i+3) fr (text++[36,123]) parts Vo q h0 h1 O O O O  (by
      grind)
     grind
  rw [if_neg hp3] at hq;by_cases hp2:hasPrefix (b::r) [36,123]=true
  ·rw [if_pos hp2] at hq;have hpl:=wE hp2;simp only [aq,List.length_nil] at hpl Pn;have e2:s.drop (i+2)=(b::r).drop 2:=by grind [yT]
   have hfl:=GE text parts Vo h0 h1 hi hf hp;have hflen:(flS (a+(fr:Int)) (a+(i:Int)) text parts).length<=parts.length+1:=by grind [flS]
   cases hc:fU f 1 ((b::r).drop 2) with
   | none=>grind
   | some y=>
    rw [hc] at hq;have hcl:=F9 ((Jp (s:=s) O f).1 1 (i+2) ((i:Int)+2) 1 y O rfl (by decide) (by grind) O (by grind));have pre:∀ {P:az×ay->Prop},Ev2 (λ n _=>(bm (n+1) (ay.mk s a (i:Int) (fr:Int) text parts Vo))) P->Ev2 (λ n _=>(bm n (ay.mk s a (i:Int) (fr:Int) text parts Vo))) P:=λ h=>bD h
    cases y with
    | none=>cases hq
    | some r'=>
     simp only at hq;have hsf:=(sa f).1 _ _ _ hc;have UT:=hsf.2;have hd2:((b::r).drop 2).length=s.length-(i+2):=by grind
     have hrs:r' <:+ s:=by grind [List.drop_suffix]
     have hsd:=Ty hrs;have hcp:SN s (some r')=((s.length-r'.length-1:Nat):Int):=by show (s.length:Int)-(r'.length:Int)-1=_; omega
     rw [hcp] at hcl
     have hsub2:sub s ((i:Int)+2) ((s.length-r'.length-1:Nat):Int)=((b::r).drop 2).take (((b::r).drop 2).length-r'.length-1):=by
      rw [show (i:Int)+2=((i+2:Nat):Int) by omega,qJ,List.drop_take,e2]
      grind
     generalize hX:((b::r).drop 2).take (((b::r).drop 2).length-r'.length-1)=X at hq hsub2;have hXl:X.length<=((b::r).drop 2).length:=by grind
     cases hw:ll f X (a+(i:Int)+2) with
     | none=>grind
     | some z=>
      rw [hw] at hq;rcases z with e|e
      ·cases hq
      ·have hwh:=ih.w X (a+(i:Int)+2) e O O  hw
       have lead:∀ {P:az×ay->Prop},Ev2 (λ n _=>(jr n X (a+(i:Int)+2)).bind λ Vk=>if Vk.2.Ar=0 then ck (((flS (a+(fr:Int)) (a+(i:Int)) text parts).length+1)*160<=140737488355328)<|ck (inR (((s.length-r'.length-1:Nat):Int)+1))<|some (az.mk 0 0 ([]:Bk),ay.mk s a (((s.length-r'.length-1:Nat):Int)+1) (((s.length-r'.length-1:Nat):Int)+1) [] (flS (a+(fr:Int)) (a+(i:Int)) text parts++[Vk.1]) true) else some (Vk.2,ay.mk s a (i:Int) (fr:Int) [] (flS (a+(fr:Int)) (a+(i:Int)) text parts) true)) P ->
         Ev2 (λ n _=>(bm n (ay.mk s a (i:Int) (fr:Int) text parts Vo))) P:=by
        intro P hP;refine pre ?_;simp only [bm];refine ak _ (aA hfl rfl) (am gz (ak _ hcl (ar O (am gz (am ⟨by grind,by grind,by grind⟩ (am gz (am gz ?_)))))))
        grind
       have hq:ii f (a+(i:Int)+(((b::r).length-r'.length:Nat):Int)) (a+(i:Int)+(((b::r).length-r'.length:Nat):Int)) [] (flS (a+(fr:Int)) (a+(i:Int)) text parts++[e]) true r'=some (.inr q):=hq
       have hpos:a+(i:Int)+(((b::r).length-r'.length:Nat):Int)=a+((s.length-r'.length:Nat):Int):=by
        grind
       rw [hpos] at hq;have hi2:((s.length-r'.length-1:Nat):Int)+1=((s.length-r'.length:Nat):Int):=by omega
       refine ak (0,0,[],s,a,((s.length-r'.length:Nat):Int),((s.length-r'.length:Nat):Int),[],flS (a+(fr:Int)) (a+(i:Int)) text parts++[e],true) ?_ (ap Z ?_)
       ·refine ak false Fp (ar wr (ak true (aA (tr _ _) hp2) (ap rfl ?_)));refine ak (dOk,ay.mk s a ((s.length-r'.length:Nat):Int) ((s.length-r'.length:Nat):Int) [] (flS (a+(fr:Int)) (a+(i:Int)) text parts++[e]) true) (lead (aW _ hwh ?_)) (ac rfl);rintro _ rfl;refine ap rfl (am O (am aV (ac ?_)));rw [hi2]; rfl
       ·exact ih.r s a (s.length-r'.length) (s.length-r'.length) [] _ true q h0 h1 O (bt _) (by decide) (by grind) (by grind)
  rw [if_neg hp2] at hq;have hit:=Tq (s:=s) O (a:=a) (fr:=(fr:Int)) (i:=i) h0 O O O text ht parts Vo hl
  cases hi':lQ (b::r) with
  | inl k=>grind
  | inr tn=>
   obtain ⟨t,n⟩:=tn;rw [hi'] at hq hit;have hq:(if 4096<text.length+t.length then some (.inl (3,a+(fr:Int))) else ii f (a+(fr:Int)) (a+(i:Int)+(n:Int)) (text++t) parts Vo ((b::r).drop n))=some (.inr q):=hq;have hn:=CU hi';by_cases hlg:4096<text.length+t.length
   ·grind
   ·rw [if_neg hlg] at hq;refine ak (0,0,[],s,a,(i:Int)+(n:Int),(fr:Int),text++t,parts,Vo) ?_ (ap rfl ?_)
    ·refine ak false Fp (ar wr (ak false Fp (ar wr ?_)));refine aW _ hit ?_;rintro ⟨z1,z2⟩ hz;unfold ItO at hz;simp only [if_neg hlg] at hz
     cases hz
     exact ac Z
    ·have e3:s.drop (i+n)=(b::r).drop n:=by grind [yT]
     have:=ih.r s a (i+n) fr (text++t) parts Vo q h0 h1 O O  (by grind) O (by
      grind)
     grind
theorem fol:∀ f,Fol f:=by
 intro f
 induction f with
 | zero=>
  constructor
  ·intro b l L base hL Pn i Sk q h hq; grind [hZ]
  ·intro Vt li b l _ _ L base hL Pn i Sk q h hq; grind [tv]
  ·intro Vt li b l x r5 _ _ _ L base hL Pn i Sk q h hq; grind [uU]
  ·intro b l L base hL Pn i Sk q h hq; grind [unS]
  ·intro b l x r1 _ L base hL Pn i Sk q h hq; grind [pp]
  ·intro b l L base hL Pn i Sk q h hq; grind [lR]
  ·intro b l _ L base hL Pn i Sk q h hq; grind [yr]
  ·intro b l _ L base hL Pn i Sk q h hq; grind [rH]
  ·intro en l out _ _ L base hL Pn i Sk q h hq; grind [lk]
  ·intro l out _ _ L base hL Pn i Sk q h hq; grind [uM]
  ·intro l L base hL Pn i Sk q h hq; grind [rb]
  ·intro a k l _ _ L base hL Pn i Sk b q _ _ h hq; grind [q9]
  ·grind [qt]
  ·grind [ii]
  grind [ll]
 | succ f ih=>exact ⟨UB ih,Ug ih,TN ih,UH ih,S6 ih,UM ih,Uy ih,T8 ih,UR ih,Ut ih,Ud ih,SL ih,Tg ih,Ua ih,T3 ih⟩
theorem pr {s s':Bk->SE⊕Bk}{b:UInt8}{r:Bk}(h:s r=s' r):my s (b::r)=my s' (b::r):=by
 grind [jc]
theorem ul:∀ f,(∀ k l g,l.length<f->f<=g->ig g k l=ig f k l)/\(∀ k n l g,l.length<f->f<=g->mB g k n l=mB f k n l)
 | 0=>(by grind)
 | f+1=>by
  obtain ⟨ih1,ih2⟩:=ul f;constructor
  ·intro k l g hl hg;obtain ⟨g,rfl⟩:∃ g',g=g'+1:=⟨g-1,by omega⟩
   cases l with
   | nil=>rw [ig,ig]
   | cons b r=>
    simp only [aq] at hl;rw [oy,oy];split
    ·rfl
    split
    ·grind
    split
    ·split
     ·rfl
     ·rw [ih2 (k+1) 1 ((b::r).drop 2) g (by grind) O]
      cases hi:mB f (k+1) 1 ((b::r).drop 2) with
      | inl e=>rfl
      | inr l1=>
       have h2:=((jK f (k+1)).2 _ _ _ hi).2
       grind
    grind [ja]
  ·intro k n l g hl hg;obtain ⟨g,rfl⟩:∃ g',g=g'+1:=⟨g-1,by omega⟩
   rw [oL,oL];have hs:=(mW false l).length_le
   cases hbr:fw false l with
   | nil=>rfl
   | cons b r=>
    rw [hbr] at hs;simp only [aq] at hs;rw [lH,lH,pr (ih1 k r g O O)]
    cases hl1:my (ig f k) (b::r) with
    | inl e=>rfl
    | inr z=>
     obtain ⟨c,t,l1⟩:=z;have h2:=(nt (λ r r' _ hr=>(jK f k).1 _ _ hr) hl1).2
     grind [qm]
def qK (k:Nat)(l:Bk):SE⊕Bk:=ig (l.length+1) k l
def sP (k n:Nat)(l:Bk):SE⊕Bk:=mB (l.length+1) k n l
theorem si {f k:Nat}{l:Bk}(h:l.length<f):ig f k l=qK k l:=(ul (l.length+1)).1 k l f O O
theorem G2 {f k n:Nat}{l:Bk}(h:l.length<f):mB f k n l=sP k n l:=(ul (l.length+1)).2 k n l f O O
theorem lK (k:Nat)(b:UInt8)(r:Bk):qK k (b::r)=if b.toNat=34 then .inr r
  else if hasPrefix (b::r) [36,36,123]=true then qK k ((b::r).drop 3)
  else if hasPrefix (b::r) [36,123]=true then (if 32<=k then .inl (4,some (b::r).length) else match sP (k+1) 1 ((b::r).drop 2) with|.inl e=>.inl e|.inr l=>qK k l)
  else match (if b.toNat=92 then r else b::r) with
   | []=>.inl (40,none)
   | c::t=>if mC (decodeL (c::t)) then .inl (2,some (c::t).length) else qK k ((c::t).drop (decodeL (c::t)).2):=by
 have e:qK k (b::r)=ig ((b::r).length+1) k (b::r):=rfl;rw [e,oy];split
 ·rfl
 split
 ·grind [si]
 split
 ·split
  ·rfl
  ·rw [G2 (by grind)]
   cases hi:sP (k+1) 1 ((b::r).drop 2) with
   | inl e=>rfl
   | inr l1=>
    have h2:=((jK _ (k+1)).2 _ _ _ hi).2
    grind [si]
 grind [ja,si]
theorem GJ (k n:Nat)(l:Bk):sP k n l=RS (sP k) (qK k) n (fw false l):=by
 have e:sP k n l=mB (l.length+1) k n l:=rfl;rw [e,oL];have hs:=(mW false l).length_le
 cases hbr:fw false l with
 | nil=>rfl
 | cons b r=>
  rw [hbr] at hs;simp only [aq] at hs;rw [lH,lH,pr (si O :ig l.length k r=qK k r)]
  cases hl1:my (qK k) (b::r) with
  | inl e=>rfl
  | inr z=>
   obtain ⟨c,t,l1⟩:=z;have h2:=(nt (λ r r' _ hr=>(jK _ k).1 _ _ hr) hl1).2
   grind [qm,G2]
theorem G0 (c:Bool)(l:Bk):fw c (32::l)=fw c l:=by
 unfold fw;rw [List.dropWhile_cons,if_pos (by decide)]
theorem OV (k n:Nat)(l:Bk):sP k n (32::l)=sP k n l:=by grind [GJ,G0]
theorem zr:∀ (f c:Nat) (l:Bk) (g:Nat),l.length<f->f<=g->mg g c l=mg f c l
 | 0,_,_,_,h,_=>absurd h (Nat.not_lt_zero _)
 | f+1,c,l,g,hl,hg=>by
  obtain ⟨g,rfl⟩:∃ g',g=g'+1:=⟨g-1,by omega⟩
  rw [na,na];have hs:=(mW true l).length_le
  cases hbr:fw true l with
  | nil=>rfl
  | cons b r=>
   rw [hbr] at hs;simp only [aq] at hs;rw [jP,jP,pr ((ul f).1 0 r g O O)]
   cases hl1:my (ig f 0) (b::r) with
   | inl e=>rfl
   | inr z=>
    obtain ⟨k,t,l1⟩:=z;have h2:=(nt (λ r r' _ hr=>(jK f 0).1 _ _ hr) hl1).2;simp only [aq] at h2;rw [nb,nb,zr f (c+1) l1 g O O]
def qz (c:Nat)(l:Bk):SE⊕List Tk:=mg (l.length+1) c l
theorem yj (c:Nat)(l:Bk):qz c l=CR (qz (c+1)) (qK 0) c (fw true l):=by
 have e:qz c l=mg (l.length+1) c l:=rfl;rw [e,na];have hs:=(mW true l).length_le
 cases hbr:fw true l with
 | nil=>rfl
 | cons b r=>
  rw [hbr] at hs;simp only [aq] at hs;rw [jP,jP,pr (si O :ig l.length 0 r=qK 0 r)]
  cases hl1:my (qK 0) (b::r) with
  | inl e=>rfl
  | inr z=>
   obtain ⟨k,t,l1⟩:=z;have h2:=(nt (λ r r' _ hr=>(jK _ 0).1 _ _ hr) hl1).2
   grind [nb,qz,zr]
theorem J2 (c:Nat)(l:Bk):qz c (32::l)=qz c l:=by grind [yj,G0]
theorem rz:∀ f,(∀ d l r,fU f d l=some (some r)->r.length<l.length)/\(∀ l r,iC f l=some (some r)->r.length<l.length)
 | 0=>⟨λ _ _ _ h=>(by grind [fU]),λ _ _ h=>(by grind [iC])⟩
 | f+1=>by
  obtain ⟨ih1,ih2⟩:=rz f;constructor
  ·intro d l r h
   cases l with
   | nil=>grind [fU]
   | cons b t=>
    grind [fU]
  ·intro l r h
   cases l with
   | nil=>grind [iC]
   | cons b t=>
    grind [iC]
theorem vN:∀ f,(∀ d l g,l.length<f->f<=g->fU g d l=fU f d l)/\(∀ l g,l.length<f->f<=g->iC g l=iC f l)
 | 0=>(by grind)
 | f+1=>by
  obtain ⟨ih1,ih2⟩:=vN f;constructor
  ·intro d l g hl hg;obtain ⟨g,rfl⟩:∃ g',g=g'+1:=⟨g-1,by omega⟩
   cases l with
   | nil=>rw [fU,fU]
   | cons b r=>
    simp only [aq] at hl;rw [fU,fU,ih1 (d+1) r g O O,ih1 (d-1) r g O O,ih1 d r g O O,ih2 r g O O];split
    ·rfl
    split
    ·rfl
    split
    ·cases hq:iC f r with
     | none=>rfl
     | some o=>cases o with
      | none=>rfl
      | some r'=>
       have:=(rz f).2 _ _ hq
       grind
    ·rfl
  ·intro l g hl hg;obtain ⟨g,rfl⟩:∃ g',g=g'+1:=⟨g-1,by omega⟩
   cases l with
   | nil=>rw [iC,iC]
   | cons b r=>
    simp only [aq] at hl;rw [iC,iC,ih2 r g O O,ih2 (r.drop 1) g (by grind) O,ih2 ((b::r).drop 3) g (by grind) O,ih1 1 ((b::r).drop 2) g (by grind) O];split
    ·rfl
    split
    ·rfl
    split
    ·rfl
    split
    ·cases hq:fU f 1 ((b::r).drop 2) with
     | none=>rfl
     | some o=>cases o with
      | none=>rfl
      | some r'=>
       have:=(rz f).1 _ _ _ hq
       grind
    ·rfl
def nE (d:Nat)(l:Bk):Option (Option Bk):=fU (l.length+1) d l
def nS (l:Bk):Option (Option Bk):=iC (l.length+1) l
theorem qk {f d:Nat}{l:Bk}(h:l.length<f):fU f d l=nE d l:=(vN (l.length+1)).1 d l f O O
theorem ri {f:Nat}{l:Bk}(h:l.length<f):iC f l=nS l:=(vN (l.length+1)).2 l f O O
theorem ln (d:Nat)(b:UInt8)(r:Bk):nE d (b::r)=if b.toNat=123 then nE (d+1) r
  else if b.toNat=125 then (if d=1 then some (some r) else nE (d-1) r)
  else if b.toNat=34 then (match nS r with|none=>none|some none=>some none|some (some r')=>nE d r')
  else nE d r:=by
 have e:nE d (b::r)=fU ((b::r).length+1) d (b::r):=rfl;rw [e,fU,qk G,qk G,qk G,ri G];split
 ·rfl
 split
 ·rfl
 split
 ·cases hq:nS r with
  | none=>rfl
  | some o=>cases o with
   | none=>rfl
   | some r'=>
    have:=(rz _).2 _ _ hq
    grind [qk]
 ·rfl
theorem jY (b:UInt8)(r:Bk):nS (b::r)=if b.toNat=34 then some (some r)
  else if b.toNat=92 then nS (r.drop 1)
  else if hasPrefix (b::r) [36,36,123]=true then nS ((b::r).drop 3)
  else if hasPrefix (b::r) [36,123]=true then (match nE 1 ((b::r).drop 2) with|none=>none|some none=>some none|some (some r')=>nS r')
  else nS r:=by
 have e:nS (b::r)=iC ((b::r).length+1) (b::r):=rfl;rw [e,iC,ri (l:=r) G,ri (l:=r.drop 1) (by grind),ri (l:=(b::r).drop 3) (by grind),qk (by grind)];split
 ·rfl
 split
 ·rfl
 split
 ·rfl
 split
 ·cases hq:nE 1 ((b::r).drop 2) with
  | none=>rfl
  | some o=>cases o with
   | none=>rfl
   | some r'=>
    have:=(rz _).1 _ _ _ hq
    grind [ri]
 ·rfl
abbrev Tok:=Int×Bk
def ktk (z:Tk):Tok:=(z.1,z.2.1)
def Wd (c:Int)(t:Bk):Bk:=if c=3 then 34::(t++[34]) else t
def Wrd (D:Nat)(z:Tok)(x y:Bk):Prop:=∃ b r,x=b::r/\ku b=false/\b.toNat≠35/\lX x=true/\∀ k,k+D<=32->my (qK k) x=.inr (z.1,z.2,y)
def VT (z:Tok):Prop:=(1<=z.1/\z.1<=5)/\Wrd 32 z (Wd z.1 z.2) []
theorem Wrd.vt {D:Nat}{z:Tok}{x y:Bk}(h:Wrd D z x y)(hD:D<=32)(hz:(decide (1<=z.1)&&decide (z.1<=5))=true)(e:x=Wd z.1 z.2/\y=[]):VT z:=by
 obtain ⟨rfl,rfl⟩:=e;obtain ⟨b,r,h1,h2,h3,h4,h5⟩:=h;exact ⟨by grind,b,r,h1,h2,h3,h4,λ k hk=>h5 k O⟩
def rf (l:List Tok):Nat:=(l.map λ z=>z.2.length).sum
theorem Mu (l m:List Tok):rf (l++m)=rf l+rf m:=by simp [rf]
structure Go (D:Nat)(l:List Tok)(x y:Bk):Prop where
 i:∀ k n,k+D<=32->sP k (n+1) x=sP k (n+1) y
 c:∀ d,nE (d+1) x=nE (d+1) y
 s:D<=32->∀ c ts,c+l.length<=16384->qz (c+l.length) y=.inr ts->∃ ts':List Tk,ts'.map ktk=l/\qz c x=.inr (ts'++ts)
 v:D<=32->∀ z∈l,VT z
 n:rf l+y.length<=x.length
theorem Go.refl {D:Nat}{x:Bk}:Go D [] x x:=⟨λ _ _ _=>rfl,λ _=>rfl,λ _ _ ts _ h=>⟨[],Z,h⟩,λ _=>nofun,by simp [rf]⟩
theorem Go.trans {D:Nat}{l m:List Tok}{x y z:Bk}(h:Go D l x y)(g:Go D m y z):Go D (l++m) x z where
 i k n hk:=(h.i k n hk).trans (g.i k n hk)
 c d:=(h.c d).trans (g.c d)
 s hD c ts hc hs:=by
  rw [n8] at hc hs;obtain ⟨t2,e2,h2⟩:=g.s hD (c+l.length) ts O (by grind);obtain ⟨t1,e1,h1⟩:=h.s hD c _ O h2
  grind
 v hD z hz:=(List.mem_append.1 hz).elim (h.v hD z) (g.v hD z)
 n:=by have:=h.n; have:=g.n; rw [Mu]; omega
theorem Go.mono {D E:Nat}{l:List Tok}{x y:Bk}(hDE:D<=E)(h:Go D l x y):Go E l x y :=
 ⟨λ k n hk=>h.i k n O,h.c,λ hE=>h.s O,λ hE=>h.v O,h.n⟩
theorem Go.sp {D:Nat}{x:Bk}:Go D [] (32::x) x :=
 ⟨λ k n _=>OV k (n+1) x,λ d=>by grind [ln],λ _ c ts _ h=>⟨[],Z,by grind [J2]⟩,λ _=>nofun,by simp [rf]⟩
theorem B8 (c:Bool){b:UInt8}{r:Bk}(h1:ku b=false)(h2:b.toNat≠35):fw c (b::r)=b::r:=by
 grind [fw,List.dropWhile_cons]
theorem Wrd.int {D:Nat}{z:Tok}{x y:Bk}(h:Wrd D z x y){k n:Nat}(hk:k+D<=32):sP k n x=if z.1=4/\z.2=[125] then (if n=1 then .inr y else sP k (n-1) y) else if z.1=4/\z.2=[123] then sP k (n+1) y else sP k n y:=by
 obtain ⟨b,r,rfl,h1,h2,_,h4⟩:=h
 grind [GJ,B8,lH,qm]
theorem Wrd.scan {D:Nat}{z:Tok}{x y:Bk}(h:Wrd D z x y)(hD:D<=32){c:Nat}{ts:List Tk}(hc:c+1<=16384)(hs:qz (c+1) y=.inr ts):∃ n,qz c x=.inr ((z.1,z.2,n)::ts):=by
 obtain ⟨b,r,rfl,h1,h2,h3,h4⟩:=h;refine ⟨(b::r).length,?_⟩
 grind [yj,B8,jP,nb]
theorem Wrd.go {D:Nat}{z:Tok}{x y:Bk}(h:Wrd D z x y)(h1:¬ (z.1=4/\z.2=[125]))(h2:¬ (z.1=4/\z.2=[123]))(hc:∀ d,nE (d+1) x=nE (d+1) y)(hv:D<=32->VT z)(hn:z.2.length+y.length<=x.length):Go D [z] x y where
 i k n hk:=by rw [h.int hk,if_neg h1,if_neg h2]
 c:=hc
 s hD c ts hl hs:=by
  obtain ⟨n,hn⟩:=h.scan hD (c:=c) hl hs;exact ⟨[(z.1,z.2,n)],rfl,hn⟩
 v hD x hx:=by grind
 n:=by grind [rf]
def nbr (z:UInt8):Bool:=decide (z.toNat≠123)&&decide (z.toNat≠125)&&decide (z.toNat≠34)
theorem q7 (d:Nat)(y:Bk):∀ t:Bk,(∀ z∈t,nbr z=true)->nE d (t++y)=nE d y
 | [],_=>rfl
 | b::t,h=>by
  have hb:=h b th;simp only [nbr,py,decide_eq_true_eq] at hb;rw [mv,ln,if_neg hb.1.1,if_neg hb.1.2,if_neg hb.2];exact q7 d y t (by grind)
theorem Q6 {b:UInt8}(h:kD b=true):nbr b=true:=by
 grind [kD,nbr]
theorem FO {b:UInt8}(h:hQ b=true):nbr b=true:=by
 grind [hQ,nbr]
theorem SK {b:UInt8}(h:idB b=true):nbr b=true:=by
 grind [idB,Q6,FO]
theorem zP {p:UInt8->Bool}:∀ {t x:Bk},(∀ z∈t,p z=true)->(∀ z∈x.head?,p z=false)->(t++x).takeWhile p=t/\(t++x).dropWhile p=x
 | [],x,_,hx=>by
  cases x with
  | nil=>simp_all
  | cons b r=>simp_all
 | b::t,x,ht,hx=>by
  have hb:=ht b th;have ih:=zP (λ z hz=>ht z (List.mem_cons_of_mem _ hz)) hx
  simp_all
def sO (y:Bk):Prop:=∀ z∈y.head?,idB z=false
theorem Ii {b:UInt8}(h:kD b=true):ku b=false/\b.toNat≠35/\hQ b=false:=by
 grind [kD,hQ,ku]
theorem Iv {b:UInt8}(h:hQ b=true):ku b=false/\b.toNat≠35/\kD b=false/\b.toNat≠10/\b.toNat≠34:=by
 grind [kD,hQ,ku]
theorem yg {D:Nat}{t y:Bk}(h:bW t=true)(hy:sO y):Wrd D (1,t) (t++y) y/\∀ z∈t,nbr z=true:=by
 cases t with
 | nil=>cases h
 | cons b r=>
  simp only [bW,py,decide_eq_true_eq,sm] at h;obtain ⟨⟨h1,h2⟩,h3⟩:=h;obtain ⟨f1,f2,f3⟩:=Ii h2
  have hall:∀ z∈b::r,idB z=true:=λ z hz=>by
   grind [idB]
  have hr:=zP hall hy;refine ⟨⟨b,r++y,Z,f1,f2,by grind [gA],λ k _=>?_⟩,λ z hz=>SK (hall z hz)⟩
  grind [jc]
theorem uc:sO []:=λ z h=>by cases h
theorem kU {D:Nat}{t y:Bk}(h:bW t=true)(hy:sO y):Go D [(1,t)] (t++y) y :=
 (yg h hy).1.go (λ q=>by cases q.1) (λ q=>by cases q.1) (λ d=>q7 _ _ _ (yg (D:=D) h hy).2) (λ hD=>(yg (D:=D) h uc).1.vt hD rfl ⟨List.append_nil t,rfl⟩) G
theorem GM {D:Nat}{t y:Bk}(h0:t≠[])(h:∀ z∈t,hQ z=true)(hy:sO y):Wrd D (2,t) (t++y) y:=by
 cases t with
 | nil=>grind
 | cons b r=>
  have hb:=h b th;obtain ⟨f1,f2,f3,f4,f5⟩:=Iv hb;have hr:=zP h (λ z hz=>by have:=hy z hz; grind [idB]);refine ⟨b,r++y,rfl,f1,f2,by grind [gA],λ k _=>?_⟩
  grind [jc]
theorem SB {D:Nat}{t y:Bk}(h0:t≠[])(h:∀ z∈t,hQ z=true)(hy:sO y):Go D [(2,t)] (t++y) y :=
 (GM h0 h hy).go (λ q=>by cases q.1) (λ q=>by cases q.1) (λ d=>q7 _ _ _ (λ z hz=>FO (h z hz))) (λ hD=>(GM (D:=D) h0 h uc).vt hD rfl ⟨List.append_nil t,rfl⟩) G
theorem pt {D:Nat}{b:UInt8}{w y:Bk}(hb:ku b=false/\b.toNat≠35/\kD b=false/\hQ b=false/\b.toNat≠10/\b.toNat≠34)(hs:iU (b::w++y)=b::w):Wrd D (4,b::w) (b::w++y) y:=by
 obtain ⟨f1,f2,f3,f4,f5,f6⟩:=hb;refine ⟨b,w++y,rfl,f1,f2,?_,λ k _=>?_⟩
 ·grind [gA]
 grind [jc]
theorem AK {D:Nat}{b:UInt8}{w y:Bk}(hb:ku b=false/\b.toNat≠35/\kD b=false/\hQ b=false/\b.toNat≠10/\b.toNat≠34)(hs:iU (b::w++y)=b::w)(h0:iU (b::w++[])=b::w)(hn:∀ z∈b::w,nbr z=true):Go D [(4,b::w)] (b::w++y) y:=by
 refine (pt hb hs).go (λ q=>?_) (λ q=>?_) (λ d=>q7 _ _ _ hn) (λ hD=>(pt (D:=D) hb h0).vt hD Z ⟨List.append_nil _,Z⟩) jW
 ·have:=hn 125 (by grind); revert this; decide
 ·have:=hn 123 (by grind); revert this; decide
def KW (b:UInt8):Bool:=decide (b∈([40,41,91,93,123,125,44,46,58,63,45]:Bk))
theorem pm {b:UInt8}(h:KW b=true)(y:Bk):iU (b::y)=[b]:=by
 simp only [KW,decide_eq_true_eq,qr,List.not_mem_nil,or_false] at h;rcases h with rfl|rfl|rfl|rfl|rfl|rfl|rfl|rfl|rfl|rfl|rfl <;> (unfold iU vb; simp [hasPrefix,List.isPrefixOf,S5,yU]; decide)
theorem jH {D:Nat}{b:UInt8}(h:KW b=true)(hb:b≠123/\b≠125)(y:Bk):Go D [(4,[b])] (b::y) y:=by
 have hs:=pm h y;have h0:=pm h [];simp only [KW,decide_eq_true_eq,qr,List.not_mem_nil,or_false] at h;refine AK (w:=[]) ?_ hs h0 ?_
 ·rcases h with rfl|rfl|rfl|rfl|rfl|rfl|rfl|rfl|rfl|rfl|rfl <;> decide
 ·intro z hz;obtain rfl:=List.mem_singleton.1 hz;rcases h with rfl|rfl|rfl|rfl|rfl|rfl|rfl|rfl|rfl|rfl|rfl <;> first|decide|grind|grind
theorem yn {D:Nat}{l:List Tok}{x y:Bk}(h:Go D l x (125::y)):Go D ((4,[123])::(l++[(4,[125])])) (123::x) y:=by
 have w1:Wrd D (4,[123]) (123::x) x:=pt (w:=[]) (by decide) (pm (by decide) x);have w2:Wrd D (4,[125]) (125::y) y:=pt (w:=[]) (by decide) (pm (by decide) y);have v1:Wrd D (4,[123]) [123] []:=pt (w:=[]) (by decide) (pm (by decide) []);have v2:Wrd D (4,[125]) [125] []:=pt (w:=[]) (by decide) (pm (by decide) []);refine ⟨λ k n hk=>?_,λ d=>?_,λ hD c ts hc hs=>?_,λ hD z hz=>?_,by have:=h.n; grind [rf]⟩
 ·rw [w1.int hk,if_neg (by decide),if_pos (by decide),h.i k (n+1) hk,w2.int hk,if_pos (by decide),if_neg O]; rfl
 ·rw [ln,if_pos (by decide),h.c (d+1),ln,if_neg (by decide),if_pos (by decide),if_neg O]; rfl
 ·simp only [aq,n8,List.length_nil] at hc hs;obtain ⟨n2,h2⟩:=w2.scan hD (c:=c+1+l.length) O (by rw [<- hs]; grind);obtain ⟨ts',e,h1⟩:=h.s hD (c+1) _ O h2;obtain ⟨n1,h0⟩:=w1.scan hD (c:=c) O h1;exact ⟨((4,[123],n1):Tk)::(ts'++[(4,[125],n2)]),by simp [ktk,e],by grind⟩
 ·rcases qr.1 hz with rfl|hz
  ·exact v1.vt hD Z ⟨Z,Z⟩
  ·rcases List.mem_append.1 hz with hz|hz
   ·exact h.v hD z hz
   ·rw [List.mem_singleton.1 hz]; exact v2.vt hD rfl ⟨rfl,rfl⟩
def qy (D:Nat)(s:Bk):Prop:=(∀ k y,k+D<=32->qK k (s++34::y)=.inr y)/\∀ y,nS (s++34::y)=some (some y)
theorem FY {D:Nat}{s y:Bk}(h:qy D s):Wrd D (3,s) (34::(s++34::y)) y:=by
 refine ⟨34,s++34::y,Z,by decide,by decide,by rw [gA]; simp,λ k hk=>?_⟩;rw [jc,if_neg (by decide),if_neg (by decide),if_neg (by decide),if_pos (by decide),h.1 k y hk]
 grind [List.take_left]
theorem Ei {D:Nat}{s y:Bk}(h:qy D s):Go D [(3,s)] (34::(s++34::y)) y :=
 (FY h).go (λ q=>by cases q.1) (λ q=>by cases q.1) (λ d=>by rw [ln,if_neg (by decide),if_neg (by decide),if_pos (by decide),h.2 y]) (λ hD=>(FY (y:=[]) h).vt hD rfl ⟨rfl,rfl⟩) jW
theorem JP {D:Nat}{y:Bk}:Go D [(5,[10])] (10::y) y:=by
 have w:∀ y,Wrd D (5,[10]) (10::y) y:=λ y=>⟨10,y,Z,by decide,by decide,by rw [gA]; rfl,λ k _=>by rw [jc,if_neg (by decide),if_neg (by decide),if_pos (by decide)]⟩
 exact (w y).go (λ q=>by cases q.1) (λ q=>by cases q.1) (λ d=>by grind [ln]) (λ hD=>(w []).vt hD rfl ⟨rfl,rfl⟩) jW
theorem xF {D:Nat}{l:List Tok}{t:Bk}(hD:D<=32)(hl:l.length<16384)(ht:t.length<=65536)(h:Go D l t []):∃ L e:List af,(jU t).1=L++e/\(jU t).2.Ar=0/\L.map (λ t=>(t.Ar,t.C'))=l/\e.map (λ t=>(t.Ar,t.C'))=[(6,[])]:=by
 have he:qz (0+l.length) []=.inr [(6,[],0)]:=by
  rw [yj,show fw true []=[] from rfl,sB,if_neg O]
 obtain ⟨ts',e,hs⟩:=h.s hD 0 _ O he;refine ⟨ts'.map (tkS t),[tkS t (6,[],0)],?_,?_,?_,rfl⟩
 ·unfold jU;rw [if_neg O,show mg (t.length+1) 0 t=qz 0 t from rfl,hs];show []++(ts'++[(6,[],0)]).map (tkS t)=_;simp
 ·unfold jU;rw [if_neg O,show mg (t.length+1) 0 t=qz 0 t from rfl,hs]
  rfl
 ·rw [List.map_map,<- e]; rfl
def nK:Bk->Bk|[]=>[]|b::r=>(if b=36/\r.head? = some 123 then [36,b] else [b])++nK r
def quo (s:Bk):Bk:=(nK s).flatMap d8
inductive UV:Bk->Prop where
 | nil:UV []
 | lo {b:UInt8} {r:Bk} (hb:b.toNat<128) (h:UV r):UV (b::r)
 | hi {u r:Bk} {c:Nat} (hu:u≠[]) (ha:∀ y∈u,128<=y.toNat) (hd:∀ t,decodeL (u++t)=(c,u.length)) (hc:128<=c) (hn:¬ (c=65533/\u.length=1)) (h:UV r):UV (u++r)
theorem uC:∀ (n:Nat) (x:Bk),x.length<=n->validD x=true->UV x
 | _,[],_,_=>.nil
 | 0,_::_,h,_=>absurd h G
 | n+1,b::r,hx,hv=>by
  by_cases hb:b.toNat<128
  ·exact .lo hb (uC n r (by grind) (by grind [validD_cons]))
  ·have Vs:b::r≠[]:=by simp
   obtain ⟨Xi,hvr⟩:=(tD _ Vs).1 hv;have hdf:=ja _ Vs;have hgood:=hdf.2.2 Xi;have hN:=Pa (b::r).length ((b::r).getD 0 0).toNat ((b::r).getD 1 0).toNat ((b::r).getD 2 0).toNat ((b::r).getD 3 0).toNat G (UInt8.toNat_lt _);rw [<- decodeL_N] at hN;generalize hD:decodeL (b::r)=D at Xi hvr hdf hgood hN;obtain ⟨c,w⟩:=D;simp only at Xi hvr hdf hgood hN
   have hc:128<=c:=by
    grind
   have hhigh:=hN.2.2.2.2.1 hc
   have hp:∀ y∈(b::r).take w,128<=y.toNat:=by
    exact Kk
   have hl:((b::r).take w).length=w:=by grind
   have h:=UV.hi (u:=(b::r).take w) (r:=(b::r).drop w) (c:=c) (λ e=>by grind) hp
    (λ t=>by grind [wO]) hc (by grind) (uC n _ (by grind) hvr)
   simp_all
structure Pc (v x y:Bk):Prop where
 s:∀ k,qK k x=qK k y
 q:nS x=nS y
 l:y.length<=x.length
 r:∃ j,∀ f frm pos text parts Vo,text.length+v.length<=4096->ii (f+j) frm pos text parts Vo x=ii f frm (pos+((x.length-y.length:Nat):Int)) (text++v) parts Vo y
theorem Pc.refl (x:Bk):Pc [] x x:=⟨λ _=>rfl,Z,bt _,0,λ f frm pos text parts Vo _=>by grind⟩
theorem Pc.trans {v w x y z:Bk}(h:Pc v x y)(g:Pc w y z):Pc (v++w) x z where
 s k:=(h.s k).trans (g.s k)
 q:=h.q.trans g.q
 l:=Nat.le_trans g.l h.l
 r:=by
  obtain ⟨j1,h1⟩:=h.r;obtain ⟨j2,h2⟩:=g.r;refine ⟨j2+j1,λ f frm pos text parts Vo hl=>?_⟩;rw [n8] at hl;rw [<- Nat.add_assoc,h1 _ _ _ _ _ _ O,h2 _ _ _ _ _ _ (by grind),n6];have a:=h.l;have b:=g.l
  grind
theorem ue (f:Nat)(frm pos:Int)(text:Bk)(parts:List ab)(Vo:Bool)(c:UInt8)(r:Bk):ii (f+1) frm pos text parts Vo (c::r) =
  if hasPrefix (c::r) [36,36,123]=true then (if 4096<text.length+2 then some (.inl (3,frm)) else ii f frm (pos+3) (text++[36,123]) parts Vo ((c::r).drop 3))
   else if hasPrefix (c::r) [36,123]=true then (match fU f 1 ((c::r).drop 2) with
    | none=>none
    | some none=>some (.inl (40,pos))
    | some (some r')=>match ll f (((c::r).drop 2).take (((c::r).drop 2).length-r'.length-1)) (pos+2) with
     | none=>none
     | some (.inl e)=>some (.inl e)
     | some (.inr e)=>ii f (pos+((c::r).length-r'.length:Nat)) (pos+((c::r).length-r'.length:Nat)) [] (flS frm pos text parts++[e]) true r')
   else match lQ (c::r) with
    | .inl k=>some (.inl (k,pos))
    | .inr (t,n)=>if 4096<text.length+t.length then some (.inl (3,frm)) else ii f frm (pos+(n:Int)) (text++t) parts Vo ((c::r).drop n):=by rw [ii]
theorem sA (b:UInt8)(r:Bk):lQ (b::r)=if b.toNat=92 then (if (em r).2.2=0 then .inr (encodeRune (em r).1,(em r).2.1.toNat+1) else .inl (em r).2.2)
  else if mC (decodeL (b::r))\/b.toNat=34 then .inl 2 else .inr ((b::r).take (decodeL (b::r)).2,(decodeL (b::r)).2):=rfl
theorem Tc (y:Bk):Pc [36,123] (36::36::123::y) y where
 s k:=by grind [lK,hasPrefix]
 q:=by grind [jY,hasPrefix]
 l:=by grind
 r:=⟨1,λ f frm pos text parts Vo hl=>by
  grind [ue,hasPrefix]⟩
theorem JX {b:UInt8}{y:Bk}(hb:b.toNat<128)(h34:b.toNat≠34)(h92:b.toNat≠92)(hc:¬ (b.toNat<32\/b.toNat=127))(p1:hasPrefix (b::y) [36,36,123]=false)(p2:hasPrefix (b::y) [36,123]=false):Pc [b] (b::y) y:=by
 have hd:=decodeL_ascii b y hb;have hbad:¬ mC (decodeL (b::y)):=by grind [mC]
 refine ⟨λ k=>?_,?_,by simp,1,λ f frm pos text parts Vo hl=>?_⟩
 ·grind [lK]
 ·grind [jY]
 grind [sA,ue]
def AY (z:UInt8):Bool:=decide (32<=z.toNat)&&decide (z.toNat<127)&&decide (z.toNat≠34)&&decide (z.toNat≠92)&&decide (z.toNat≠36)
theorem sW {b:UInt8}(h:b.toNat≠36)(y p:Bk):hasPrefix (b::y) (36::p)=false:=by
 have:¬ (36:UInt8)=b:=λ e=>h (by rw [<- e]; rfl)
 grind [hasPrefix]
theorem vo (y:Bk):∀ t:Bk,(∀ z∈t,AY z=true)->(∀ k,qK k (t++y)=qK k y)/\nS (t++y)=nS y
 | [],_=>⟨λ _=>rfl,Z⟩
 | b::t,h=>by
  have hb:=h b th;simp only [AY,py,decide_eq_true_eq] at hb;have p:=JX (b:=b) (y:=t++y) O hb.1.1.2 hb.1.2 O (sW hb.2 _ _) (sW hb.2 _ _);have ih:=vo y t (by grind);exact ⟨λ k=>(p.s k).trans (ih.1 k),p.q.trans ih.2⟩
theorem yG:∀ u:Fin 256,∀ z∈eg u.val,AY z=true:=by decide +kernel
theorem SD {b c:UInt8}{rest y:Bk}(hb:b.toNat<128)(he:d8 b=92::c::rest):Pc [b] (92::c::(rest++y)) y:=by
 have hr:=BZ b hb c rest he y
 have hcr:(32<=c.toNat/\c.toNat<127)/\∀ z∈rest,AY z=true:=by
  by_cases h10:b.toNat=10
  ·rw [C1 h10] at he; injection he with _ he; injection he with h1 h2; subst h1; grind
  by_cases h13:b.toNat=13
  ·rw [Ci h13] at he; injection he with _ he; injection he with h1 h2; subst h1; grind
  by_cases h9:b.toNat=9
  ·rw [BB h9] at he; injection he with _ he; injection he with h1 h2; subst h1; grind
  by_cases hq:b.toNat=34\/b.toNat=92
  ·grind [B6]
  by_cases hu:b.toNat<32\/b.toNat=127
  ·rw [Bw h10 h13 h9 hu] at he;have he:(92:UInt8)::117::(123::(eg b.toNat++[125]))=92::c::rest:=he
   injection he with _ he; injection he with h1 h2; subst h1; subst h2
   refine ⟨by decide,λ z hz=>?_⟩;rcases qr.1 hz with rfl|hz
   ·decide
   rcases List.mem_append.1 hz with hz|hz
   ·exact yG ⟨b.toNat,by omega⟩ z hz
   ·obtain rfl:=List.mem_singleton.1 hz; decide
  grind [yc]
 have hp:=vo y rest hcr.2;have hd:=decodeL_ascii c (rest++y) O;refine ⟨λ k=>?_,?_,by grind,1,λ f frm pos text parts Vo hl=>?_⟩
 ·grind [lK,sW,mC]
 ·grind [jY]
 ·have hi:lQ (92::c::(rest++y))=.inr ([b],rest.length+1+1):=by
   grind [sA,sj]
  have e1:(92::c::(rest++y)).length-y.length=rest.length+1+1:=by grind
  simp_all [ue,if_neg,sW]
theorem y5 (y:Bk):∀ t:Bk,(∀ z∈t,128<=z.toNat)->nS (t++y)=nS y
 | [],_=>rfl
 | b::t,h=>by
  have hb:=h b th;rw [mv,jY,if_neg O,if_neg O,if_neg (by grind [sW]),if_neg (by grind [sW])];exact y5 y t (by grind)
theorem Pb {u y:Bk}{c:Nat}(hu:u≠[])(ha:∀ y∈u,128<=y.toNat)(hd:∀ t,decodeL (u++t)=(c,u.length))(hc:128<=c)(hn:¬ (c=65533/\u.length=1)):Pc u (u++y) y:=by
 have hq:=y5 y u ha;have hd:=hd y
 cases u with
 | nil=>grind
 | cons b p=>
  have hb:=ha b th
  have hbad:¬ mC (decodeL (b::(p++y))):=by
   grind [mC]
  have hd:decodeL (b::(p++y))=(c,(b::p).length):=hd;have hdr:(b::(p++y)).drop (b::p).length=y:=List.drop_left (l₁:=b::p);refine ⟨λ k=>?_,hq,by grind,1,λ f frm pos text parts Vo hl=>?_⟩
  ·grind [lK,sW]
  ·have hi:lQ (b::(p++y))=.inr (b::p,(b::p).length):=by
    rw [sA,if_neg O,if_neg (by grind),hd]
    grind
   have e1:(b::p++y).length-y.length=(b::p).length:=by grind
   grind [sW,ii]
theorem zD:∀ u r:Bk,(∀ y∈u,128<=y.toNat)->nK (u++r)=u++nK r
 | [],_,_=>rfl
 | b::u,r,h=>by
  have hb:=h b th;rw [mv,nK,if_neg (by rintro ⟨q,_⟩; simp_all),zD u r (by grind)]; rfl
theorem rv (b:UInt8)(r:Bk):quo (b::r)=(if b=36/\r.head? = some 123 then [36,36] else d8 b)++quo r:=by
 unfold quo;rw [nK,List.flatMap_append];split
 ·rename_i h; rw [h.1]; rfl
 ·simp
theorem Om (u r:Bk)(h:∀ y∈u,128<=y.toNat):quo (u++r)=u++quo r:=by
 simp_all [quo,zD,uO]
theorem uw (b:UInt8):(d8 b=[b]/\b.toNat≠34/\b.toNat≠92/\¬ (b.toNat<32\/b.toNat=127))\/∃ c rest,d8 b=92::c::rest:=by
 grind [yc,C1,Ci,BB,B6,Bw]
theorem Dg:∀ (v y:Bk),(quo v++y).head? = some 123->v.head? = some 123\/(v=[]/\y.head? = some 123)
 | [],y,h=>.inr ⟨Z,h⟩
 | b::r,y,h=>by
  grind [rv,uw]
theorem Tx (b:UInt8)(y:Bk):hasPrefix (b::y) [36,123]=true↔b=36/\y.head? = some 123:=by
 cases y with
 | nil=>grind [hasPrefix]
 | cons c t=>
  grind [hasPrefix]
theorem pfx3 (b:UInt8)(y:Bk):hasPrefix (b::y) [36,36,123]=true↔b=36/\hasPrefix y [36,123]=true:=by
 grind [hasPrefix]
theorem Qw (v y:Bk)(hy:y.head?≠some 123)(h:hasPrefix (quo v++y) [36,123]=true):v=[]/\hasPrefix y [36,123]=true:=by
 cases v with
 | nil=>exact ⟨Z,h⟩
 | cons b r=>
  exfalso;rw [rv] at h;split at h
  ·cases h
  ·rename_i hn;rcases uw b with ⟨e,_⟩|⟨c,rest,e⟩
   ·grind [Tx,Dg]
   grind [Tx]
theorem rE:∀ (n:Nat) (v y:Bk),v.length<=n->UV v->y.head?≠some 123->(v.getLast? = some 36->hasPrefix y [36,123]=false)->Pc v (quo v++y) y
 | n,v,y,hn,hv,hy,hl=>by
  cases hv with
  | nil=>exact Pc.refl y
  | @lo b r hb hr=>
   cases n with
   | zero=>simp at hn
   | succ n=>
    have hn:r.length<=n:=by grind
    have hlr:r≠[]->(r.getLast? = some 36->hasPrefix y [36,123]=false):=λ Vs h=>hl (by
     grind)
    have ihr:Pc r (quo r++y) y:=by
     by_cases Vs:r=[]
     ·subst Vs; exact Pc.refl y
     ·exact rE n r y hn hr hy (hlr Vs)
    rw [rv];by_cases hq:b=36/\r.head? = some 123
    ·rw [if_pos hq];obtain ⟨rfl,h2⟩:=hq
     obtain ⟨t,rfl⟩:∃ t,r=123::t:=by
      cases r with
      | nil=>cases h2
      | cons c t=>grind
     have ht:UV t:=by
      generalize hw:(123::t:Bk)=w at hr
      cases hr with
      | nil=>cases hw
      | lo _ h=>grind
      | @hi u r c hu ha _ _ _ _=>
       cases u with
       | nil=>grind
       | cons z p=>simp_all
     have h3:quo (123::t)=123::quo t:=by
      grind [rv,yc]
     rw [h3]
     have iht:Pc t (quo t++y) y:=by
      by_cases Vs:t=[]
      ·subst Vs; exact Pc.refl y
      ·refine rE n t y (by grind) ht hy (λ h=>hlr G ?_)
       grind
     exact (Tc (quo t++y)).trans iht
    ·rw [if_neg hq];rcases uw b with ⟨e,h34,h92,hc⟩|⟨c,rest,e⟩
     ·rw [e];refine Pc.trans (v:=[b]) (JX hb h34 h92 hc (Bool.eq_false_iff.2 λ h=>?_) (Bool.eq_false_iff.2 λ h=>?_)) ihr
      ·obtain ⟨rfl,h2⟩:=(pfx3 b _).1 h;obtain ⟨rfl,h3⟩:=Qw r y hy h2
       grind
      ·obtain ⟨rfl,h2⟩:=(Tx b _).1 h;rcases Dg r y h2 with q|⟨_,q⟩
       ·grind
       grind
     ·rw [e];have:=Pc.trans (SD (y:=quo r++y) hb e) ihr
      grind
  | @hi u r c hu ha hd hc hnn hr=>
   rw [Om u r ha,n6]
   cases n with
   | zero=>grind
   | succ n=>
    have hul:=List.length_pos_iff.2 hu;rw [n8] at hn;refine (Pb hu ha hd hc hnn).trans ?_;by_cases Vs:r=[]
    ·subst Vs; exact Pc.refl y
    ·exact rE n r y O hr hy (λ h=>hl (by grind))
inductive F2 {α β:Type}(P:α->β->Prop):List α->List β->Prop where
 | nil:F2 P [] []
 | cons {a:α} {b:β} {l:List α} {m:List β} (h:P a b) (t:F2 P l m):F2 P (a::l) (b::m)
theorem F2.app {α β:Type}{P:α->β->Prop}{a c:List α}{b d:List β}(h:F2 P a b)(g:F2 P c d):F2 P (a++c) (b++d):=by
 induction h with
 | nil=>exact g
 | cons p _ ih=>exact .cons p ih
theorem F2.len {α β:Type}{P:α->β->Prop}{a:List α}{b:List β}(h:F2 P a b):b.length=a.length:=by
 induction h with
 | nil=>rfl
 | cons p _ ih=>rw [aq,aq,ih]
theorem F2.zip {α β:Type}{P:α->β->Prop}{a:List α}{b:List β}(h:F2 P a b):∀ p∈a.zip b,P p.1 p.2:=by
 induction h with
 | nil=>intro p hp; cases hp
 | cons p _ ih=>
  intro q hq;rw [List.zip_cons_cons] at hq;rcases qr.1 hq with rfl|hq
  ·exact p
  ·exact ih q hq
theorem F2.map {α β γ:Type}{P:β->γ->Prop}(f:α->β)(g:α->γ):∀ l:List α,(∀ a∈l,P (f a) (g a))->F2 P (l.map f) (l.map g)
 | [],_=>.nil
 | a::l,h=>.cons (h a th) (F2.map f g l λ b hb=>h b (List.mem_cons_of_mem _ hb))
theorem f21 {α β:Type}{P:α->β->Prop}{a:α}{b:β}(h:P a b):F2 P [a] [b]:=.cons h .nil
section
variable {R:Int->Int->Prop}
def TR (R:Int->Int->Prop)(t t':af):Prop:=t'.Ar=t.Ar/\t'.C'=t.C'/\R t.fAt t'.fAt
inductive RE (R:Int->Int->Prop):ab->ab->Prop where
 | mk {x y:ab} (k:y.Ar=x.Ar) (o:y.fOp=x.fOp) (n:y.AT=x.AT) (m:y.It=x.It) (v:y.BY=x.BY) (a:R x.fAt y.fAt) (c:x.A'.length<=4000000000) (l:y.A'.length=x.A'.length) (s:∀ p∈x.A'.zip y.A',RE R p.1 p.2):RE R x y
theorem RE.at {x y:ab}(h:RE R x y):R x.fAt y.fAt:=by cases h; assumption
theorem re_n {k o:Int}{n m:Bk}{v:ag}{ks ks':List ab}{a a':Int}(h:F2 (RE R) ks ks')(ha:R a a')(hc:ks.length<=4000000000):RE R (ab.mk k o n m v ks a) (ab.mk k o n m v ks' a') :=
 .mk Z Z Z Z Z ha hc h.len h.zip
def RT (R:Int->Int->Prop){α β:Type}(P:α->β->Prop):Option (PE⊕α)->Option (PE⊕β)->Prop|none,none=>True|some (.inl e),some (.inl e')=>e'.1=e.1/\R e.2 e'.2|some (.inr a),some (.inr b)=>P a b|_,_=>False
theorem nf2 (b:Bool){l m:List af}(h:F2 (TR R) l m):F2 (TR R) (nf b l) (nf b m):=by
 cases b
 ·exact h
 ·induction h with
  | nil=>exact .nil
  | @cons x y l m p t ih=>
   show F2 (TR R) ((x::l).dropWhile nlT) ((y::m).dropWhile nlT);rw [List.dropWhile_cons,List.dropWhile_cons,show nlT y=nlT x by unfold nlT; rw [p.1]];split
   ·exact ih
   ·exact .cons p t
theorem hd2 (b:Bool){l m:List af}(g:Gl l)(h:F2 (TR R) l m):TR R (hd b l) (hd b m)/\F2 (TR R) (tl b l) (tl b m):=by
 have h1:=nf2 b h;have h2:=Hj (x8 (b:=b) g.1);unfold hd tl;generalize nf b l=x at h1 h2 ⊢;generalize nf b m=y at h1 ⊢
 cases h1 with
 | nil=>exact absurd Z h2
 | cons p t=>exact ⟨p,t⟩
theorem k2' {b:Bool}{l m:List af}(h:F2 (TR R) l m)(g:Gl l):(hd b m).Ar=(hd b l).Ar:=(hd2 b g h).1.1
theorem x2 {b:Bool}{l m:List af}(h:F2 (TR R) l m)(g:Gl l):(hd b m).C'=(hd b l).C':=(hd2 b g h).1.2.1
theorem shp2 {x y:ab}(k:y.Ar=x.Ar)(o:y.fOp=x.fOp)(n:y.AT=x.AT)(m:y.It=x.It)(v:y.BY=x.BY)(l:y.A'.length=x.A'.length):ui y=ui x:=by
 unfold ui;simp only [jh,kK,k,o,n,m,v,l]
theorem T4 {x y:ab}(k:y.Ar=x.Ar)(o:y.fOp=x.fOp)(n:y.AT=x.AT)(m:y.It=x.It)(v:y.BY=x.BY)(l:y.A'.length=x.A'.length):lB y=lB x:=by
 unfold lB;simp only [shp2 k o n m v l,k,n,m,v]
theorem vis2 {x y:ab}(h:RE R x y):∀ c lv,nr c lv y=nr c lv x:=by
 induction h with
 | @mk x y k o n m v a c l s ih=>
  have hl:∀ (xs ys:List ab),ys.length=xs.length->(∀ p∈xs.zip ys,∀ c lv,nr c lv p.2=nr c lv p.1)->∀ c lv,nN c lv ys=nN c lv xs:=by
   intro xs
   induction xs with
   | nil=>
    intro ys hl _ c lv;rw [List.length_eq_zero_iff.1 hl]
   | cons p xs ihx=>
    intro ys hl hp c lv
    cases ys with
    | nil=>cases hl
    | cons q ys=>
     rw [List.zip_cons_cons] at hp;have h1:=hp _ th;rw [oB,oB,h1 c lv];split
     ·exact ihx ys (Nat.succ.inj hl) (λ p hq=>hp p (List.mem_cons_of_mem _ hq)) _ _
     ·rfl
  intro c lv;rw [pP,pP,T4 k o n m v l,hl x.A' y.A' l ih]
theorem QH {x y:ab}(h:RE R x y):chk y=chk x:=by unfold chk; rw [vis2 h]
theorem fin2 {x y:ab}(h:RE R x y):RT R (RE R) (some (uy (.inr x))) (some (uy (.inr y))):=by
 unfold uy;simp only [QH h];split
 ·exact h
 ·exact ⟨Z,h.at⟩
end
def Ans {α:Type}(p:Nat->Option α)(r:α):Prop:=∃ N,∀ f,N<=f->p f=some r
theorem j3 {α:Type}{r:α}:Ans (λ _=>some r) r:=⟨0,λ _ _=>rfl⟩
theorem eV {α:Type}{p:Nat->Option α}{r:α}(h:Ans (λ f=>p (f+1)) r):Ans p r:=by
 obtain ⟨N,h⟩:=h;refine ⟨N+1,λ f hf=>?_⟩;obtain ⟨g,rfl⟩:∃ g,f=g+1:=⟨f-1,by omega⟩
 exact h g O
theorem jd {α:Type}{p q:Nat->Option α}{r:α}(h:∀ f,p f=q f)(k:Ans q r):Ans p r:=by
 obtain ⟨N,k⟩:=k;exact ⟨N,λ f hf=>(h f).trans (k f hf)⟩
theorem fM {α β:Type}{x:Nat->PR α}{k:Nat->α->List af->PR β}{a:α}{l:List af}{r:PE⊕(β×List af)}(h:Ans x (.inr (a,l)))(g:Ans (λ f=>k f a l) r):Ans (λ f=>pb (x f) (k f)) r:=by
 obtain ⟨N,h⟩:=h; obtain ⟨M,g⟩:=g;refine ⟨N+M,λ f hf=>?_⟩;show pb (x f) (k f)=some r;rw [h f O];exact g f O
abbrev EQV (x y:ab):Prop:=RE (λ _ _=>True) x y
def iI (L:List af):List Tok:=L.map λ t=>(t.Ar,t.C')
theorem a8 {L:List af}{a:Tok}{ts:List Tok}(h:iI L=a::ts):∃ t M,L=t::M/\t.Ar=a.1/\t.C'=a.2/\iI M=ts:=by
 cases L with
 | nil=>cases h
 | cons t M=>
  simp only [iI,n7,List.cons.injEq] at h;exact ⟨t,M,rfl,congrArg Prod.fst h.1,congrArg Prod.snd h.1,h.2⟩
theorem dF {ts us:List Tok}:∀ {L:List af},iI L=ts++us->∃ M K,L=M++K/\iI M=ts/\iI K=us:=by
 induction ts with
 | nil=>intro L h; exact ⟨[],L,rfl,rfl,h⟩
 | cons a ts ih=>
  intro L h;obtain ⟨t,M,rfl,h1,h2,h3⟩:=a8 (a:=a) h;obtain ⟨A,K,rfl,h4,h5⟩:=ih h3;refine ⟨t::A,K,rfl,?_,h5⟩;simp only [iI,n7] at h4 ⊢;rw [h4,h1,h2]
theorem dB {L:List af}(h:iI L=[]):L=[]:=by
 cases L with
 | nil=>rfl
 | cons=>cases h
theorem Kz {t:af}(h:t.Ar≠5)(b:Bool)(l:List af):nf b (t::l)=t::l:=by
 cases b with
 | false=>rfl
 | true=>simp [nf,nlT,h]
theorem iN {t:af}(h:t.Ar≠5)(b:Bool)(l:List af):hd b (t::l)=t:=by simp [hd,Kz h]
theorem da {t:af}(h:t.Ar≠5)(b:Bool)(l:List af):tl b (t::l)=l:=by simp [tl,Kz h]
theorem cR {t:af}(h:t.Ar≠5)(b:Bool)(l:List af)(s:Bk):sgB b (t::l) s=(decide (t.Ar=4)&&decide (t.C'=s)):=by simp [sgB,iN h]
theorem vr {t:af}(h:t.Ar≠5)(b:Bool)(l:List af)(s:Bk):wdB b (t::l) s=(decide (t.Ar=1)&&decide (t.C'=s)):=by simp [wdB,iN h]
def opB (s:Bk)(i:Nat):Option (Bk×Int):=(sN i).find? λ p=>decide (s=p.1)
theorem tW {t:af}(h:t.Ar=4)(b:Bool)(l:List af)(i:Nat):wY b (t::l) i=opB t.C' i:=by
 unfold wY opB;congr 1
 funext p
 rw [cR O,h]; simp
theorem HV {α:Type}(l:List α):l.find? (λ _=>false)=none:=by induction l with
 | nil=>rfl
 | cons a l ih=>simp [ih]
theorem IA {t:af}(h:t.Ar≠4)(h5:t.Ar≠5)(b:Bool)(l:List af)(i:Nat):wY b (t::l) i=none:=by
 unfold wY;rw [show (λ p:Bk×Int=>sgB b (t::l) p.1)=λ _=>false from funext λ p=>by rw [cR h5]; simp [h]];exact HV _
structure Stp (j:Nat)(b:Bool)(l:List af):Prop where
 o:∀ i,j<=i->i<=5->wY b l i=none
 d:sgB b l [46]=false
 k:sgB b l [91]=false
 c:sgB b l [40]=false
theorem Stp.mono {j i:Nat}{b:Bool}{l:List af}(h:Stp j b l)(hji:j<=i):Stp i b l:=⟨λ k hk h5=>h.o k O h5,h.d,h.k,h.c⟩
structure PW (b:Bool)(l:List af):Prop where
 s:Stp 0 b l
 q:sgB b l [63]=false
def E7 (s:Bk):Bool:=decide (s∈([[41],[93],[125],[44],[58],[61],[61,62]]:List Bk))
theorem Sx {s:Bk}(h:E7 s=true)(i:Nat):opB s i=none:=by
 unfold E7 at h;rw [decide_eq_true_eq] at h;simp only [qr,List.not_mem_nil,or_false] at h;rcases i with _|_|_|_|_|i <;> rcases h with rfl|rfl|rfl|rfl|rfl|rfl|rfl <;> rfl
theorem nc {t:af}(h:t.Ar=4)(hs:E7 t.C'=true)(b:Bool)(l:List af):PW b (t::l):=by
 have h5:t.Ar≠5:=by omega
 have hd:∀ s:Bk,E7 s=false->sgB b (t::l) s=false:=λ s hn=>by
  rw [cR h5,h];simp only [decide_true,Bool.true_and,decide_eq_false_iff_not];intro e; rw [e,hn] at hs; cases hs
 exact ⟨⟨λ i _ _=>by rw [tW h]; exact Sx hs i,hd _ (by decide),hd _ (by decide),hd _ (by decide)⟩,hd _ (by decide)⟩
theorem tL {t:af}(h:t.Ar≠4)(h5:t.Ar≠5)(b:Bool)(l:List af):PW b (t::l):=by
 have hd:∀ s:Bk,sgB b (t::l) s=false:=λ s=>by rw [cR h5]; simp [h]
 exact ⟨⟨λ i _ _=>IA h h5 b l i,hd _,hd _,hd _⟩,hd _⟩
def C0 (ts:List Tok)(e:ab):Prop:=∀ L,iI L=ts->∃ e',EQV e e'/\∀ b l,PW b l->Ans (λ f=>hZ f b (L++l)) (.inr (e',l))
def CB (j:Nat)(ts:List Tok)(e:ab):Prop:=∀ L,iI L=ts->∃ e',EQV e e'/\∀ b l r,Stp (j+1) b l->Ans (λ f=>uU f j b e' l) r->Ans (λ f=>tv f j b (L++l)) r
def CF (j:Nat)(ts:List Tok)(e:ab):Prop:=∀ L,iI L=ts->∃ e',EQV e e'/\∀ b l,Stp j b l->Ans (λ f=>tv f j b (L++l)) (.inr (e',l))
def C7 (ts:List Tok)(e:ab):Prop:=∀ L,iI L=ts->∃ e',EQV e e'/\∀ b l,Stp 6 b l->Ans (λ f=>unS f b (L++l)) (.inr (e',l))
def C8 (ts:List Tok)(e:ab):Prop:=∀ L,iI L=ts->∃ e',EQV e e'/\∀ b l r,sgB b l [40]=false->Ans (λ f=>pp f b e' l) r->Ans (λ f=>unS f b (L++l)) r
theorem UJ {ts:List Tok}{e:ab}(h:C8 ts e):C7 ts e:=by
 intro L hL;obtain ⟨e',h1,h2⟩:=h L hL;refine ⟨e',h1,λ b l hs=>h2 b l _ hs.c (eV ?_)⟩;simp only [pp,hs.d,hs.k];exact j3
theorem RD {ts:List Tok}{e:ab}(h:C7 ts e):CF 6 ts e:=by
 intro L hL;obtain ⟨e',h1,h2⟩:=h L hL;refine ⟨e',h1,λ b l hs=>eV ?_⟩;simp only [tv];exact jd (λ f=>if_pos O) (h2 b l hs)
theorem zh {j:Nat}(hj:j<=5){ts:List Tok}{e:ab}(h:CF (j+1) ts e):CB j ts e:=by
 intro L hL;obtain ⟨e',h1,h2⟩:=h L hL;refine ⟨e',h1,λ b l r hs hr=>eV ?_⟩;simp only [tv];exact jd (λ f=>if_neg O) (fM (h2 b l hs) hr)
theorem qE {j:Nat}(hj:j<=5){ts:List Tok}{e:ab}(h:CB j ts e):CF j ts e:=by
 intro L hL;obtain ⟨e',h1,h2⟩:=h L hL;refine ⟨e',h1,λ b l hs=>h2 b l _ (hs.mono O) (eV ?_)⟩;simp only [uU,hs.o j (bt _) hj];exact j3
theorem T7 {ts:List Tok}{e:ab}(h:CF 0 ts e):C0 ts e:=by
 intro L hL;obtain ⟨e',h1,h2⟩:=h L hL;refine ⟨e',h1,λ b l hs=>eV ?_⟩;simp only [hZ];refine fM (h2 b l hs.s) ?_;simp only [hs.q];exact j3
def CL:Nat->List Tok->ab->Prop|0=>C0|7=>C7|8=>C8|n+1=>CB n
theorem PC {ts:List Tok}{e:ab}:∀ {n:Nat},n<=7->CL (n+1) ts e->CL n ts e
 | 0,_,h=>T7 (qE O h)
 | 1,_,h=>zh (j:=0) O (qE (j:=1) O h)
 | 2,_,h=>zh (j:=1) O (qE (j:=2) O h)
 | 3,_,h=>zh (j:=2) O (qE (j:=3) O h)
 | 4,_,h=>zh (j:=3) O (qE (j:=4) O h)
 | 5,_,h=>zh (j:=4) O (qE (j:=5) O h)
 | 6,_,h=>zh (j:=5) O (RD h)
 | 7,_,h=>UJ h
theorem F8 {ts:List Tok}{e:ab}:∀ {k n:Nat},n+k<=8->CL (n+k) ts e->CL n ts e
 | 0,_,_,h=>h
 | k+1,n,hn,h=>F8 (k:=k) O (PC O h)
theorem Uv {j:Nat}(hj:j<=6){ts:List Tok}{e:ab}(h:CL (j+1) ts e):CF j ts e :=
 match j,hj,h with
 | 0,_,h=>qE O h
 | 1,_,h=>qE O h
 | 2,_,h=>qE O h
 | 3,_,h=>qE O h
 | 4,_,h=>qE O h
 | 5,_,h=>qE O h
 | 6,_,h=>RD h
theorem UP {j:Nat}(hj:j<=5){ts:List Tok}{e:ab}(h:CL (j+1) ts e):CB j ts e :=
 match j,hj,h with
 | 0,_,h=>h
 | 1,_,h=>h
 | 2,_,h=>h
 | 3,_,h=>h
 | 4,_,h=>h
 | 5,_,h=>h
end Go.Ab.R06
end
