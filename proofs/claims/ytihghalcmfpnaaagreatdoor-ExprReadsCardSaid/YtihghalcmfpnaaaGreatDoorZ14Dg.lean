/- Texts of the proof, one behind the other. No statement is proved here. -/
import Derived.Test.YtihghalcmfpnaaaGreatDoorCards
import Derived.Test.YtihghalcmfpnaaaGreatDoorTie
import Derived.WalkKit
import Derived.SizedLaws
import Derived.ProofKit
import Derived.OpenShut
import Derived.ShutString
import Derived.LaidMore
import Derived.Stop.Joined
import Derived.Deep.DeepHandedRow
import Derived.Deep.DeepWitnessRowRef
import Derived.Test.YtihghalcmfpnaaaGreatDoorZ14Da
import Derived.Test.YtihghalcmfpnaaaGreatDoorZ14Db
import Derived.Test.YtihghalcmfpnaaaGreatDoorZ14Dc
import Derived.Test.YtihghalcmfpnaaaGreatDoorZ14Dd
import Derived.Test.YtihghalcmfpnaaaGreatDoorZ14De
import Derived.Test.YtihghalcmfpnaaaGreatDoorZ14Df
set_option maxHeartbeats 4000000
section
namespace Go.Ab.R06
open Go.Ab Go.Ab.RB Go.Lib
variable {p:Prop}
theorem Jx (h:p:=by
 rw [show (i:Int)+2=((i+2:Nat):Int) by omega,uh,List.drop_take,e2]
 congr 1; omega):p:=h
theorem Kz (h:p:=by
 exact ai true (ax (ol _ _) hp3) (ae Z (ag (by simp only [aq,mv]; omega) (ag (bv O O) (ai _ (ax hlong Z) (aa Z)))))):p:=h
theorem BA (h:p:=by
 exact ai _ (JS hz) (aa Z)):p:=h
theorem IP (h:p:=by
 rintro _ ⟨j,rfl⟩
 exact aa ⟨(by decide:(2:Int)≠0),Z⟩):p:=h
theorem G4 (h:p:=by
 by_cases h:chk e=0
 ·exact ae h (aa (by unfold pA; simp only [h,if_true]; rfl))
 ·exact af h (aa (by unfold pA; simp only [h,if_false]; rfl))):p:=h
theorem Kt (h:p:=by exact bv (by show _<=a+(i:Int); omega) (by show a+(i:Int)<=_; omega)):p:=h
theorem sj (h:p:=by exact ax (ol _ _) (by simpa using hp3)):p:=h
theorem CY (h:p:=by exact ax (ol _ _) (by simpa using hp2)):p:=h
theorem Dk (h:p:=by exact bv (by show _<=(i:Int)+2; omega) (by show (i:Int)+2<=_; omega)):p:=h
theorem H4 (h:p:=by exact aN (f:=λ n m=>b9 n (aP n) m s a 0 0 [] [] false) hread):p:=h
theorem EL {src:Bk->SE⊕Bk}{l:Bk}(hs:∀ r e n,r.length<=l.length->src r=.inl e->e.2=some n->n<=l.length){e:SE}{n:Nat}(h:ix src l=.inl e)(hn:e.2=some n):n<=l.length:=by
 cases l with
 | nil=>cases h; cases hn; exact rg _
 | cons b r=>
  rw [ed] at h;split at h
  ·split at h
   ·cases h; cases hn; exact bx _
   ·cases h
  split at h
  ·cases h
  split at h
  ·cases h
  split at h
  ·split at h
   ·rename_i e' he
    cases h
    exact hs r e n (Nat.le_succ _) he hn
   ·cases h
  split at h
  ·cases h; cases hn; exact bx _
  ·cases h
theorem G5:∀ (f k:Nat),(∀ l e n,dz f k l=.inl e->e.2=some n->n<=l.length)/\(∀ d l e n,iP f k d l=.inl e->e.2=some n->n<=l.length)
 | 0,k=>⟨λ l e n h hn=>(by rw [dz] at h; cases h; cases hn),λ d l e n h hn=>(by rw [iP] at h; cases h; cases hn)⟩
 | f+1,k=>by
  have ih:=G5 f;constructor
  ·intro l e n h hn
   cases l with
   | nil=>rw [dz] at h; cases h; cases hn
   | cons b r=>
    rw [iS] at h;split at h
    ·cases h
    split at h
    ·have:=(ih k).1 _ e n h hn;rw [n6] at this; omega
    split at h
    ·split at h
     ·cases h; cases hn; exact bx _
     ·split at h
      ·rename_i e' he
       cases h
       have:=(ih (k+1)).2 _ _ e n he hn;rw [n6] at this; omega
      ·rename_i l' he;have h1:=((hZ f (k+1)).2 _ _ _ he).2;have:=(ih k).1 _ e n h hn;rw [n6] at h1; omega
    ·have hX:(if b.toNat=92 then r else b::r).length<=(b::r).length:=by split <;> simp
     generalize (if b.toNat=92 then r else b::r)=X at h hX
     cases X with
     | nil=>cases h; cases hn
     | cons c t=>
      simp only at h;split at h
      ·cases h; cases hn; exact hX
      ·have:=(ih k).1 _ e n h hn;rw [n6] at this; omega
  ·intro d l e n h hn;rw [j8] at h;have hk:=rz false l
   cases hsk:fb false l with
   | nil=>rw [hsk,Az] at h; cases h; cases hn
   | cons b r=>
    rw [hsk] at hk;rw [hsk,kb] at h
    cases ht:ix (dz f k) (b::r) with
    | inl e'=>
     rw [ht,rm] at h; cases h;exact Nat.le_trans (EL (λ x y m hx hxy hm=>Nat.le_trans ((ih k).1 x y m hxy hm) hx) ht hn) hk
    | inr z=>
     obtain ⟨c,t,l'⟩:=z;have h1:=(lX (λ x y _ hxy=>(hZ f k).1 x y hxy) ht).2;rw [ht,jM] at h;split at h
     ·split at h
      ·cases h
      ·have:=(ih k).2 _ _ e n h hn; omega
     split at h
     ·have:=(ih k).2 _ _ e n h hn; omega
     ·have:=(ih k).2 _ _ e n h hn; omega
theorem AU:∀ (f c:Nat) (l:Bk) (e:SE) (n:Nat),i7 f c l=.inl e->e.2=some n->n<=l.length
 | 0,c,l,e,n,h,hn=>by rw [i7] at h; cases h; cases hn
 | f+1,c,l,e,n,h,hn=>by
  rw [lx] at h;have hk:=rz true l
  cases hsk:fb true l with
  | nil=>
   rw [hsk,mJ] at h;split at h
   ·cases h; cases hn; exact rg _
   ·cases h
  | cons b r=>
   rw [hsk] at hk;rw [hsk,ll] at h;split at h
   ·cases h; cases hn; exact hk
   split at h
   ·cases h; cases hn; exact hk
   cases ht:ix (dz f 0) (b::r) with
   | inl e'=>
    rw [ht] at h; cases h
    cases he:e'.2 with
    | none=>unfold Ng at hn; rw [he] at hn; cases hn; exact hk
    | some m=>
     unfold Ng at hn; rw [he] at hn; cases hn;exact Nat.le_trans (EL (λ x y m hx hxy hm=>Nat.le_trans ((G5 f 0).1 x y m hxy hm) hx) ht he) hk
   | inr z=>
    obtain ⟨k,t,l'⟩:=z;have h1:=(lX (λ x y _ hxy=>(hZ f 0).1 x y hxy) ht).2;rw [ht,mK] at h
    cases hs:i7 f (c+1) l' with
    | inl e'=>
     rw [hs] at h; cases h;have:=AU f (c+1) l' e n hs hn;omega
    | inr ts'=>rw [hs] at h; cases h
theorem DO (s:Bk):0<=(dv s).2.fAt/\(dv s).2.fAt<=(s.length:Int):=by
 unfold dv;split
 ·exact ⟨Int.le_refl _,by show (0:Int)<=_; omega⟩
 ·cases hs:i7 (s.length+1) 0 s with
  | inr ts=>exact ⟨Int.le_refl _,by show (0:Int)<=_; omega⟩
  | inl e=>
   show 0<=(rX s 0 e).fAt/\(rX s 0 e).fAt<=_;unfold rX
   cases he:e.2 with
   | none=>exact ⟨Int.le_refl _,by show (0:Int)<=_; omega⟩
   | some n=>
    have:=AU _ _ _ e n hs he;exact ⟨by show 0<=(s.length:Int)-(n:Int); omega,by show (s.length:Int)-(n:Int)<=_; omega⟩
theorem TO {f:Nat}(ih:Fol f):∀ (s:Bk) (a:Int) q,0<=a->a+(s.length:Int)<=1000000000->gI (f+1) s a=some q->Ev2 (λ n _=>iK n s a) (QS q):=by
 intro s a q h0 h1 hq;rw [gI] at hq;refine aS ?_;simp only [iK];refine ai _ (Nv s) ?_;by_cases hk:(dv s).2.Ar=0
 ·rw [if_neg (by simpa using hk)] at hq;refine ae hk ?_;have hg:=rV h0 h1 hk;have M':(dv s).1.length<=65537:=(rA h0 h1 hk).2.2;have hL:=hg.1;have hL1:(dv s).1.length<=1000000000:=by omega
  generalize hLL:(dv s).1=L at hq hL M' hL1
  have UK:0<L.length:=by
   have:=uA hL;rcases Nat.eq_zero_or_pos L.length with q|q
   ·rw [List.length_eq_zero_iff.1 q] at this; exact absurd rfl this
   ·exact q
  have hpos:Pos L a 0 1 true (L.map (mvT a)):=⟨UK,by decide,by omega,Z,Z⟩
  cases hx:gj f true (L.map (mvT a)) with
  | none=>rw [hx] at hq; cases hq
  | some y=>
   rw [hx] at hq;have hr:=ih.e true _ L a hL hL1 0 1 y hpos hx;rcases y with e|⟨x,l⟩
   ·cases hq
    refine ah _ hr ?_;rintro ⟨z1,z2⟩ ⟨he,j,l',h2,h3⟩
    cases h2
    refine ah (λ t=>∃ j:Nat,t=(L,(j:Int),1,a,e.1,e.2,[])) (ah _ (gT hL hL1 h3) ?_) ?_
    ·rintro ⟨z1,z2⟩ ⟨h1,j,h2,h3,h4,h5⟩;replace h1:z1=_:=h1; subst h1; cases h2;exact av (λ _=>aa ⟨j,rfl⟩) (λ _=>ai _ (ax (yp he _ _ _ _) rfl) (aa ⟨j,rfl⟩))
    ·rintro _ ⟨j,rfl⟩;exact aa ⟨he,rfl⟩
   ·refine ah _ hr ?_;rintro ⟨z1,z2⟩ ⟨hz,j,h2,h3⟩;replace hz:z1=_:=hz; subst hz; cases h2;have hq:(if (hd true l).Ar=6 then some (.inr z1) else some (.inl (2,(hd true l).fAt)))=some q:=hq;by_cases k6:(hd true l).Ar=6
    ·rw [if_pos k6] at hq; cases hq;refine ah (λ t=>∃ j:Nat,t=(L,(j:Int),1,a,0,0,[])) (ah _ (gT hL hL1 h3) ?_) ?_
     ·rintro ⟨y1,y2⟩ ⟨h1,j,h2,h3,h4,h5⟩;replace h1:y1=_:=h1; subst h1; cases h2;exact ae k6 (aa ⟨j,rfl⟩)
     ·rintro _ ⟨j,rfl⟩;exact aa rfl
    ·rw [if_neg k6] at hq; cases hq;refine ah (λ t=>∃ j:Nat,t=(L,(j:Int),1,a,2,(hd true l).fAt,[])) (ah _ (gT hL hL1 h3) ?_) ?_
     ·rintro ⟨y1,y2⟩ ⟨h1,j,h2,h3,h4,h5⟩;replace h1:y1=_:=h1; subst h1; cases h2;exact af k6 (ai _ xE (aa ⟨j,rfl⟩))
     ·exact IP
 ·rw [if_pos hk] at hq; cases hq;have:=DO s;refine af hk (ag aC (aa ⟨hk,rfl⟩))
theorem Ej {s:Bk}{a:Int}{i fr:Nat}(text:Bk)(parts:List ac)(UC:Bool)(ha:0<=a)(h1:a+(s.length:Int)<=1000000000)(hi:i<=s.length)(hf:fr<=i)(hp:parts.length<=2*i) :
  eP (.mk s a (i:Int) (fr:Int) text parts UC)=some (.mk s a (i:Int) (fr:Int) [] (flS (a+(fr:Int)) (a+(i:Int)) text parts) UC):=by
 unfold eP flS;by_cases h:fr<i
 ·rw [if_pos (by show (fr:Int)<(i:Int); omega),if_pos O];show ((ck (inR (a+(fr:Int)))<|ck ((parts.length+1)*160<=140737488355328)<|some (parts++[xq text (a+(fr:Int))]):Option (List ac)).bind λ f6=>some (ar.mk s a (i:Int) (fr:Int) ([]:Bk) f6 UC))=_;rw [cn aC,cn O]; rfl
 ·rw [if_neg (by show ¬ (fr:Int)<(i:Int); omega),if_neg O]; rfl
theorem JS {e:ac}(hb:Sz e):Ev2 (λ n _=>fA n e dOk) (·=tU (pA (.inr e))):=by
 simp only [fA];refine ae rfl (ai _ (xl hb) ?_);exact G4
theorem Qy {f:Nat}(ih:Fol f):∀ (s:Bk) (a:Int) q,0<=a->a+(s.length:Int)<=1000000000->kj (f+1) s a=some q->Ev2 (λ n _=>iT n s a) (·=tU q):=by
 intro s a q h0 h1 hq;rw [kj] at hq;refine aS ?_;simp only [iT]
 cases hr:eW f a a [] [] false s with
 | none=>rw [hr] at hq; cases hq
 | some y=>
  rw [hr] at hq;have Ul:=(fct f).r a a [] [] false s (2*s.length) h0 h1 (by decide) (λ y hy=>by cases hy) G y hr;have hread:=ih.r s a 0 0 [] [] false y h0 h1 (rg _) (bx _) (by decide) (by decide) (by simpa using hr);rcases y with e|⟨frm,pos,text,parts,UC⟩
  ·cases hq
   refine ah (λ r=>e.1≠0/\r.1=eD e) (aS ?_) ?_
   ·simp only [gG];refine cj (aO H4 ?_);rintro r ⟨he,t,rfl⟩;exact ⟨he,rfl⟩
   ·rintro ⟨r1,r2⟩ ⟨he,hz⟩
    cases hz
    exact rW
  ·have hq:some (pA (.inr (rQ a (frm,pos,text,parts,UC))))=some q:=hq
   cases hq
   refine ah (λ r=>∃ (i fr:Nat),frm=a+(fr:Int)/\pos=a+(i:Int)/\fr<=i/\i<=s.length/\parts.length<=2*i/\r=(dOk,.mk s a (i:Int) (fr:Int) text parts UC)) (aS ?_) ?_
   ·simp only [gG];refine cj (aO H4 ?_);rintro r ⟨i,fr,g1,g2,g3,g4,g5,rfl⟩;exact aa ⟨i,fr,g1,g2,g3,g4,g5,rfl⟩
   ·rintro _ ⟨i,fr,rfl,rfl,g3,g4,g5,rfl⟩;have hz:Sz (rQ a (a+(fr:Int),a+(i:Int),text,parts,UC)):=vr O Ul;refine ae rfl (ai _ pt ?_)
    cases UC with
    | true=>
     refine ai (2,0,[],[],0,0,[],[],[],flS (a+(fr:Int)) (a+(i:Int)) text parts,a) (ae Z (ai _ (ax (Ej text parts true h0 h1 g4 g3 g5) Z) (aa Z))) ?_;exact BA
    | false=>
     refine ai (1,0,[],[],3,0,text,[],[],[],a) sF ?_;exact BA
theorem TM {f:Nat}(ih:Fol f):∀ (s:Bk) (a:Int) (i fr:Nat) (text:Bk) (parts:List ac) (UC:Bool) q,0<=a->a+(s.length:Int)<=1000000000->i<=s.length->fr<=i->text.length<=4096->parts.length<=2*i->eW (f+1) (a+(fr:Int)) (a+(i:Int)) text parts UC (s.drop i)=some q ->
  Ev2 (λ n m=>b9 n (aP n) m s a (i:Int) (fr:Int) text parts UC) (RdO s a q):=by
 intro s a i fr text parts UC q h0 h1 hi hf ht hp hq;refine aw ?_;simp only [b9]
 cases hl:s.drop i with
 | nil=>
  rw [hl,eW] at hq; cases hq;have:=Fz hl;exact af O (aa ⟨i,fr,rfl,rfl,hf,hi,hp,rfl⟩)
 | cons b r=>
  obtain ⟨g1,g2,g3⟩:=rL hl;have hsub:sub s (i:Int) (s.length:Int)=b::r:=by rw [km,Int.toNat_natCast,hl]
  have M':(b::r).length=s.length-i:=by rw [<- hl,n6]
  rw [hl,eW] at hq;refine ae O (ag O ?_);rw [hsub];by_cases hp3:hasPrefix (b::r) [36,36,123]=true
  ·rw [if_pos hp3] at hq;have hpl:=my hp3;simp only [aq,mv] at hpl M';have hlong:=KY s a ((i:Int)+3) (fr:Int) (text++[36,123]) parts UC aC;have htl:(text++[36,123]).length=text.length+2:=by simp
   rw [htl] at hlong;by_cases hlg:4096<text.length+2
   ·rw [if_pos hlg] at hq hlong; cases hq;refine ai (3,a+(fr:Int),[],s,a,(i:Int)+3,(fr:Int),text++[36,123],parts,UC) ?_ (af (show ¬ (3:Int)=0 by decide) (aa ⟨(by decide:(3:Int)≠0),_,rfl⟩));exact Kz
   ·rw [if_neg hlg] at hq hlong;refine ai (0,0,[],s,a,(i:Int)+3,(fr:Int),text++[36,123],parts,UC) ?_ (ae rfl ?_)
    ·exact Kz
    ·have e3:s.drop (i+3)=(b::r).drop 3:=by rw [px s i 3,hl]
     have:=ih.r s a (i+3) fr (text++[36,123]) parts UC q h0 h1 O O O O  (by
      rw [e3,show a+((i+3:Nat):Int)=a+(i:Int)+3 by omega]; exact hq)
     rw [show ((i+3:Nat):Int)=(i:Int)+3 by omega] at this;exact this
  rw [if_neg hp3] at hq;by_cases hp2:hasPrefix (b::r) [36,123]=true
  ·rw [if_pos hp2] at hq;have hpl:=my hp2;simp only [aq,mv] at hpl M';have e2:s.drop (i+2)=(b::r).drop 2:=by rw [px s i 2,hl]
   have hfl:=Ej text parts UC h0 h1 hi hf hp;have hflen:(flS (a+(fr:Int)) (a+(i:Int)) text parts).length<=parts.length+1:=by unfold flS; split <;> simp
   cases hc:gu f 1 ((b::r).drop 2) with
   | none=>rw [hc] at hq; cases hq
   | some y=>
    rw [hc] at hq;have hcl:=DG ((IX (s:=s) O f).1 1 (i+2) ((i:Int)+2) 1 y O rfl (by decide) ja O (by rw [e2]; exact hc));have pre:∀ {P:ao×ar->Prop},Ev2 (λ n _=>(aP (n+1) (ar.mk s a (i:Int) (fr:Int) text parts UC))) P->Ev2 (λ n _=>(aP n (ar.mk s a (i:Int) (fr:Int) text parts UC))) P:=λ h=>aS h
    cases y with
    | none=>
     cases hq
     refine ai (40,a+(i:Int),[],s,a,(i:Int),(fr:Int),[],flS (a+(fr:Int)) (a+(i:Int)) text parts,true) ?_ (af (show ¬ (40:Int)=0 by decide) (aa ⟨(by decide:(40:Int)≠0),_,Z⟩));refine ai false sj (af ld (ai true (ax (ol _ _) hp2) (ae Z ?_)));refine ai (ao.mk 40 (a+(i:Int)) [],ar.mk s a (i:Int) (fr:Int) [] (flS (a+(fr:Int)) (a+(i:Int)) text parts) true) (pre ?_) (aa Z);simp only [aP];exact ai _ (ax hfl Z) (ag Dk (ai _ hcl (ae (by show (-1:Int)<0; decide) (ag Kt (aa Z)))))
    | some r'=>
     simp only at hq;have hsf:=(jf f).1 _ _ _ hc;have Sk:=hsf.2;have hd2:((b::r).drop 2).length=s.length-(i+2):=by rw [<- e2,n6]
     have hrs:r' <:+ s:=by rw [<- e2] at hsf; exact hsf.1.trans (List.drop_suffix _ _)
     have hsd:=FH hrs;have hcp:LG s (some r')=((s.length-r'.length-1:Nat):Int):=by show (s.length:Int)-(r'.length:Int)-1=_; omega
     rw [hcp] at hcl
     have hsub2:sub s ((i:Int)+2) ((s.length-r'.length-1:Nat):Int)=((b::r).drop 2).take (((b::r).drop 2).length-r'.length-1):=by
      exact Jx
     generalize hX:((b::r).drop 2).take (((b::r).drop 2).length-r'.length-1)=X at hq hsub2;have hXl:X.length<=((b::r).drop 2).length:=by rw [<- hX,List.length_take]; omega
     cases hw:gI f X (a+(i:Int)+2) with
     | none=>rw [hw] at hq; cases hq
     | some z=>
      rw [hw] at hq;have hwh:=ih.w X (a+(i:Int)+2) z O O  hw
      have lead:∀ {P:ao×ar->Prop},Ev2 (λ n _=>(iK n X (a+(i:Int)+2)).bind λ US=>if US.2.Ar=0 then ck (((flS (a+(fr:Int)) (a+(i:Int)) text parts).length+1)*160<=140737488355328)<|ck (inR (((s.length-r'.length-1:Nat):Int)+1))<|some (ao.mk 0 0 ([]:Bk),ar.mk s a (((s.length-r'.length-1:Nat):Int)+1) (((s.length-r'.length-1:Nat):Int)+1) [] (flS (a+(fr:Int)) (a+(i:Int)) text parts++[US.1]) true) else some (US.2,ar.mk s a (i:Int) (fr:Int) [] (flS (a+(fr:Int)) (a+(i:Int)) text parts) true)) P ->
        Ev2 (λ n _=>(aP n (ar.mk s a (i:Int) (fr:Int) text parts UC))) P:=by
       intro P hP;refine pre ?_;simp only [aP];refine ai _ (ax hfl rfl) (ag Dk (ai _ hcl (af O (ag Dk (ag ⟨by show (0:Int)<=(i:Int)+2; omega,by show (i:Int)+2<=_; omega,by show _<=(s.length:Int); omega⟩ (ag Kt (ag (bv (by show _<=a+(i:Int)+2; omega) (by show a+(i:Int)+2<=_; omega)) ?_)))))));simp only [hsub2];exact hP
      rcases z with e|e
      ·cases hq
       have he:=(fct f).w X (a+(i:Int)+2) O O  _ hw;refine ai (e.1,e.2,[],s,a,(i:Int),(fr:Int),[],flS (a+(fr:Int)) (a+(i:Int)) text parts,true) ?_ (af he (aa ⟨he,_,rfl⟩));refine ai false sj (af ld (ai true (ax (ol _ _) hp2) (ae rfl ?_)));refine ai (eD e,ar.mk s a (i:Int) (fr:Int) [] (flS (a+(fr:Int)) (a+(i:Int)) text parts) true) (lead (ah _ hwh ?_)) (aa rfl);rintro ⟨w1,w2⟩ ⟨_,hz⟩
       cases hz
       exact rW
      ·have hq:eW f (a+(i:Int)+(((b::r).length-r'.length:Nat):Int)) (a+(i:Int)+(((b::r).length-r'.length:Nat):Int)) [] (flS (a+(fr:Int)) (a+(i:Int)) text parts++[e]) true r'=some q:=hq
       have hpos:a+(i:Int)+(((b::r).length-r'.length:Nat):Int)=a+((s.length-r'.length:Nat):Int):=by
        have:=hsf.1.length_le;simp only [aq] at hd2 ⊢; omega
       rw [hpos] at hq;have hi2:((s.length-r'.length-1:Nat):Int)+1=((s.length-r'.length:Nat):Int):=by omega
       refine ai (0,0,[],s,a,((s.length-r'.length:Nat):Int),((s.length-r'.length:Nat):Int),[],flS (a+(fr:Int)) (a+(i:Int)) text parts++[e],true) ?_ (ae Z ?_)
       ·refine ai false sj (af ld (ai true (ax (ol _ _) hp2) (ae rfl ?_)));refine ai (dOk,ar.mk s a ((s.length-r'.length:Nat):Int) ((s.length-r'.length:Nat):Int) [] (flS (a+(fr:Int)) (a+(i:Int)) text parts++[e]) true) (lead (ah _ hwh ?_)) (aa rfl);rintro _ rfl;refine ae rfl (ag O (ag aC (aa ?_)));rw [hi2]; rfl
       ·exact ih.r s a (s.length-r'.length) (s.length-r'.length) [] _ true q h0 h1 O (bx _) (by decide) yW (by rw [hsd]; exact hq)
  rw [if_neg hp2] at hq;have hit:=Qa (s:=s) O (a:=a) (fr:=(fr:Int)) (i:=i) h0 O O O text ht parts UC hl
  cases hi':iY (b::r) with
  | inl k=>
   rw [hi'] at hq hit; cases hq;have hk:=Dv hi';refine ah (λ t=>t.1=k/\t.2.1=a+(i:Int)/\t.2.2.1=[]) ?_ ?_
   ·refine ai false sj (af ld (ai false CY (af ld ?_)));refine ah _ hit ?_;rintro ⟨z1,z2⟩ hz;have hz:z1=ao.mk k (a+(i:Int)) []:=hz;subst hz;exact aa ⟨rfl,rfl,rfl⟩
   ·rintro ⟨t1,t2,t3,t4⟩ ⟨k1,k2,k3⟩;simp only at k1 k2 k3;subst k1 k2 k3;exact af hk (aa ⟨hk,_,rfl⟩)
  | inr tn=>
   obtain ⟨t,n⟩:=tn;rw [hi'] at hq hit;have hq:(if 4096<text.length+t.length then some (.inl (3,a+(fr:Int))) else eW f (a+(fr:Int)) (a+(i:Int)+(n:Int)) (text++t) parts UC ((b::r).drop n))=some q:=hq;have hn:=rp hi';by_cases hlg:4096<text.length+t.length
   ·rw [if_pos hlg] at hq; cases hq;refine ah (λ t=>t.1=3/\t.2.1=a+(fr:Int)/\t.2.2.1=[]) ?_ ?_
    ·refine ai false sj (af ld (ai false CY (af ld ?_)));refine ah _ hit ?_;rintro ⟨z1,z2⟩ hz;unfold ItO at hz;simp only [if_pos hlg] at hz;subst hz;exact aa ⟨rfl,rfl,rfl⟩
    ·rintro ⟨t1,t2,t3,t4⟩ ⟨k1,k2,k3⟩;simp only at k1 k2 k3;subst k1 k2 k3;exact af (show ¬ (3:Int)=0 by decide) (aa ⟨(by decide:(3:Int)≠0),_,rfl⟩)
   ·rw [if_neg hlg] at hq;refine ai (0,0,[],s,a,(i:Int)+(n:Int),(fr:Int),text++t,parts,UC) ?_ (ae rfl ?_)
    ·refine ai false sj (af ld (ai false CY (af ld ?_)));refine ah _ hit ?_;rintro ⟨z1,z2⟩ hz;unfold ItO at hz;simp only [if_neg hlg] at hz
     cases hz
     exact aa Z
    ·have e3:s.drop (i+n)=(b::r).drop n:=by rw [px s i n,hl]
     have:=ih.r s a (i+n) fr (text++t) parts UC q h0 h1 O O  u5 O (by
      rw [e3,show a+((i+n:Nat):Int)=a+(i:Int)+(n:Int) by omega]; exact hq)
     rw [show ((i+n:Nat):Int)=(i:Int)+(n:Int) by omega] at this;exact this
theorem fol:∀ f,Fol f:=by
 intro f
 induction f with
 | zero=>
  constructor
  ·intro b l L base hL M' i Mp q h hq; rw [gj] at hq; cases hq
  ·intro Uk li b l _ _ L base hL M' i Mp q h hq; rw [oO] at hq; cases hq
  ·intro Uk li b l x r5 _ _ _ L base hL M' i Mp q h hq; rw [pB] at hq; cases hq
  ·intro b l L base hL M' i Mp q h hq; rw [unS] at hq; cases hq
  ·intro b l x r1 _ L base hL M' i Mp q h hq; rw [kF] at hq; cases hq
  ·intro b l L base hL M' i Mp q h hq; rw [mr] at hq; cases hq
  ·intro b l _ L base hL M' i Mp q h hq; rw [qO] at hq; cases hq
  ·intro b l _ L base hL M' i Mp q h hq; rw [nY] at hq; cases hq
  ·intro en l out _ _ L base hL M' i Mp q h hq; rw [iF] at hq; cases hq
  ·intro l out _ _ L base hL M' i Mp q h hq; rw [pX] at hq; cases hq
  ·intro l L base hL M' i Mp q h hq; rw [nV] at hq; cases hq
  ·intro a k l _ _ L base hL M' i Mp b q _ _ h hq; rw [mq] at hq; cases hq
  ·intro s a q _ _ hq; rw [kj] at hq; cases hq
  ·intro s a i fr text parts UC q _ _ _ _ _ _ hq; rw [eW] at hq; cases hq
  ·intro s a q _ _ hq; rw [gI] at hq; cases hq
 | succ f ih=>exact ⟨T9 ih,TF ih,Qt ih,TQ ih,P3 ih,T8 ih,Tb ih,Ti ih,TL ih,Tp ih,Ub ih,P0 ih,Qy ih,TM ih,TO ih⟩
inductive F2 {α β:Type}(P:α->β->Prop):List α->List β->Prop where
 | nil:F2 P [] []
 | cons {a:α} {b:β} {l:List α} {m:List β} (h:P a b) (t:F2 P l m):F2 P (a::l) (b::m)
theorem F2.len {α β:Type}{P:α->β->Prop}{a:List α}{b:List β}(h:F2 P a b):b.length=a.length:=by
 induction h with
 | nil=>rfl
 | cons p _ ih=>rw [aq,aq,ih]
theorem F2.zip {α β:Type}{P:α->β->Prop}{a:List α}{b:List β}(h:F2 P a b):∀ p∈a.zip b,P p.1 p.2:=by
 induction h with
 | nil=>intro p hp; cases hp
 | cons p _ ih=>
  intro q hq;rw [List.zip_cons_cons] at hq;rcases ro.1 hq with rfl|hq
  ·exact p
  ·exact ih q hq
theorem F2.map {α β γ:Type}{P:β->γ->Prop}(f:α->β)(g:α->γ):∀ l:List α,(∀ a∈l,P (f a) (g a))->F2 P (l.map f) (l.map g)
 | [],_=>.nil
 | a::l,h=>.cons (h a List.mem_cons_self) (F2.map f g l λ b hb=>h b (List.mem_cons_of_mem _ hb))
theorem f21 {α β:Type}{P:α->β->Prop}{a:α}{b:β}(h:P a b):F2 P [a] [b]:=.cons h .nil
section
variable {R:Int->Int->Prop}
def TR (R:Int->Int->Prop)(t t':ab):Prop:=t'.Ar=t.Ar/\t'.By=t.By/\R t.fAt t'.fAt
inductive RE (R:Int->Int->Prop):ac->ac->Prop where
 | mk {x y:ac} (k:y.Ar=x.Ar) (o:y.fOp=x.fOp) (n:y.AI=x.AI) (m:y.D'=x.D') (v:y.A'=x.A') (a:R x.fAt y.fAt) (c:x.BY.length<=4000000000) (l:y.BY.length=x.BY.length) (s:∀ p∈x.BY.zip y.BY,RE R p.1 p.2):RE R x y
theorem RE.at {x y:ac}(h:RE R x y):R x.fAt y.fAt:=by cases h; assumption
def RT (R:Int->Int->Prop){α β:Type}(P:α->β->Prop):Option (PE⊕α)->Option (PE⊕β)->Prop|none,none=>True|some (.inl e),some (.inl e')=>e'.1=e.1/\R e.2 e'.2|some (.inr a),some (.inr b)=>P a b|_,_=>False
theorem nf2 (b:Bool){l m:List ab}(h:F2 (TR R) l m):F2 (TR R) (nf b l) (nf b m):=by
 cases b
 ·exact h
 ·induction h with
  | nil=>exact .nil
  | @cons x y l m p t ih=>
   show F2 (TR R) ((x::l).dropWhile nlT) ((y::m).dropWhile nlT);rw [List.dropWhile_cons,List.dropWhile_cons,show nlT y=nlT x by unfold nlT; rw [p.1]];split
   ·exact ih
   ·exact .cons p t
theorem hd2 (b:Bool){l m:List ab}(g:Gl l)(h:F2 (TR R) l m):TR R (hd b l) (hd b m)/\F2 (TR R) (tl b l) (tl b m):=by
 have h1:=nf2 b h;have h2:=uA vZ;unfold hd tl;generalize nf b l=x at h1 h2 ⊢;generalize nf b m=y at h1 ⊢
 cases h1 with
 | nil=>exact absurd Z h2
 | cons p t=>exact ⟨p,t⟩
theorem k2' {b:Bool}{l m:List ab}(h:F2 (TR R) l m)(g:Gl l):(hd b m).Ar=(hd b l).Ar:=(hd2 b g h).1.1
theorem x2 {b:Bool}{l m:List ab}(h:F2 (TR R) l m)(g:Gl l):(hd b m).By=(hd b l).By:=(hd2 b g h).1.2.1
theorem shp2 {x y:ac}(k:y.Ar=x.Ar)(o:y.fOp=x.fOp)(n:y.AI=x.AI)(m:y.D'=x.D')(v:y.A'=x.A')(l:y.BY.length=x.BY.length):tV y=tV x:=by
 unfold tV;simp only [iz,jK,k,o,n,m,v,l]
theorem TS {x y:ac}(k:y.Ar=x.Ar)(o:y.fOp=x.fOp)(n:y.AI=x.AI)(m:y.D'=x.D')(v:y.A'=x.A')(l:y.BY.length=x.BY.length):oM y=oM x:=by
 unfold oM;simp only [shp2 k o n m v l,k,n,m,v]
theorem vis2 {x y:ac}(h:RE R x y):∀ c lv,oL c lv y=oL c lv x:=by
 induction h with
 | @mk x y k o n m v a c l s ih=>
  have hl:∀ (xs ys:List ac),ys.length=xs.length->(∀ p∈xs.zip ys,∀ c lv,oL c lv p.2=oL c lv p.1)->∀ c lv,nM c lv ys=nM c lv xs:=by
   intro xs
   induction xs with
   | nil=>
    intro ys hl _ c lv;rw [List.length_eq_zero_iff.1 hl]
   | cons p xs ihx=>
    intro ys hl hp c lv
    cases ys with
    | nil=>cases hl
    | cons q ys=>
     rw [List.zip_cons_cons] at hp;have h1:=hp _ List.mem_cons_self;rw [qp,qp,h1 c lv];split
     ·exact ihx ys (Nat.succ.inj hl) (λ p hq=>hp p (List.mem_cons_of_mem _ hq)) _ _
     ·rfl
  intro c lv;rw [uj,uj,TS k o n m v l,hl x.BY y.BY l ih]
theorem chk2 {x y:ac}(h:RE R x y):chk y=chk x:=by unfold chk; rw [vis2 h]
theorem fin2 {x y:ac}(h:RE R x y):RT R (RE R) (some (pA (.inr x))) (some (pA (.inr y))):=by
 unfold pA;simp only [chk2 h];split
 ·exact h
 ·exact ⟨Z,h.at⟩
end
theorem JX (h:p:=by
 exact ag (bv (by (try simp only []); omega) (by (try simp only []); omega)) (aa ⟨(by decide:(2:Int)≠0),(j:Int)+1,Z,by omega,by omega⟩)):p:=h
theorem CP (h:p:=by exact ax (Ki _ _ _ _) Z):p:=h
theorem ou (h:p:=by exact tZ hL M' h):p:=h
section
variable {L:List ab}
def eA (L:List ab)(i:Nat)(Mp:Int)(b:Bool)(l:List ab):Prop :=i<L.length/\0<=Mp/\Mp+((L.length-i:Nat):Int)<=1000000000/\b=decide (0<Mp)/\nf b (L.drop i)=nf b l
def RAt (L:List ab)(i:Nat)(Mp:Int)(b:Bool)(l:List ab):Prop:=eA L i Mp b l/\L.drop i=nf b l
theorem rx:∀ {L:List ab} {i:Nat},Gd L->i<L.length->Gd (L.drop i)
 | [],_,h,_=>h.elim
 | t::r,0,h,_=>h
 | t::r,i+1,h,hi=>by
  rcases h.2 with h2|h2
  ·have:=h2.2;subst this; simp at hi
  ·exact rx (L:=r) (i:=i) h2.2 (by simpa using hi)
theorem eA.gd {i:Nat}{Mp:Int}{b:Bool}{l:List ab}(hL:Gd L)(h:eA L i Mp b l):Gd (nf b l):=by
 rw [<- h.2.2.2.2]; exact ws (rx hL h.1)
theorem eA.ext {i j:Nat}{Mp:Int}{b:Bool}{l:List ab}(h:eA L i Mp b l)(h1:i<=j)(h2:j<L.length)(h3:L.drop j=nf b (L.drop i)):RAt L j Mp b l:=by
 obtain ⟨q1,q2,q3,q4,q5⟩:=h;refine ⟨⟨h2,q2,by omega,q4,?_⟩,?_⟩
 ·rw [h3,Ko,q5]
 ·rw [h3,q5]
theorem RAt.next {j:Nat}{Mp:Int}{b:Bool}{l:List ab}(hL:Gd L)(h:RAt L j Mp b l)(h6:(hd b l).Ar≠6) :
  eA L (j+1) Mp b (tl b l)/\L.drop (j+1)=tl b l:=by
 have hg:Gd (nf b l):=h.1.gd hL
 have e:L.drop (j+1)=tl b l:=by
  have:=h.2;rw [mW h.1.1,qJ hg] at this;exact (qr this).2
 have UK:=uA (DX hg h6)
 have:j+1<L.length:=by
  exact HX
 obtain ⟨⟨q1,q2,q3,q4,q5⟩,_⟩:=h;exact ⟨⟨this,q2,by omega,q4,by rw [e]⟩,e⟩
theorem RAt.inn {j:Nat}{Mp:Int}{b:Bool}{l:List ab}(hL:Gd L)(h:RAt L j Mp b l)(h6:(hd b l).Ar≠6):eA L (j+1) (Mp+1) true (tl b l):=by
 obtain ⟨⟨q1,q2,q3,q4,q5⟩,e⟩:=h.next hL h6;have:=h.1.2.2.1;have:=h.1.1;refine ⟨q1,by omega,by omega,?_,by rw [e]⟩
 symm; rw [decide_eq_true_eq]; omega
theorem eA.out {j:Nat}{Mp:Int}{b:Bool}{l l':List ab}(h:eA L j (Mp+1) true l)(h0:0<=Mp)(hb:b=decide (0<Mp))(he:L.drop j=l'):eA L j Mp b l':=by
 obtain ⟨q1,q2,q3,q4,q5⟩:=h;exact ⟨q1,h0,by omega,hb,by rw [he]⟩
theorem MC (hL:Gd L)(M':L.length<=1000000000){Mp:Int}{d:ao}{a:Int}:∀ (k i:Nat),i+k=L.length->0<k ->
  Ev2 (λ _ m=>cN (.mk L a Mp d) m (i:Int)) (λ j=>∃ j':Nat,j=(j':Int)/\i<=j'/\j'<L.length/\L.drop j'=nf (decide (0<Mp)) (L.drop i)):=by
 intro k
 induction k with
 | zero=>intro i _ h; omega
 | succ k ih=>
  intro i hi _;have hd':=mW (L:=L) (i:=i) O;refine aw ?_;simp only [cN];refine ai (decide (0<Mp/\(lat L (i:Int)).Ar=5)) ?_ ?_
  ·refine av (λ h=>ae O (ag rY (aa ?_))) (λ h=>aa ?_)
   ·simp only [h,true_and]
   ·simp [h]
  ·by_cases h:0<Mp/\(lat L (i:Int)).Ar=5
   ·refine ae pd (ag aC ?_)
    have hk:0<k:=by
     have hg:=rx hL (i:=i) O;rw [hd'] at hg;rcases hg.2 with h2|h2
     ·have h2:=h2.1; omega
     ·exact J2
    refine aO (lu (P:=λ j=>Ev2 (λ _ m=>cN (.mk L a Mp d) m j) _) (ih (i+1) O hk)) ?_;exact Kj
   ·exact Kv
theorem tZ (hL:Gd L)(M':L.length<=1000000000){i:Nat}{Mp:Int}{b:Bool}{l:List ab}{d:ao}(h:eA L i Mp b l) :
  Ev2 (λ n _=>bH n (.mk L (i:Int) Mp d)) (λ z=>z.1=hd b l/\∃ j:Nat,z.2=.mk L (j:Int) Mp d/\RAt L j Mp b l):=by
 simp only [bH];have hi:=h.1;refine ah _ (aN (MC hL M' (d:=d) (a:=(i:Int)) (L.length-i) i O O)) ?_;rintro x ⟨j,rfl,h1,h2,h3⟩;rw [<- h.2.2.2.1] at h3;have ha:=h.ext h1 h2 h3
 have hhd:lat L (j:Int)=hd b l:=by
  have:=ha.2;rw [mW h2,qJ (h.gd hL)] at this;exact (qr this).1
 exact ae O (ag rY (aa ⟨hhd,j,Z,ha⟩))
theorem mg (hL:Gd L)(M':L.length<=1000000000){i:Nat}{Mp:Int}{b:Bool}{l:List ab}{d:ao}(s:Bk)(h:eA L i Mp b l) :
  Ev2 (λ n _=>aX n (.mk L (i:Int) Mp d) s) (λ z=>z.1=sgB b l s/\∃ j:Nat,z.2=.mk L (j:Int) Mp d/\RAt L j Mp b l):=by
 simp only [aX];refine bJ ou λ j h3=>?_;refine ai (sgB b l s) (av (λ h=>aa ?_) (λ h=>aa ?_)) po
 ·have h:(hd b l).Ar=4:=h;simp only [sgB,h,decide_true,Bool.true_and]
 ·have h:¬ (hd b l).Ar=4:=h;simp only [sgB,h,decide_false,Bool.false_and]
theorem AK (hL:Gd L)(M':L.length<=1000000000){i:Nat}{Mp:Int}{b:Bool}{l:List ab}{d:ao}(s:Bk)(h:eA L i Mp b l) :
  Ev2 (λ n _=>cZ n (.mk L (i:Int) Mp d) s) (λ z=>z.1=wdB b l s/\∃ j:Nat,z.2=.mk L (j:Int) Mp d/\RAt L j Mp b l):=by
 simp only [cZ];refine bJ ou λ j h3=>?_;refine ai (wdB b l s) (av (λ h=>aa ?_) (λ h=>aa ?_)) po
 ·have h:(hd b l).Ar=1:=h;simp only [wdB,h,decide_true,Bool.true_and]
 ·have h:¬ (hd b l).Ar=1:=h;simp only [wdB,h,decide_false,Bool.false_and]
theorem Ki (i Mp k a:Int):fO (.mk L i Mp dOk) k a=some (.mk L i Mp (eD (k,a))):=rfl
theorem qj (hL:Gd L)(M':L.length<=1000000000){i:Nat}{Mp:Int}{b:Bool}{l:List ab}(h:eA L i Mp b l) :
  Ev2 (λ n _=>bW n (.mk L (i:Int) Mp dOk)) (λ z=>∃ j:Nat,z=.mk L (j:Int) Mp (eD (2,(hd b l).fAt))/\j<L.length):=by
 simp only [bW];refine bJ ou λ j h3=>?_;exact ai _ CP (aa ⟨j,rfl,h3.1.1⟩)
def RFl (L:List ab)(Mp:Int)(N:Nat)(e:PE)(z:aj):Prop:=e.1≠0/\∃ I:Int,z=.mk L I Mp (eD e)/\0<=I/\I<=1000000000+(N:Int)
theorem iR (hL:Gd L)(M':L.length<=1000000000){i:Nat}{Mp:Int}{b:Bool}{l:List ab}(s:Bk){q:PE⊕(Unit×List ab)}(h:eA L i Mp b l)(hq:eF b s l=some q) :
  Ev2 (λ n _=>bT n (.mk L (i:Int) Mp dOk) s) (λ z=>match q with
   | .inl e=>RFl L Mp 0 e z
   | .inr (_,l')=>∃ j:Nat,z=.mk L (j:Int) Mp dOk/\eA L j Mp b l'/\L.drop j=l'):=by
 simp only [bT];unfold eF at hq;by_cases hs:sgB b l s=true
 ·rw [if_pos hs] at hq; cases hq;refine ah (λ t=>∃ j:Nat,t=(L,(j:Int),Mp,0,0,[])/\RAt L j Mp b l) (ah _ (mg hL M' s h) ?_) ?_
  ·rintro ⟨z1,z2⟩ ⟨h1,j,h2,h3⟩;replace h1:z1=_:=h1; subst h1; cases h2;exact af (by simp [hs]) qR
  ·rintro _ ⟨j,rfl,h3⟩;have hn:=h3.next hL (sg6 hs);have:=h3.1.1;refine ag B9 (aa ⟨j+1,by (try simp only []); rfl,hn.1,hn.2⟩)
 ·rw [if_neg hs] at hq; cases hq;refine ah (λ t=>∃ j:Nat,t=(L,(j:Int),Mp,2,(hd b l).fAt,[])/\j<L.length) (ah _ (mg hL M' s h) ?_) ?_
  ·rintro ⟨z1,z2⟩ ⟨h1,j,h2,h3⟩;replace h1:z1=_:=h1; subst h1; cases h2;refine ae sb (ah _ (qj hL M' h3.1) ?_);rintro _ ⟨j,rfl,h4⟩;exact aa ⟨j,rfl,h4⟩
  ·rintro _ ⟨j,rfl,h3⟩;exact JX
theorem Ib (s:Bk):eN s=some (lU s):=yO s
theorem DJ (hL:Gd L)(M':L.length<=1000000000){i:Nat}{Mp:Int}{b:Bool}{l:List ab}{q:PE⊕(Bk×List ab)}(h:eA L i Mp b l)(hq:yQ b l=some q) :
  Ev2 (λ n _=>cr n (.mk L (i:Int) Mp dOk)) (λ z=>match q with
   | .inl e=>RFl L Mp 0 e z.2
   | .inr (x,l')=>z.1=x/\∃ j:Nat,z.2=.mk L (j:Int) Mp dOk/\eA L j Mp b l'):=by
 simp only [cr];refine bJ ou λ j h3=>?_;unfold yQ at hq;by_cases hs:(hd b l).Ar=1/\lU (hd b l).By=false
 ·rw [if_pos hs] at hq; cases hq;refine ai (L,(j:Int),Mp,0,0,[]) (ai false (ae hs.1 (ai _ (ax (Ib _) rfl) (aa hs.2))) sF) ?_;have hn:=h3.next hL O;have:=h3.1.1;exact ag B9 (aa ⟨rfl,j+1,by (try simp only []); rfl,hn.1⟩)
 ·rw [if_neg hs] at hq; cases hq;refine ah (λ t=>∃ j:Nat,t=(L,(j:Int),Mp,2,(hd b l).fAt,[])/\j<L.length) (ai true (av (λ h1=>ai _ (ax (Ib _) rfl) (aa ?_)) (λ h1=>aa rfl)) (ae rfl (ah _ (qj hL M' h3.1) ?_))) ?_
  ·have h1:(hd b l).Ar=1:=h1;exact Hs
  ·rintro _ ⟨j,rfl,h4⟩;exact aa ⟨j,rfl,h4⟩
  ·rintro _ ⟨j,rfl,h4⟩;exact JX
theorem Ff {Uk:Nat}(h:Uk<=5):nQ (Uk:Int)=some ((iQ Uk).map (·.1)):=by
 exact LC
theorem FS {Uk:Nat}(h:Uk<=5):∃ k:Int,nP (Uk:Int)=some k/\0<k/\k<=13/\∀ (t:Nat) (p:Bk×Int),(iQ Uk)[t]? = some p->p.2=k+(t:Int):=by
 rcases Uk with _|_|_|_|_|_|k
 ·exact ⟨3,rfl,by decide,by decide,λ t p hp=>by rcases t with _|_|_|_|t <;> simp [iQ] at hp <;> subst hp <;> rfl⟩
 ·exact ⟨4,rfl,by decide,by decide,λ t p hp=>by rcases t with _|_|_|_|t <;> simp [iQ] at hp <;> subst hp <;> rfl⟩
 ·exact ⟨5,rfl,by decide,by decide,λ t p hp=>by rcases t with _|_|_|_|t <;> simp [iQ] at hp <;> subst hp <;> rfl⟩
 ·exact ⟨7,rfl,by decide,by decide,λ t p hp=>by rcases t with _|_|_|_|t <;> simp [iQ] at hp <;> subst hp <;> rfl⟩
 ·exact ⟨11,rfl,by decide,by decide,λ t p hp=>by rcases t with _|_|_|_|t <;> simp [iQ] at hp <;> subst hp <;> rfl⟩
 ·exact ⟨13,rfl,by decide,by decide,λ t p hp=>by rcases t with _|_|_|_|t <;> simp [iQ] at hp <;> subst hp <;> rfl⟩
 ·omega
theorem Qr (hL:Gd L)(M':L.length<=1000000000){Mp:Int}{b:Bool}{l:List ab}{Uk:Nat}(hlev:Uk<=5):∀ (k t i:Nat),t+k=(iQ Uk).length->eA L i Mp b l ->
  Ev2 (λ n m=>bN n (Uk:Int) ((iQ Uk).map (·.1)) m (t:Int) L (i:Int) Mp 0 0 []) (λ r=>match ((iQ Uk).drop t).find? (λ p=>sgB b l p.1) with
   | some p=>∃ j:Nat,r=.inr (p.2,.mk L (j:Int) Mp dOk)/\RAt L j Mp b l
   | none=>∃ j:Nat,r=.inl (L,(j:Int),Mp,0,0,[])/\eA L j Mp b l):=by
 have Ul:(iQ Uk).length<=4:=by rcases Uk with _|_|_|_|_|k <;> simp [iQ]
 have hml:((iQ Uk).map (·.1)).length=(iQ Uk).length:=th ..;intro k
 induction k with
 | zero=>
  intro t i ht h;refine aw ?_;simp only [bN];exact L0
 | succ k ih=>
  intro t i ht h;refine aw ?_;simp only [bN];have hlt:t<(iQ Uk).length:=by omega
  have hdr:(iQ Uk).drop t=(iQ Uk)[t]::(iQ Uk).drop (t+1):=List.drop_eq_getElem_cons hlt;have hla:lat ((iQ Uk).map (·.1)) (t:Int)=((iQ Uk)[t]).1:=by rw [nW _ t O,List.getElem_map]
  refine ae O (ag rY ?_);rw [hla];refine bJ (mg hL M' _ h) λ j h3=>?_;rw [hdr,List.find?_cons];obtain ⟨k0,f1,f2,f3,f4⟩:=FS hlev
  cases hs:sgB b l ((iQ Uk)[t]).1 with
  | true=>
   refine ae Z (ai _ (ax f1 Z) (ag aC (aa ⟨j,?_,h3⟩)));rw [f4 t ((iQ Uk)[t]) (List.getElem?_eq_getElem hlt)]; rfl
  | false=>exact af ld (ag (bv O O) (lu (P:=λ x=>Ev2 (λ n m=>bN n (Uk:Int) ((iQ Uk).map (·.1)) m x L (j:Int) Mp 0 0 []) _) (ih (t+1) j O h3.1)))
theorem GH (hL:Gd L)(M':L.length<=1000000000){i:Nat}{Mp:Int}{b:Bool}{l:List ab}{Uk:Nat}(hlev:Uk<=5)(h:eA L i Mp b l) :
  Ev2 (λ n _=>dH n (.mk L (i:Int) Mp dOk) (Uk:Int)) (λ r=>match wc b l Uk with
   | some p=>∃ j:Nat,r=(p.2,.mk L (j:Int) Mp dOk)/\RAt L j Mp b l
   | none=>∃ j:Nat,r=(0,.mk L (j:Int) Mp dOk)/\eA L j Mp b l):=by
 simp only [dH];refine ai _ (ax (Ff hlev) rfl) ?_;have hl:=Qr hL M' hlev (iQ Uk).length 0 i O h;rw [List.drop_zero] at hl;unfold wc
 cases hf:(iQ Uk).find? (λ p=>sgB b l p.1) with
 | some p=>
  exact Kn
 | none=>
  rw [hf] at hl;exact BH
theorem MM {Uk:Nat}(hlev:Uk<=5){p:Bk×Int}(h:p∈iQ Uk):p.2≠0:=by
 have hall:∀ Uk:Fin 6,∀ p∈iQ Uk.1,p.2≠0:=by decide
 exact hall ⟨Uk,by omega⟩ p h
end
theorem Pg (s:Bk)(hd:s.all cz=true):C9 s=o9 s:=by
 have hn:qZ s=false:=by
  cases s with
  | nil=>rfl
  | cons b r=>
   have:=nS hd (b:=b) List.mem_cons_self;have UK:¬ b=45:=λ h=>by rw [h] at this; exact absurd this (by decide)
   simp [qZ,UK]
 have hdg:digits s=s:=by unfold digits; rw [hn]; rfl
 have hcp:re s=qA s:=by unfold re; rw [hn,hdg]; rfl
 have hv:nq s=(jl 0 s:Int):=by unfold nq; rw [hn,hdg]; rfl
 by_cases hc:qA s=true
 ·by_cases hb:-i6<=nq s/\nq s<=i6
  ·have h1:o9 s=(nq s,0):=by unfold o9; rw [hcp,if_pos hc,if_pos hb]
   have h0:0<=nq s:=by rw [hv]; omega
   have h2:=(FD s _ h1 h0).1;rw [h1,<- E9 h0 hb.2,h2]
  ·unfold o9 C9;rw [hcp,if_pos hc,if_pos hc,if_neg hb,if_neg];rintro ⟨_,h2⟩;rw [hv] at hb;unfold i6 at hb;omega
 ·unfold o9 C9;rw [hcp,if_neg hc,if_neg hc]
theorem ya (h:p:=by
 refine bJ (AK hL M' _ h3) λ j ha=>?_
 exact aa ⟨j,Z,ha⟩):p:=h
theorem G7 (h:p:=by
 rw [if_pos hs] at hq; cases hq
 exact af (by simp [hs]) (aa ⟨j,l,by rw [List.append_nil],ha,hs,Z⟩)):p:=h
theorem IY (h:p:=by
 refine ag (bv (by show _<=Mp+1-1; omega) (by show Mp+1-1<=_; omega)) ?_;refine ai (L,(j:Int)+1,Mp+1-1,0,0,[]) (ae Z ?_) (aa ⟨Z,j+1,by show aj.mk L ((j+1:Nat):Int) (Mp+1-1) dOk=_; rw [Int.add_sub_cancel],hn.1.out hn0 hb hn.2⟩);refine ag (bv (by show _<=(j:Int)+1; omega) (by show (j:Int)+1<=_; omega)) ?_
 exact aa Z):p:=h
theorem Lu (h:p:=by
 refine ag (by simp only [aq,mv,n7]; omega) ?_
 exact aa ⟨he,_,I,Z,by simp,UP,by omega⟩):p:=h
theorem uN (h:p:=by
 exact aa ⟨j,Z,ha⟩):p:=h
theorem Ln (h:p:=by
 refine ai (L,I,Mp+1,e.1,e.2,[]) (af (rv he) (aa Z)) ?_;refine ag (bv (by show _<=Mp+1-1; omega) (by show Mp+1-1<=_; omega)) ?_
 exact aa ⟨he,I,by show aj.mk L I (Mp+1-1) (eD e)=_; rw [Int.add_sub_cancel],by omega,by omega⟩):p:=h
theorem L8 (h:p:=by
 rintro _ ⟨j,rfl,ha⟩
 exact af ld (aa ⟨j,Z,ha.1⟩)):p:=h
theorem yl (h:p:=by
 refine ag (by simp only [aq,mv,n7]; omega) ?_
 exact ai (false,L,I,Mp,e.1,e.2,[]) (af (rv he) (aa Z)) (af ld (aa ⟨he,_,I,Z,UP,by omega⟩))):p:=h
theorem Dg (h:p:=by
 rintro _ ⟨he,ks,I,rfl,UP,U1⟩;refine aO (OL he ks I Mp) ?_;rintro _ rfl
 exact ⟨he,_,I,Z,UP,U1⟩):p:=h
theorem xo (h:p:=by
 rintro _ ⟨j,rfl,hj⟩
 exact aa ⟨(by decide:(2:Int)≠0),(j:Int),Z,by omega,by omega⟩):p:=h
theorem Bu (h:p:=by
 refine ag (by simp only [aq,mv,n7]; omega) ?_;refine ah (λ t=>∃ ks:List ac,ks.length<=3/\t=(ks,L,I,Mp+1,e.1,e.2,[])) (av (λ hk=>?_) (λ hk=>aa ⟨_,by simp,rfl⟩)) ?_
 ·refine ai (L,I,Mp+1,e.1,e.2,[]) (af (rv he) (aa rfl)) ?_;refine ah _ (jx he I (Mp+1)) ?_;rintro ⟨y1,y2⟩ hy
  cases hy
  refine ag (by simp only [aq,mv,n7]; omega) ?_;exact aa ⟨_,by simp,Z⟩
 rintro _ ⟨ks,hks,rfl⟩;refine ah (λ t=>∃ ks:List ac,t=(ks,L,I,Mp+1,e.1,e.2,[])) (ai (false,L,I,Mp+1,e.1,e.2,[]) (af (rv he) (aa rfl)) (af ld (aa ⟨_,rfl⟩))) ?_;rintro _ ⟨ks,rfl⟩;refine ai (L,I,Mp+1,e.1,e.2,[]) (af (rv he) (aa rfl)) ?_;refine ag (bv (by show _<=Mp+1-1; omega) (by show Mp+1-1<=_; omega)) ?_
 exact aa ⟨he,I,by show aj.mk L I (Mp+1-1) (eD e)=_; rw [Int.add_sub_cancel],by omega,by omega⟩):p:=h
theorem A9 (h:p:=by
 refine ag (by simp only [aq,mv,n7]; omega) ?_;refine ah (λ t=>∃ ks:List ac,ks.length<=3/\t=(ks,L,I2,Mp+1,e.1,e.2,[])) (av (λ hk=>?_) (λ hk=>aa ⟨_,by simp,rfl⟩)) ?_
 ·refine ai (L,I2,Mp+1,e.1,e.2,[]) (af (rv he) (aa rfl)) ?_;refine ah _ (jx he I2 (Mp+1)) ?_;rintro ⟨y1,y2⟩ hy
  cases hy
  refine ag (by simp only [aq,mv,n7]; omega) ?_;exact aa ⟨_,by simp,Z⟩
 rintro _ ⟨ks,hks,rfl⟩;refine ah (λ t=>∃ ks:List ac,t=(ks,L,I2,Mp+1,e.1,e.2,[])) (ai (false,L,I2,Mp+1,e.1,e.2,[]) (af (rv he) (aa rfl)) (af ld (aa ⟨_,rfl⟩))) ?_;rintro _ ⟨ks,rfl⟩;refine ai (L,I2,Mp+1,e.1,e.2,[]) (af (rv he) (aa rfl)) ?_;refine ag (bv (by show _<=Mp+1-1; omega) (by show Mp+1-1<=_; omega)) ?_
 exact aa ⟨he,I2,by show aj.mk L I2 (Mp+1-1) (eD e)=_; rw [Int.add_sub_cancel],by omega,by omega⟩):p:=h
theorem JC (h:p:=by
 rcases q with e|⟨x',l'⟩
 ·rintro _ ⟨he,y,I,hy,UP,U1⟩;exact ⟨he,y,I,hy,UP,by omega⟩
 ·rintro _ hz
  exact hz):p:=h
theorem Ba (h:p:=by
 exact aa ⟨he,_,I,Z,UP,by omega⟩):p:=h
theorem ov (h:p:=by
 exact aa ⟨he,I,Z,UP,by omega⟩):p:=h
theorem KH (h:p:=by
 refine bJ (mg hL M' _ h3) λ j ha=>?_
 exact aa ⟨j,by rw [he2]; rfl,ha⟩):p:=h
theorem CZ (h:p:=by
 exact ai (false,L,I,Mp,e.1,e.2,[]) (af (rv he) (aa Z)) (af ld (aa Z))):p:=h
theorem Ik (h:p:=by
 refine ah (λ t=>∃ j:Nat,t=(false,L,(j:Int),Mp,0,0,[])/\RAt L j Mp true l) (ae Z (ah _ (mg hL M' _ h) ?_)) ?_
 ·rintro ⟨z1,z2⟩ ⟨h1,j,h2,ha⟩;replace h1:z1=_:=h1; subst h1; cases h2;exact aa ⟨j,by rw [hs]; rfl,ha⟩
 ·rintro _ ⟨j,rfl,ha⟩
  exact af ld (aa ⟨j,l,by rw [List.append_nil],ha,hs,Z⟩)):p:=h
theorem GL (h:p:=by
 rintro _ ⟨j,rfl,h3,h4⟩
 cases hq
 refine ag (bv (by show _<=Mp+1-1; omega) (by show Mp+1-1<=_; omega)) ?_
 exact aa ⟨Z,j,by show aj.mk L (j:Int) (Mp+1-1) dOk=_; rw [Int.add_sub_cancel],h3.out hn0 hb h4⟩):p:=h
theorem HZ (h:p:=by
 refine ag (bv (by show _<=Mp+1-1; omega) (by show Mp+1-1<=_; omega)) ?_
 exact aa ⟨he,I,by show aj.mk L I (Mp+1-1) (eD e)=_; rw [Int.add_sub_cancel],UP,by omega⟩):p:=h
theorem CJ (h:p:=by
 refine ag (bv (by show _<=(j:Int)+1; omega) (by show (j:Int)+1<=_; omega)) ?_
 exact ai _ (ax Z Z) (aa ⟨Z,j+1,Z,hn.1⟩)):p:=h
theorem sX (h:p:=by
 rintro _ ⟨j,rfl,h3,h4⟩
 exact aa ⟨j,Z,h3,h4⟩):p:=h
theorem Cl (h:p:=by
 rintro _ rfl
 exact ⟨he,_,I,Z,UP,U1⟩):p:=h
theorem Iq (h:p:=by
 refine bJ (mg hL M' _ ha.1) λ j ha=>?_
 exact af hs (aa ⟨j,Z,ha⟩)):p:=h
theorem Lq (h:p:=by exact wK ih [93] _ (by decide) L hL M' j _ Mp b _ Z hn0 hb g2 ha.1 hx):p:=h
theorem B6 (h:p:=by exact bv (by show _<=I+1; omega) (by show I+1<=_; omega)):p:=h
theorem yS (h:p:=by exact pQ ih true l2 L hL M' j _ Mp _ Z f2.2.2 h3 hv):p:=h
theorem Ll (h:p:=by exact lu (P:=λ y=>Ev2 (λ n _=>cr n (.mk L y (Mp+1) dOk)) _) (DJ hL M' hn.1 hz)):p:=h
theorem GX (h:p:=by exact lu (P:=λ y=>Ev2 (λ n _=>cZ n (.mk L y (Mp+1) dOk) [102,111,114]) _) (AK hL M' [102,111,114] hi)):p:=h
theorem H0 (h:p:=by exact wK ih [41] _ (by decide) L hL M' (j+1) ((j:Int)+1) Mp b _ Z hn0 hb g2 hi hx):p:=h
theorem G8 (h:p:=by exact pQ ih true (tl true l7) L hL M' (j+1) ((j:Int)+1) (Mp+1) _ Z (glw gl7.1 hc) hn.1 hz):p:=h
theorem yK (h:p:=by exact iR hL M' _ h3 hx3):p:=h
theorem ot (h:p:=by exact mg hL M' _ ha.1):p:=h
theorem mj (h:p:=by exact af (rv he) (aa Z)):p:=h
theorem IG (h:p:=by exact pQ ih true l8 L hL M' j _ (Mp+1) _ Z f8.2.2 h3 hz2):p:=h
theorem xF (h:p:=by exact aa ⟨j,Z,ha⟩):p:=h
theorem Jy (h:p:=by exact ai (false,L,I,Mp+1,e.1,e.2,[]) (af (rv he) (aa Z)) (af ld (aa Z))):p:=h
theorem KN (h:p:=by exact ai _ (ax Z Z) (aa ⟨Z,j+1,Z,hn.1⟩)):p:=h
theorem yt (h:p:=by exact iR hL M' _ h3 XN):p:=h
theorem pR (h:p:=by exact mg hL M' _ h3):p:=h
theorem vj (h:p:=by exact qj hL M' ha.1):p:=h
theorem LW (h:p:=by exact aN (ih.t (tl b l) [] g2 (by have:=g2.2; simp only [mv]; omega) L hL M' j _ (Mp+1) _ Z ha.1 hx)):p:=h
theorem I9 (h:p:=by exact lu (P:=λ y=>Ev2 (λ n _=>cr n (.mk L y (Mp+1) dOk)) _) (DJ hL M' hn.1 hx)):p:=h
theorem uU (h:p:=by exact iR hL M' _ h3 hn):p:=h
theorem rv {e:PE}(he:e.1≠0):¬ (!(!decide ((eD e).Ar=0)))=true:=by rw [lj he]; decide
theorem LU {b:Bool}{l:List ab}{s t:Bk}(h:sgB b l s=true)(Uv:s≠t):¬ sgB b l t=true:=λ k=>Uv ((mF.1 h).2.symm.trans (mF.1 k).2)
def wa {α:Type}(L:List ab)(Mp:Int)(b:Bool)(N:Nat)(q:PE⊕(α×List ab))(z:α×aj):Prop:=match q with
 | .inl e=>RFl L Mp N e z.2
 | .inr (x,l)=>z.1=x/\∃ j:Nat,z.2=.mk L (j:Int) Mp dOk/\eA L j Mp b l
def Rl {α:Type}(F:Nat->aj->Option (α×aj))(b:Bool)(l:List ab)(x:PR α):Prop :=∀ (L:List ab),Gd L->L.length<=1000000000->∀ (i:Nat) (I Mp:Int) (q:PE⊕(α×List ab)),I=i->Gl l->eA L i Mp b l->x=some q->Ev2 (λ n _=>F n (.mk L I Mp dOk)) (wa L Mp b l.length q)
def RlC {α:Type}(F:Nat->aj->Option (α×aj))(l:List ab)(x:PR α):Prop :=∀ (L:List ab),Gd L->L.length<=1000000000->∀ (i:Nat) (I Mp:Int) (b:Bool) (q:PE⊕(α×List ab)),I=i->0<=Mp->b=decide (0<Mp)->Gl l->eA L i (Mp+1) true l->x=some q->Ev2 (λ n _=>F n (.mk L I Mp dOk)) (wa L Mp b l.length q)
abbrev BT:=Int×Int×Bk×Bk×Int×Int×Bk×(List am)×(List Bk)×(List ac)×(List ab)×Int×Int×Int×Int×Bk
def Iy (x:ac)(s:List ab×Int×Int×Int×Int×Bk):BT:=(x.Ar,x.fOp,x.AI,x.D',x.A'.Ar,x.A'.F',x.A'.If,x.A'.Df,x.A'.C',x.BY,s)
def BLO (L:List ab)(Mp:Int)(b:Bool)(N:Nat)(at':Int)(q:PE⊕(ac×List ab))(t:BT):Prop:=match q with
 | .inl e=>e.1≠0/\∃ (x:ac) (I:Int),t=Iy x (L,I,Mp,e.1,e.2,[])/\0<=I/\I<=1000000000+(N:Int)
 | .inr (x,l)=>∃ j:Nat,t=Iy x (L,(j:Int),Mp,0,0,[])/\x.fAt=at'/\eA L j Mp b l
def PLO (L:List ab)(Mp:Int)(b:Bool)(N:Nat)(q:PE⊕(ac×List ab))(t:BT⊕(ac×aj)):Prop:=match q with
 | .inl e=>e.1≠0/\∃ (x:ac) (I:Int),(t=.inl (Iy x (L,I,Mp,e.1,e.2,[]))\/t=.inr (x,.mk L I Mp (eD e)))/\0<=I/\I<=1000000000+(N:Int)
 | .inr (x,l)=>∃ j:Nat,t=.inr (x,.mk L (j:Int) Mp dOk)/\eA L j Mp b l
abbrev IT:=(List ac)×(List ab)×Int×Int×Int×Int×Bk
def ILO (L:List ab)(Mp:Int)(en:Bk)(out:List ac)(N:Nat)(q:PE⊕(List ac×List ab))(r:IT):Prop:=match q with
 | .inl e=>e.1≠0/\∃ (ks:List ac) (I:Int),r=(ks,L,I,Mp,e.1,e.2,[])/\0<=I/\I<=1000000000+(N:Int)
 | .inr (ks,l')=>∃ (j:Nat) (l'':List ab),r=(out++ks,L,(j:Int),Mp,0,0,[])/\RAt L j Mp true l''/\sgB true l'' en=true/\tl true l''=l'
structure Rol (f:Nat):Prop where
 e:∀ b l,Rl aG b l (gj f b l)
 b:∀ (Uk:Nat) (li:Int) b l,li=Uk->Uk<=6->Rl (λ n p=>bE n p li) b l (oO f Uk b l)
 bl:∀ (Uk:Nat) (li:Int) b l (x:ac) (r5:ac×aj),li=Uk->Uk<=5->x.fAt=r5.1.fAt->∀ (L:List ab),Gd L->L.length<=1000000000->∀ (i:Nat) (Mp:Int) (q:PE⊕(ac×List ab)),Gl l->eA L i Mp b l->pB f Uk b x l=some q ->
  Ev2 (λ n m=>bO n (bE n) li r5 m x.Ar x.fOp x.AI x.D' x.A'.Ar x.A'.F' x.A'.If x.A'.Df x.A'.C' x.BY L (i:Int) Mp 0 0 []) (BLO L Mp b l.length r5.1.fAt q)
 u:∀ b l,Rl dY b l (unS f b l)
 pl:∀ b l (x:ac) (r1:ac×aj),x.fAt=r1.1.fAt->∀ (L:List ab),Gd L->L.length<=1000000000->∀ (i:Nat) (I Mp:Int) (q:PE⊕(ac×List ab)),I=i->Gl l->eA L i Mp b l->kF f b x l=some q ->
  Ev2 (λ n m=>bf n (aG n) r1 m x.Ar x.fOp x.AI x.D' x.A'.Ar x.A'.F' x.A'.If x.A'.Df x.A'.C' x.BY L I Mp 0 0 []) (PLO L Mp b l.length q)
 p:∀ b l,Rl bF b l (mr f b l)
 s:∀ b l,(hd b l).Ar=3->Rl bF b l (qO f b l)
 n:∀ b l,(hd b l).Ar=1->∀ (L:List ab),Gd L->L.length<=1000000000->∀ (j:Nat) (Mp:Int) (q:PE⊕(ac×List ab)),Gl l->RAt L j Mp b l->nY f b l=some q->Ev2 (λ n _=>fP n (.mk L (j:Int) Mp dOk) (hd b l)) (wa L Mp b l.length q)
 i:∀ (en:Bk) (l:List ab) (out:List ac),en≠[44]->Gl l->out.length+l.length<=1000000000->∀ (L:List ab),Gd L->L.length<=1000000000->∀ (i:Nat) (I Mp:Int) (q:PE⊕(List ac×List ab)),I=i->eA L i Mp true l->iF f en l=some q ->
  Ev2 (λ n m=>bw n (aG n) en m out L I Mp 0 0 []) (ILO L Mp en out l.length q)
 t:∀ (l:List ab) (out:List ac),Gl l->out.length+2*l.length<=3000000000->∀ (L:List ab),Gd L->L.length<=1000000000->∀ (i:Nat) (I Mp:Int) (q:PE⊕(List ac×List ab)),I=i->eA L i Mp true l->pX f l=some q ->
  Ev2 (λ n m=>bp n (ce n) (bh n) m out L I Mp 0 0 []) (ILO L Mp [125] out l.length q)
 k:∀ l,Rl ce true l (nV f l)
 lo:∀ (tk:ab) (k:Int) (en:Bk) l,wdB true l [102,111,114]=true->(k=12/\en=[93])\/(k=13/\en=[125])->RlC (λ n p=>eJ n p tk en) l (mq f tk.fAt k (tl true l))
 tm:∀ (s:Bk) (a:Int) q,0<=a->a+(s.length:Int)<=1000000000->kj f s a=some q->Ev2 (λ n _=>io n s a) (·=tU q)
theorem tX {α β γ:Type}{L:List ab}{Mp:Int}{b:Bool}{N:Nat}{x:PR α}{k:α->List ab->PR β}{q:PE⊕(β×List ab)}{f:Nat->Nat->Option (α×aj)}{g:Nat->Nat->α×aj->Option γ}{P:γ->Prop}(hq:pb x k=some q)
  (hc:∀ q',x=some q'->Ev2 f (wa L Mp b N q')) (h1:∀ e z (I:Int),e.1≠0->0<=I->I<=1000000000+(N:Int)->.inl e=q->Ev2 (λ n m=>g n m (z,.mk L I Mp (eD e))) P)
  (h2:∀ a l (j:Nat),x=some (.inr (a,l))->eA L j Mp b l->k a l=some q->Ev2 (λ n m=>g n m (a,.mk L (j:Int) Mp dOk)) P):Ev2 (λ n m=>(f n m).bind (g n m)) P:=by
 rcases bg hq with ⟨e,hx,rfl⟩|⟨a,l,hx,hq⟩
 ·refine ah _ (hc _ hx) ?_;rintro ⟨z1,z2⟩ ⟨he,I,h3,h4,h5⟩
  cases h3
  exact h1 e z1 I he h4 h5 Z
 ·exact KV
theorem ER {p:Prop}(h:p:=by
 rintro e z1 I he UP U1 rfl
 first
  | exact aa ⟨he,I,Z,UP,by omega⟩
  | exact ae (lj he) (aa ⟨he,I,Z,UP,by omega⟩)
  | exact ai (true,L,I,Mp,e.1,e.2,[]) (ae (lj he) (aa Z)) (ae Z (aa ⟨he,I,Z,UP,U1⟩))):p:=h
theorem S3 {f:Nat}(ih:Rol f):∀ b l,Rl aG b l (gj (f+1) b l):=by
 intro b l L hL M' i I Mp q hI gl h hq;subst hI;rw [gj] at hq;refine aS ?_;simp only [aG,au,cl];have b1:=(tlS b l).length_le;refine tX hq (λ _ hx=>ih.b 0 0 b l rfl (by decide) L hL M' i _ Mp _ rfl gl h hx) ?_ ?_
 ·exact ER
 intro c l1 j hx h3 hq;have f1:=(fct f).b 0 b l gl _ hx;have b2:=f1.2.1.length_le;have b3:=(tlS b l1).length_le;by_cases hs:sgB b l1 [63]=true
 ·rw [if_pos hs] at hq;refine ah (λ t=>∃ j:Nat,t=(false,L,(j:Int),Mp,0,0,[])/\RAt L j Mp b l1) (af ld ?_) ?_
  ·refine bJ pR λ j ha=>?_;exact aa ⟨j,by rw [hs]; rfl,ha⟩
  rintro _ ⟨j,rfl,ha⟩;have hj:=ha.1.1;have hn:=ha.next hL (sg6 hs);have g2:=glt f1.2.2 hs;refine af ld ?_;refine ag gb ?_;refine tX hq (λ _ XN=>ih.e b _ L hL M' (j+1) ((j:Int)+1) Mp _ rfl g2 hn.1 XN) ?_ ?_
  ·exact ER
  intro a l2 j XN h3 hq;have f2:=(fct f).e b _ g2 _ XN;have b4:=f2.2.1.length_le;have b5:=(tlS b (tl b l1)).length_le;refine af ld ?_;rcases bg hq with ⟨e,hx3,rfl⟩|⟨u,l3,hx3,hq⟩
  ·refine ah _ yK ?_;rintro _ ⟨he,I,rfl,UP,U1⟩;exact ae (lj he) (aa ⟨he,I,rfl,UP,by omega⟩)
  ·refine ah _ yK ?_;rintro _ ⟨j,rfl,h3,h4⟩;have f3:=dc (b:=b) (s:=[58]) f2.2.2 _ hx3;have b6:=(f3.2.1.trans (tlS b l2)).length_le;refine af ld ?_;refine tX hq (λ _ hx4=>ih.e b _ L hL M' j _ Mp _ rfl f3.2.2 h3 hx4) ?_ ?_
   ·exact ER
   intro d l4 j hx4 h3 hq;exact kS
 ·rw [if_neg hs] at hq; cases hq;refine ah (λ t=>∃ j:Nat,t=(true,L,(j:Int),Mp,0,0,[])/\eA L j Mp b l1) (af ld ?_) ?_
  ·refine bJ pR λ j ha=>?_;exact aa ⟨j,by rw [show sgB b l1 [63]=false by simpa using hs]; rfl,ha.1⟩
  rintro _ ⟨j,rfl,h3⟩;exact ae rfl po
theorem OR {L:List ab}{e:PE}(he:e.1≠0)(li:Int)(r5:ac×aj)(x:ac)(I Mp:Int) :
  Ev2 (λ n m=>bO n (bE n) li r5 m x.Ar x.fOp x.AI x.D' x.A'.Ar x.A'.F' x.A'.If x.A'.Df x.A'.C' x.BY L I Mp e.1 e.2 []) (·=Iy x (L,I,Mp,e.1,e.2,[])):=by
 refine aw ?_;simp only [bO,au,cl];exact CZ
theorem Tm {f:Nat}(ih:Rol f):∀ (Uk:Nat) (li:Int) b l,li=Uk->Uk<=6->Rl (λ n p=>bE n p li) b l (oO (f+1) Uk b l):=by
 intro Uk li b l ZB h6 L hL M' i I Mp q hI gl h hq;subst hI;rw [oO] at hq;refine aS ?_;simp only [bE];by_cases hv:5<Uk
 ·rw [if_pos hv] at hq;refine ae O ?_;refine ah _ (ih.u b l L hL M' i _ Mp _ rfl gl h hq) ?_;exact jX
 rw [if_neg hv] at hq;refine af O (ag aC ?_);have b1:=(tlS b l).length_le;refine tX hq (λ _ hx=>ih.b (Uk+1) (li+1) b l O O  L hL M' i _ Mp _ rfl gl h hx) ?_ ?_
 ·rintro e z1 I he UP U1 rfl;refine ah _ (aN (OR he li (z1,.mk L I Mp (eD e)) z1 I Mp)) ?_;rintro _ rfl;exact aa ⟨he,I,rfl,UP,U1⟩
 intro c l1 j hx h3 hq;have f1:=(fct f).b (Uk+1) b l gl _ hx;have b2:=f1.2.1.length_le;refine ah _ (aN (ih.bl Uk li b _ _ (_,.mk L (j:Int) Mp dOk) ZB O rfl L hL M' j Mp q f1.2.2 h3 hq)) ?_;rcases q with e|⟨x,l'⟩
 ·rintro _ ⟨he,x,I,rfl,UP,U1⟩;exact ov
 ·rintro _ ⟨j,rfl,hx,h3⟩;refine aa ⟨?_,j,rfl,h3⟩;exact (congrArg (λ a=>ac.mk x.Ar x.fOp x.AI x.D' (am.mk x.A'.Ar x.A'.F' x.A'.If x.A'.Df x.A'.C') x.BY a) hx.symm).trans (Aj x)
theorem Rn {f:Nat}(ih:Rol f):∀ (Uk:Nat) (li:Int) b l (x:ac) (r5:ac×aj),li=Uk->Uk<=5->x.fAt=r5.1.fAt->∀ (L:List ab),Gd L->L.length<=1000000000->∀ (i:Nat) (Mp:Int) (q:PE⊕(ac×List ab)),Gl l->eA L i Mp b l->pB (f+1) Uk b x l=some q ->
  Ev2 (λ n m=>bO n (bE n) li r5 m x.Ar x.fOp x.AI x.D' x.A'.Ar x.A'.F' x.A'.If x.A'.Df x.A'.C' x.BY L (i:Int) Mp 0 0 []) (BLO L Mp b l.length r5.1.fAt q):=by
 intro Uk li b l x r5 ZB hl5 Ux L hL M' i Mp q gl h hq;rw [pB] at hq;refine aw ?_;simp only [bO,au,cl];subst ZB;have ho:=GH hL M' hl5 h;have b1:=(tlS b l).length_le;have eta:ac.mk x.Ar x.fOp x.AI x.D' (am.mk x.A'.Ar x.A'.F' x.A'.If x.A'.Df x.A'.C') x.BY r5.1.fAt=x:=by rw [<- Ux]; exact Aj x
 rw [eta]
 cases hp:wc b l Uk with
 | none=>
  rw [hp] at ho hq
  cases hq
  refine ah (λ t=>∃ j:Nat,t=(false,L,(j:Int),Mp,0,0,[])/\eA L j Mp b l) (ae Z (ah _ ho ?_)) ?_
  ·rintro _ ⟨j,rfl,h3⟩;exact lm
  ·rintro _ ⟨j,rfl,h3⟩;exact af ld (aa ⟨j,rfl,Ux,h3⟩)
 | some p=>
  rw [hp] at ho hq;obtain ⟨hm,hs⟩:=Ea hp;refine ah (λ t=>∃ j:Nat,t=(true,L,(j:Int),Mp,0,0,[])/\RAt L j Mp b l) (ae rfl (ah _ ho ?_)) ?_
  ·rintro _ ⟨j,rfl,h3⟩;refine aa ⟨j,?_,h3⟩;rw [show decide (p.2=0)=false from decide_eq_false (MM hl5 hm)]; rfl
  rintro _ ⟨j,rfl,h3⟩;refine ae rfl ?_;have ho:=GH hL M' hl5 h3.1;rw [hp] at ho;refine ah _ ho ?_;rintro _ ⟨j,rfl,ha⟩;have hj:=ha.1.1;have hn:=ha.next hL (sg6 hs);have g2:=glt gl hs;refine ag gb ?_;refine ag aC ?_;have hq:pb (oO f (Uk+1) b (tl b l)) (λ y l=>pB f Uk b (ac.mk 7 p.2 [] [] v0 [x,y] x.fAt) l)=some q:=hq;refine tX hq (λ _ hx=>ih.b (Uk+1) ((Uk:Int)+1) b _ O O  L hL M' (j+1) ((j:Int)+1) Mp _ rfl g2 hn.1 hx) ?_ ?_
  ·rintro e z1 I he UP U1 rfl;refine aO (OR he (Uk:Int) r5 (ac.mk 7 p.2 [] [] v0 [x,z1] x.fAt) I Mp) ?_;rintro _ rfl;exact ⟨he,_,I,rfl,UP,by omega⟩
  intro y l1 j hx h3 hq;have f1:=(fct f).b (Uk+1) b _ g2 _ hx;have b2:=f1.2.1.length_le;have b3:=(tlS b (tl b l)).length_le;refine aO (ih.bl Uk Uk b _ (ac.mk 7 p.2 [] [] v0 [x,_] x.fAt) r5 rfl hl5 Ux L hL M' j Mp q f1.2.2 h3 hq) ?_;rcases q with e|⟨x',l'⟩
  ·rintro _ ⟨he,y,I,rfl,UP,U1⟩;exact ⟨he,y,I,rfl,UP,by omega⟩
  ·rintro _ hz;exact hz
theorem IQ {f:Nat}(ih:Rol f):∀ b l,Rl fC b l (pb (mr f b l) λ e l=>kF f b e l):=by
 intro b l L hL M' i I Mp q hI gl h hq;subst hI;refine aS ?_;simp only [fC];have b1:=(tlS b l).length_le;refine tX hq (λ _ hx=>ih.p b l L hL M' i _ Mp _ rfl gl h hx) ?_ ?_
 ·rintro e z1 I he UP U1 rfl;refine ek (Iy z1 (L,I,Mp,e.1,e.2,[])) (aN (f:=λ n m=>bf n (aG n) (z1,.mk L I Mp (eD e)) m z1.Ar z1.fOp z1.AI z1.D' z1.A'.Ar z1.A'.F' z1.A'.If z1.A'.Df z1.A'.C' z1.BY L I Mp e.1 e.2 []) (aw ?_)) (aa ⟨he,I,rfl,UP,U1⟩);simp only [bf,au,cl];exact af (rv he) (aa rfl)
 intro c l1 j hx h3 hq;have f1:=(fct f).p b l gl _ hx;have b2:=f1.2.1.length_le;refine cj (aO (aN (ih.pl b _ _ (_,.mk L (j:Int) Mp dOk) rfl L hL M' j _ Mp q rfl f1.2.2 h3 hq)) ?_);rcases q with e|⟨x,l'⟩
 ·rintro _ ⟨he,x,I,rfl|rfl,UP,U1⟩
  ·exact ov
  ·exact ⟨he,I,Z,UP,by omega⟩
 ·rintro _ ⟨j,rfl,h3⟩;exact ⟨rfl,j,rfl,h3⟩
theorem TC {f:Nat}(ih:Rol f):∀ b l,Rl dY b l (unS (f+1) b l):=by
 intro b l L hL M' i I Mp q hI gl h hq;subst hI;rw [unS] at hq;refine aS ?_;simp only [dY];have b1:=(tlS b l).length_le;refine bJ ou λ j ha=>?_;by_cases hs:sgB b l [33]=true
 ·rw [if_pos hs] at hq;refine ah (λ t=>∃ j:Nat,t=(1,L,(j:Int),Mp,0,0,[])/\RAt L j Mp b l) ?_ ?_
  ·refine bJ ot λ j ha=>?_;exact ae hs xF
  rintro _ ⟨j,rfl,ha⟩;refine ah (λ t=>∃ j:Nat,t=(1,L,(j:Int),Mp,0,0,[])/\RAt L j Mp b l) ?_ ?_
  ·refine bJ ot λ j ha=>?_;exact af (LU hs (by decide)) xF
  rintro _ ⟨j,rfl,ha⟩;have hj:=ha.1.1;have hn:=ha.next hL (sg6 hs);have g2:=glt gl hs;have b2:=(tlS b (tl b l)).length_le;refine af (show ¬ (1:Int)=0 by decide) ?_;refine ag gb ?_;refine tX hq (λ _ hx=>ih.u b _ L hL M' (j+1) ((j:Int)+1) Mp _ rfl g2 hn.1 hx) ?_ ?_
  ·exact ER
  intro c l1 j hx h3 hq;exact kS
 rw [if_neg hs] at hq;by_cases hs2:sgB b l [45]=true
 ·rw [if_pos hs2] at hq;refine ah (λ t=>∃ j:Nat,t=(0,L,(j:Int),Mp,0,0,[])/\RAt L j Mp b l) ?_ ?_
  ·exact Iq
  rintro _ ⟨j,rfl,ha⟩;refine ah (λ t=>∃ j:Nat,t=(2,L,(j:Int),Mp,0,0,[])/\RAt L j Mp b l) ?_ ?_
  ·refine bJ ot λ j ha=>?_;exact ae hs2 xF
  rintro _ ⟨j,rfl,ha⟩;have hj:=ha.1.1;have hn:=ha.next hL (sg6 hs2);have g2:=glt gl hs2;have b2:=(tlS b (tl b l)).length_le;refine af (show ¬ (2:Int)=0 by decide) ?_;refine ag gb ?_;refine tX hq (λ _ hx=>ih.u b _ L hL M' (j+1) ((j:Int)+1) Mp _ rfl g2 hn.1 hx) ?_ ?_
  ·exact ER
  intro c l1 j hx h3 hq;exact kS
 rw [if_neg hs2] at hq;refine ah (λ t=>∃ j:Nat,t=(0,L,(j:Int),Mp,0,0,[])/\RAt L j Mp b l) ?_ ?_
 ·exact Iq
 rintro _ ⟨j,rfl,ha⟩;refine ah (λ t=>∃ j:Nat,t=(0,L,(j:Int),Mp,0,0,[])/\RAt L j Mp b l) ?_ ?_
 ·refine bJ ot λ j ha=>?_;exact af hs2 xF
 rintro _ ⟨j,rfl,ha⟩;refine ae rfl ?_;refine ah _ (IQ ih b l L hL M' j _ Mp _ rfl gl ha.1 hq) ?_;exact jX
theorem PK {f:Nat}(ih:Rol f):∀ b l (x:ac) (r1:ac×aj),x.fAt=r1.1.fAt->∀ (L:List ab),Gd L->L.length<=1000000000->∀ (i:Nat) (I Mp:Int) (q:PE⊕(ac×List ab)),I=i->Gl l->eA L i Mp b l->kF (f+1) b x l=some q ->
  Ev2 (λ n m=>bf n (aG n) r1 m x.Ar x.fOp x.AI x.D' x.A'.Ar x.A'.F' x.A'.If x.A'.Df x.A'.C' x.BY L I Mp 0 0 []) (PLO L Mp b l.length q):=by
 intro b l x r1 Ux L hL M' i I Mp q hI gl h hq;subst hI;have hn0:=h.2.1;have hb:=h.2.2.2.1;have XO:=h.2.2.1;rw [kF] at hq;refine aw ?_;simp only [bf,au,cl];have b1:=(tlS b l).length_le;have eta:ac.mk x.Ar x.fOp x.AI x.D' (am.mk x.A'.Ar x.A'.F' x.A'.If x.A'.Df x.A'.C') x.BY r1.1.fAt=x:=by rw [<- Ux]; exact Aj x
 rw [eta];refine ae rfl (cj ?_);refine bJ (mg hL M' _ h) λ j ha=>?_;by_cases hs:sgB b l [46]=true
 ·rw [if_pos hs] at hq;have hj:=ha.1.1;have hn:=ha.next hL (sg6 hs);have g2:=glt gl hs;refine ae hs ?_;refine ag gb ?_;refine bJ (lu (P:=λ y=>Ev2 (λ n _=>bH n (.mk L y Mp dOk)) _) (tZ hL M' hn.1)) λ j ha=>?_;have hj:=ha.1.1;by_cases hk:(hd b (tl b l)).Ar=1
  ·rw [if_pos hk] at hq;have hn:=ha.next hL O;have g3:=glk g2 hk (by decide);have b2:=(tlS b (tl b l)).length_le;refine ae hk ?_;refine ag gb ?_;refine aa (aO (ih.pl b _ (ac.mk 4 0 (hd b (tl b l)).By [] v0 [x] x.fAt) r1 Ux L hL M' (j+1) ((j:Int)+1) Mp q rfl g3 hn.1 hq) ?_);exact JC
  ·rw [if_neg hk] at hq; cases hq;refine af hk (ah _ vj ?_);rintro _ ⟨j,rfl,hj⟩;exact aa ⟨(by decide:(2:Int)≠0),x,(j:Int),.inr rfl,by omega,by omega⟩
 rw [if_neg hs] at hq;refine af hs ?_;refine bJ ot λ j ha=>?_;by_cases hs2:sgB b l [91]=true
 ·rw [if_pos hs2] at hq;have hj:=ha.1.1;have hi:=ha.inn hL (sg6 hs2);have g2:=glt gl hs2;refine ae hs2 ?_;refine ag gb ?_;refine ag qX ?_;refine tX hq (λ _ hx=>ih.e true _ L hL M' (j+1) ((j:Int)+1) (Mp+1) _ rfl g2 hi hx) ?_ ?_
  ·rintro e z1 I he UP U1 rfl;refine ai (L,I,Mp+1,e.1,e.2,[]) mj ?_;refine ag nD ?_;refine aa ?_;have e5:Mp+1-1=Mp:=Int.add_sub_cancel Mp 1;simp only [e5];refine aw ?_;simp only [bf,au,cl];exact af (rv he) (aa ⟨he,ac.mk 5 0 [] [] v0 [x,z1] r1.1.fAt,I,.inl rfl,UP,by omega⟩)
  intro y l1 j hx h3 hq;have f1:=(fct f).e true _ g2 _ hx;have b2:=f1.2.1.length_le;have b3:=(tlS true (tl b l)).length_le;rcases bg hq with ⟨e,XN,rfl⟩|⟨u,l2,XN,hq⟩
  ·refine ah (λ t=>e.1≠0/\∃ I:Int,t=(L,I,Mp+1,e.1,e.2,[])/\0<=I/\I<=1000000000) (ae Z ?_) ?_
   ·refine ah _ yt ?_;rintro _ ⟨he,I,rfl,UP,U1⟩;exact ov
   rintro _ ⟨he,I,rfl,UP,U1⟩;refine ag nD ?_;refine aa ?_;have e5:Mp+1-1=Mp:=Int.add_sub_cancel Mp 1;simp only [e5];refine aw ?_;simp only [bf,au,cl];exact af (rv he) (aa ⟨he,ac.mk 5 0 [] [] v0 [x,_] r1.1.fAt,I,.inl rfl,UP,by omega⟩)
  ·refine ah (λ t=>∃ j:Nat,t=(L,(j:Int),Mp+1,0,0,[])/\eA L j (Mp+1) true l2/\L.drop j=l2) (ae Z ?_) ?_
   ·refine ah _ yt ?_;exact sX
   rintro _ ⟨j,rfl,h3,h4⟩;have f3:=dc (b:=true) (s:=[93]) f1.2.2 _ XN;have b4:=(f3.2.1.trans (tlS true l1)).length_le;refine ag nD ?_;refine aa ?_;have e5:Mp+1-1=Mp:=Int.add_sub_cancel Mp 1;simp only [e5];refine aO (ih.pl b _ (ac.mk 5 0 [] [] v0 [x,_] x.fAt) r1 Ux L hL M' j _ Mp q rfl f3.2.2 (h3.out hn0 hb h4) hq) ?_;exact JC
 ·rw [if_neg hs2] at hq; cases hq;exact af hs2 (aa ⟨j,rfl,ha.1⟩)
theorem Ts {f:Nat}(ih:Rol f):∀ b l,(hd b l).Ar=3->Rl bF b l (qO (f+1) b l):=by
 intro b l k3 L hL M' i I Mp q hI gl h hq;subst hI;rw [qO] at hq;refine aS ?_;simp only [bF];refine bJ ou λ j ha=>?_;have tk:=tw (ha.1.gd hL);have t1':=tk.1;have t2':=tk.2.2.1 k3;have hj:=ha.1.1;have hn:=ha.next hL O;refine af (show ¬ (hd b l).Ar=2 by omega) (ae k3 ?_);refine ag Jb ?_
 cases ht:kj f (hd b l).By ((hd b l).fAt+1) with
 | none=>rw [ht] at hq; cases hq
 | some y=>
  rw [ht] at hq;have hf:=(fct f).tm _ _ O O  y ht;refine ai _ (ih.tm (hd b l).By ((hd b l).fAt+1) y O O  ht) ?_;rcases y with e|e
  ·cases hq
   refine ai (L,(j:Int),Mp,e.1,e.2,[]) (af hf (ai _ CP (aa Z))) ?_;refine ag gb ?_;exact aa ⟨hf,(j:Int)+1,Z,by omega,by omega⟩
  ·cases hq
   refine ai (L,(j:Int),Mp,0,0,[]) od ?_;refine ag gb ?_;exact aa ⟨Z,j+1,Z,hn.1⟩
theorem Eq {f:Nat}(ih:Rol f):∀ b l,sgB b l [40]=true->Rl bF b l (pb (gj f true (tl b l)) λ e l=>pb (eF true [41] l) λ _ l=>pok e l):=by
 intro b l hs L hL M' i I Mp q hI gl h hq;subst hI;have hn0:=h.2.1;have hb:=h.2.2.2.1;have XO:=h.2.2.1;have b1:=(tlS b l).length_le;have k4:=(mF.1 hs).1;refine aS ?_;simp only [bF,au,cl];refine bJ ou λ j ha=>?_;refine af (show ¬ (hd b l).Ar=2 by omega) (af (show ¬ (hd b l).Ar=3 by omega) (af (show ¬ (hd b l).Ar=1 by omega) ?_));refine bJ ot λ j ha=>?_;have hj:=ha.1.1;have hi:=ha.inn hL (sg6 hs);have g2:=glt gl hs;refine ae hs ?_;refine ag gb ?_;refine ag qX ?_;refine tX hq (λ _ hx=>ih.e true _ L hL M' (j+1) ((j:Int)+1) (Mp+1) _ rfl g2 hi hx) ?_ ?_
 ·rintro e z1 I he UP U1 rfl;refine ai (L,I,Mp+1,e.1,e.2,[]) mj ?_;exact HZ
 intro c l1 j hx h3 hq;have f1:=(fct f).e true _ g2 _ hx;have b2:=f1.2.1.length_le;have b3:=(tlS true (tl b l)).length_le;rcases bg hq with ⟨e,XN,rfl⟩|⟨u,l2,XN,hq⟩
 ·refine ah (λ t=>e.1≠0/\∃ I:Int,t=(L,I,Mp+1,e.1,e.2,[])/\0<=I/\I<=1000000000) (ae Z ?_) ?_
  ·refine ah _ yt ?_;rintro _ ⟨he,I,rfl,UP,U1⟩;exact ov
  rintro _ ⟨he,I,rfl,UP,U1⟩;exact HZ
 ·refine ah (λ t=>∃ j:Nat,t=(L,(j:Int),Mp+1,0,0,[])/\eA L j (Mp+1) true l2/\L.drop j=l2) (ae Z ?_) ?_
  ·refine ah _ yt ?_;exact sX
  exact GL
theorem wa.up {α:Type}{L:List ab}{Mp:Int}{b:Bool}{N M:Nat}{q:PE⊕(α×List ab)}{z:α×aj}(h:wa L Mp b N q z)(hNM:N<=M):wa L Mp b M q z:=by
 rcases q with e|⟨x,l⟩
 ·obtain ⟨he,I,h1,h2,h3⟩:=h;exact ⟨he,I,h1,h2,by omega⟩
 ·exact h
theorem jx {L:List ab}{e:PE}(he:e.1≠0)(I Mp:Int):Ev2 (λ n _=>bh n (.mk L I Mp (eD e))) (λ z=>z.2=.mk L I Mp (eD e)):=by
 refine aS ?_;simp only [bh,au,cl];exact ae (lj he) (aa Z)
theorem OT {L:List ab}{e:PE}(he:e.1≠0)(en:Bk)(out:List ac)(I Mp:Int) :
  Ev2 (λ n m=>bw n (aG n) en m out L I Mp e.1 e.2 []) (·=(out,L,I,Mp,e.1,e.2,[])):=by
 refine aw ?_;simp only [bw,au,cl];exact CZ
theorem OL {L:List ab}{e:PE}(he:e.1≠0)(out:List ac)(I Mp:Int) :
  Ev2 (λ n m=>bp n (ce n) (bh n) m out L I Mp e.1 e.2 []) (·=(out,L,I,Mp,e.1,e.2,[])):=by
 refine aw ?_;simp only [bp,au,cl];exact CZ
theorem T5 {L:List ab}(hL:Gd L)(M':L.length<=1000000000){en:Bk}{out:List ac}{i:Nat}{Mp:Int}{l:List ab}(N:Nat)(h:eA L i Mp true l)(hs:sgB true l en=true) :
  Ev2 (λ n m=>bw n (aG n) en m out L (i:Int) Mp 0 0 []) (ILO L Mp en out N (.inr ([],tl true l))):=by
 refine aw ?_;simp only [bw,au,cl];exact Ik
theorem Ue {L:List ab}(hL:Gd L)(M':L.length<=1000000000){out:List ac}{i:Nat}{Mp:Int}{l:List ab}(N:Nat)(h:eA L i Mp true l)(hs:sgB true l [125]=true) :
  Ev2 (λ n m=>bp n (ce n) (bh n) m out L (i:Int) Mp 0 0 []) (ILO L Mp [125] out N (.inr ([],tl true l))):=by
 refine aw ?_;simp only [bp,au,cl];exact Ik
theorem pQ {f:Nat}(ih:Rol f):∀ b l,Rl bh b l (gj f b l):=by
 intro b l L hL M' i I Mp q hI gl h hq;refine aS ?_;simp only [bh,au,cl];refine af ld (ah _ (ih.e b l L hL M' i I Mp q hI gl h hq) ?_);exact jX
theorem Ud {f:Nat}(ih:Rol f):∀ (en:Bk) (l:List ab) (out:List ac),en≠[44]->Gl l->out.length+l.length<=1000000000->∀ (L:List ab),Gd L->L.length<=1000000000->∀ (i:Nat) (I Mp:Int) (q:PE⊕(List ac×List ab)),I=i->eA L i Mp true l->iF (f+1) en l=some q ->
  Ev2 (λ n m=>bw n (aG n) en m out L I Mp 0 0 []) (ILO L Mp en out l.length q):=by
 intro en l out Zj gl Ul L hL M' i I Mp q hI h hq;subst hI;have gt:=gll (b:=true) gl;rw [iF] at hq;refine aw ?_;simp only [bw,au,cl];refine ah (λ t=>∃ j:Nat,t=(!sgB true l en,L,(j:Int),Mp,0,0,[])/\RAt L j Mp true l) (ae rfl ?_) ?_
 ·refine bJ (mg hL M' _ h) λ j ha=>?_;exact uN
 rintro _ ⟨j,rfl,ha⟩;by_cases hs:sgB true l en=true
 ·exact G7
 rw [if_neg hs] at hq;refine ae sb ?_;rcases bg hq with ⟨e,hx,rfl⟩|⟨x,l1,hx,hq⟩
 ·refine ah (λ t=>e.1≠0/\∃ (ks:List ac) (I:Int),t=(ks,L,I,Mp,e.1,e.2,[])/\0<=I/\I<=1000000000+(l.length:Int)) ?_ ?_
  ·refine ah _ (ih.e true l L hL M' j _ Mp _ rfl gl ha.1 hx) ?_;rintro ⟨z1,z2⟩ ⟨he,I,h2,UP,U1⟩
   cases h2
   exact yl
  rintro _ ⟨he,ks,I,rfl,UP,U1⟩;refine aO (OT he en ks I Mp) ?_;exact Cl
 ·have f1:=(fct f).e true l gl _ hx;have b2:=f1.2.1.length_le;have b4:=gll (b:=true) f1.2.2;by_cases hc:sgB true l1 [44]=true
  ·rw [if_pos hc] at hq;have UK:¬ sgB true l1 en=true:=LU hc (λ k=>Zj k.symm);have g2:=glt f1.2.2 hc;refine ah (λ t=>∃ j:Nat,t=(out++[x],L,(j:Int),Mp,0,0,[])/\eA L j Mp true (tl true l1)) ?_ ?_
   ·refine bJ (ih.e true l L hL M' j _ Mp _ Z gl ha.1 hx) λ j h3=>?_;refine ag cy ?_;refine ah (λ t=>∃ j:Nat,t=(true,L,(j:Int),Mp,0,0,[])/\RAt L j Mp true l1) (ae Z ?_) ?_
    ·refine bJ pR λ j ha=>?_;exact aa ⟨j,by rw [show sgB true l1 en=false by simpa using UK]; rfl,ha⟩
    rintro _ ⟨j,rfl,ha⟩;refine ae rfl ?_;refine ah _ (iR hL M' [44] (q:=.inr ((),tl true l1)) ha.1 (by unfold eF; rw [if_pos hc]; rfl)) ?_;rintro _ ⟨j,rfl,h3,h4⟩;exact lm
   rintro _ ⟨j,rfl,h3⟩;rcases bg hq with ⟨e,hy,rfl⟩|⟨ks,l2,hy,hq⟩
   ·refine aO (ih.i en _ (out++[x]) Zj g2 mf L hL M' j _ Mp _ rfl h3 hy) ?_;rintro _ ⟨he,ks,I,rfl,UP,U1⟩;exact ⟨he,ks,I,rfl,UP,by omega⟩
   ·cases hq
    refine aO (ih.i en _ (out++[x]) Zj g2 mf L hL M' j _ Mp _ rfl h3 hy) ?_;rintro _ ⟨j,l'',rfl,ha,hs,ht⟩;exact ⟨j,l'',by rw [List.append_assoc]; rfl,ha,hs,ht⟩
  ·rw [if_neg hc] at hq;by_cases he2:sgB true l1 en=true
   ·refine ah (λ t=>∃ j:Nat,t=(out++[x],L,(j:Int),Mp,0,0,[])/\eA L j Mp true l1) ?_ ?_
    ·refine bJ (ih.e true l L hL M' j _ Mp _ Z gl ha.1 hx) λ j h3=>?_;refine ag cy ?_;refine ah (λ t=>∃ j:Nat,t=(false,L,(j:Int),Mp,0,0,[])/\RAt L j Mp true l1) (ae Z ?_) ?_
     ·exact KH
     exact L8
    rintro _ ⟨j,rfl,h3⟩;have hq:pb (eF true en l1) (λ _ l=>pok [x] l)=some q:=hq;unfold eF at hq;rw [if_pos he2] at hq
    cases hq
    refine aO (T5 hL M' l.length h3 he2) ?_;rintro _ ⟨j,l'',rfl,ha,hs,ht⟩;exact ⟨j,l'',by rw [List.append_nil],ha,hs,ht⟩
   ·have hq:pb (eF true en l1) (λ _ l=>pok [x] l)=some q:=hq;unfold eF at hq;rw [if_neg he2] at hq
    cases hq
    refine ah (λ t=>((2,(hd true l1).fAt):PE).1≠0/\∃ (ks:List ac) (I:Int),t=(ks,L,I,Mp,2,(hd true l1).fAt,[])/\0<=I/\I<=1000000000+(l.length:Int)) ?_ ?_
    ·refine bJ (ih.e true l L hL M' j _ Mp _ Z gl ha.1 hx) λ j h3=>?_;refine ag cy ?_;refine ah (λ t=>∃ j:Nat,t=(true,L,(j:Int),Mp,0,0,[])/\RAt L j Mp true l1) (ae Z ?_) ?_
     ·refine bJ pR λ j ha=>?_;exact aa ⟨j,by rw [show sgB true l1 en=false by simpa using he2]; rfl,ha⟩
     rintro _ ⟨j,rfl,ha⟩;refine ae rfl ?_;refine ah _ (iR hL M' [44] (q:=.inl (2,(hd true l1).fAt)) ha.1 (by unfold eF; rw [if_neg hc]; rfl)) ?_;rintro _ ⟨he,I,rfl,UP,U1⟩;exact Ba
    rintro _ ⟨he,ks,I,rfl,UP,U1⟩;refine aO (OT (e:=(2,(hd true l1).fAt)) he en ks I Mp) ?_;exact Cl
theorem wK {f:Nat}(ih:Rol f):∀ (en:Bk) l,en≠[44]->RlC (λ n p=>fc n p en) l (iF f en l):=by
 intro en l Zj L hL M' i I Mp b q hI hn0 hb gl h hq;subst hI;have XO:=h.2.2.1;refine aS ?_;simp only [fc,au,cl];refine ag qX ?_;refine ah _ (aN (ih.i en l [] Zj gl Bl L hL M' i _ (Mp+1) q rfl h hq)) ?_;rcases q with e|⟨ks,l'⟩
 ·rintro _ ⟨he,ks,I,rfl,UP,U1⟩;refine ag nD ?_;refine ai (L,I,Mp+1-1,e.1,e.2,[]) mj (aa ⟨he,I,by show aj.mk L I (Mp+1-1) (eD e)=_; rw [Int.add_sub_cancel],UP,U1⟩)
 ·rintro _ ⟨j,l'',rfl,ha,hs,rfl⟩;have hj:=ha.1.1;have hn:=ha.next hL (sg6 hs);exact IY
theorem S6 {f:Nat}(ih:Rol f):∀ b l,(hd b l).Ar=1->∀ (L:List ab),Gd L->L.length<=1000000000->∀ (j:Nat) (Mp:Int) (q:PE⊕(ac×List ab)),Gl l->RAt L j Mp b l->nY (f+1) b l=some q->Ev2 (λ n _=>fP n (.mk L (j:Int) Mp dOk) (hd b l)) (wa L Mp b l.length q):=by
 intro b l k1 L hL M' j Mp q gl ha hq;have hj:=ha.1.1;have hn:=ha.next hL O;have hn0:=ha.1.2.1;have hb:=ha.1.2.2.2.1;have XO:=ha.1.2.2.1;have g1:=glk gl k1 (by decide);have b1:=(tlS b l).length_le;have b2:=(tlS b (tl b l)).length_le;rw [nY] at hq;refine aS ?_;simp only [fP];by_cases s1:(hd b l).By=[110,117,108,108]
 ·rw [if_pos s1] at hq; cases hq;refine ae s1 ?_;exact CJ
 rw [if_neg s1] at hq;refine af s1 ?_;by_cases s2:(hd b l).By=[116,114,117,101]
 ·rw [if_pos s2] at hq; cases hq;refine ai true xe (ae rfl ?_);refine ag gb ?_;exact ai 1 xe KN
 rw [if_neg s2] at hq;by_cases s3:(hd b l).By=[102,97,108,115,101]
 ·rw [if_pos s3] at hq; cases hq;refine ai true (af s2 (aa (decide_eq_true s3))) (ae rfl ?_);refine ag gb ?_;exact ai 0 (af s2 (aa rfl)) KN
 rw [if_neg s3] at hq;refine ai false (af s2 (aa (decide_eq_false s3))) (af ld (ai _ (ax (Ib _) rfl) ?_));by_cases s4:lU (hd b l).By=true
 ·rw [if_pos s4] at hq; cases hq;refine ae s4 (ah _ vj ?_);exact xo
 rw [if_neg s4] at hq;refine af s4 ?_;refine ag gb ?_;refine bJ (lu (P:=λ y=>Ev2 (λ n _=>aX n (.mk L y Mp dOk) [40]) _) (mg hL M' [40] hn.1)) λ j ha=>?_;have hj:=ha.1.1;by_cases s5:sgB b (tl b l) [40]=true
 ·rw [if_pos s5] at hq;have hi:=ha.inn hL (sg6 s5);have g2:=glt g1 s5;refine af (by simp [s5]) ?_;refine ag gb ?_;rcases bg hq with ⟨e,hx,rfl⟩|⟨ks,l1,hx,hq⟩
  ·refine ah _ H0 ?_;rintro ⟨z1,z2⟩ ⟨he,I,h2,UP,U1⟩
   cases h2
   exact ov
  ·refine bJ H0 λ j h3=>?_;exact kS
 ·rw [if_neg s5] at hq; cases hq;exact ae (by simpa using s5) (aa ⟨rfl,j,rfl,ha.1⟩)
theorem TY {f:Nat}(ih:Rol f):∀ (l:List ab) (out:List ac),Gl l->out.length+2*l.length<=3000000000->∀ (L:List ab),Gd L->L.length<=1000000000->∀ (i:Nat) (I Mp:Int) (q:PE⊕(List ac×List ab)),I=i->eA L i Mp true l->pX (f+1) l=some q ->
  Ev2 (λ n m=>bp n (ce n) (bh n) m out L I Mp 0 0 []) (ILO L Mp [125] out l.length q):=by
 intro l out gl Ul L hL M' i I Mp q hI h hq;subst hI;have gt:=gll (b:=true) gl;rw [pX] at hq;refine aw ?_;simp only [bp,au,cl];refine ah (λ t=>∃ j:Nat,t=(!sgB true l [125],L,(j:Int),Mp,0,0,[])/\RAt L j Mp true l) (ae rfl ?_) ?_
 ·refine bJ (mg hL M' _ h) λ j ha=>?_;exact uN
 rintro _ ⟨j,rfl,ha⟩;by_cases hs:sgB true l [125]=true
 ·exact G7
 rw [if_neg hs] at hq;refine ae sb ?_;rcases bg hq with ⟨e,hx,rfl⟩|⟨x,l1,hx,hq⟩
 ·refine ah (λ t=>e.1≠0/\∃ (ks:List ac) (I:Int),t=(ks,L,I,Mp,e.1,e.2,[])/\0<=I/\I<=1000000000+(l.length:Int)) ?_ ?_
  ·refine ah _ (ih.k l L hL M' j _ Mp _ rfl gl ha.1 hx) ?_;rintro ⟨z1,z2⟩ ⟨he,I,h2,UP,U1⟩
   cases h2
   refine ag cy ?_;refine ai (L,I,Mp,e.1,e.2,[]) mj ?_;refine ah _ (jx he I Mp) ?_;rintro ⟨y1,y2⟩ hy
   cases hy
   exact yl
  exact Dg
 ·have f1:=(fct f).k l gl _ hx;have b2:=f1.2.1.length_le;rcases bg hq with ⟨e,hn,rfl⟩|⟨u,l2,hn,hq⟩
  ·refine ah (λ t=>e.1≠0/\∃ (ks:List ac) (I:Int),t=(ks,L,I,Mp,e.1,e.2,[])/\0<=I/\I<=1000000000+(l.length:Int)) ?_ ?_
   ·refine bJ (ih.k l L hL M' j _ Mp _ Z gl ha.1 hx) λ j h3=>?_;refine ag cy ?_;refine ah (λ t=>e.1≠0/\∃ I:Int,t=(L,I,Mp,e.1,e.2,[])/\0<=I/\I<=1000000000) (ae Z ?_) ?_
    ·refine ah _ uU ?_;rintro _ ⟨he,I,rfl,UP,U1⟩;exact ov
    rintro _ ⟨he,I,rfl,UP,U1⟩;refine ah _ (jx he I Mp) ?_;rintro ⟨y1,y2⟩ hy
    cases hy
    exact yl
   exact Dg
  ·have f2:=dc (b:=true) (s:=[61]) f1.2.2 _ hn;have b3:=(f2.2.1.trans (tlS true l1)).length_le;rcases bg hq with ⟨e,hv,rfl⟩|⟨y,l3,hv,hq⟩
   ·refine ah (λ t=>e.1≠0/\∃ (ks:List ac) (I:Int),t=(ks,L,I,Mp,e.1,e.2,[])/\0<=I/\I<=1000000000+(l.length:Int)) ?_ ?_
    ·refine bJ (ih.k l L hL M' j _ Mp _ Z gl ha.1 hx) λ j h3=>?_;refine ag cy ?_;refine ah (λ t=>∃ j:Nat,t=(L,(j:Int),Mp,0,0,[])/\eA L j Mp true l2) (ae Z ?_) ?_
     ·refine ah _ uU ?_;rintro _ ⟨j,rfl,h3,h4⟩;exact lm
     rintro _ ⟨j,rfl,h3⟩;refine ah _ yS ?_;rintro ⟨z1,z2⟩ ⟨he,I,h2,UP,U1⟩
     cases h2
     exact yl
    exact Dg
   ·have f3:=(fct f).e true l2 f2.2.2 _ hv;have b4:=(f3.2.1.trans (tlS true l2)).length_le;have b5:=gll (b:=true) f3.2.2;by_cases hc:sgB true l3 [44]=true
    ·rw [if_pos hc] at hq;have UK:¬ sgB true l3 [125]=true:=LU hc (by decide);have g2:=glt f3.2.2 hc;refine ah (λ t=>∃ j:Nat,t=((out++[x])++[y],L,(j:Int),Mp,0,0,[])/\eA L j Mp true (tl true l3)) ?_ ?_
     ·refine bJ (ih.k l L hL M' j _ Mp _ Z gl ha.1 hx) λ j h3=>?_;refine ag cy ?_;refine ah (λ t=>∃ j:Nat,t=(L,(j:Int),Mp,0,0,[])/\eA L j Mp true l2) (ae Z ?_) ?_
      ·refine ah _ uU ?_;rintro _ ⟨j,rfl,h3,h4⟩;exact lm
      rintro _ ⟨j,rfl,h3⟩;refine bJ yS λ j h3=>?_;refine ag cy ?_;refine ah (λ t=>∃ j:Nat,t=(true,L,(j:Int),Mp,0,0,[])/\RAt L j Mp true l3) (ae rfl ?_) ?_
      ·refine bJ pR λ j ha=>?_;exact aa ⟨j,by rw [show sgB true l3 [125]=false by simpa using UK]; rfl,ha⟩
      rintro _ ⟨j,rfl,ha⟩;refine ae rfl ?_;refine ah _ (iR hL M' [44] (q:=.inr ((),tl true l3)) ha.1 (by unfold eF; rw [if_pos hc]; rfl)) ?_;rintro _ ⟨j,rfl,h3,h4⟩;exact lm
     rintro _ ⟨j,rfl,h3⟩;rcases bg hq with ⟨e,hy,rfl⟩|⟨ks,l4,hy,hq⟩
     ·refine aO (ih.t _ ((out++[x])++[y]) g2 mf L hL M' j _ Mp _ rfl h3 hy) ?_;rintro _ ⟨he,ks,I,rfl,UP,U1⟩;exact ⟨he,ks,I,rfl,UP,by omega⟩
     ·cases hq
      refine aO (ih.t _ ((out++[x])++[y]) g2 mf L hL M' j _ Mp _ rfl h3 hy) ?_;rintro _ ⟨j,l'',rfl,ha,hs,ht⟩;exact ⟨j,l'',by rw [List.append_assoc,List.append_assoc]; rfl,ha,hs,ht⟩
    ·rw [if_neg hc] at hq;by_cases he2:sgB true l3 [125]=true
     ·refine ah (λ t=>∃ j:Nat,t=((out++[x])++[y],L,(j:Int),Mp,0,0,[])/\eA L j Mp true l3) ?_ ?_
      ·refine bJ (ih.k l L hL M' j _ Mp _ Z gl ha.1 hx) λ j h3=>?_;refine ag cy ?_;refine ah (λ t=>∃ j:Nat,t=(L,(j:Int),Mp,0,0,[])/\eA L j Mp true l2) (ae Z ?_) ?_
       ·refine ah _ uU ?_;rintro _ ⟨j,rfl,h3,h4⟩;exact lm
       rintro _ ⟨j,rfl,h3⟩;refine bJ yS λ j h3=>?_;refine ag cy ?_;refine ah (λ t=>∃ j:Nat,t=(false,L,(j:Int),Mp,0,0,[])/\RAt L j Mp true l3) (ae rfl ?_) ?_
       ·exact KH
       exact L8
      rintro _ ⟨j,rfl,h3⟩;have hq:pb (eF true [125] l3) (λ _ l=>pok [x,y] l)=some q:=hq;unfold eF at hq;rw [if_pos he2] at hq
      cases hq
      refine aO (Ue hL M' l.length h3 he2) ?_;rintro _ ⟨j,l'',rfl,ha,hs,ht⟩;exact ⟨j,l'',by rw [List.append_nil,List.append_assoc]; rfl,ha,hs,ht⟩
     ·have hq:pb (eF true [125] l3) (λ _ l=>pok [x,y] l)=some q:=hq;unfold eF at hq;rw [if_neg he2] at hq
      cases hq
      refine ah (λ t=>((2,(hd true l3).fAt):PE).1≠0/\∃ (ks:List ac) (I:Int),t=(ks,L,I,Mp,2,(hd true l3).fAt,[])/\0<=I/\I<=1000000000+(l.length:Int)) ?_ ?_
      ·refine bJ (ih.k l L hL M' j _ Mp _ Z gl ha.1 hx) λ j h3=>?_;refine ag cy ?_;refine ah (λ t=>∃ j:Nat,t=(L,(j:Int),Mp,0,0,[])/\eA L j Mp true l2) (ae Z ?_) ?_
       ·refine ah _ uU ?_;rintro _ ⟨j,rfl,h3,h4⟩;exact lm
       rintro _ ⟨j,rfl,h3⟩;refine bJ yS λ j h3=>?_;refine ag cy ?_;refine ah (λ t=>∃ j:Nat,t=(true,L,(j:Int),Mp,0,0,[])/\RAt L j Mp true l3) (ae rfl ?_) ?_
       ·refine bJ pR λ j ha=>?_;exact aa ⟨j,by rw [show sgB true l3 [125]=false by simpa using he2]; rfl,ha⟩
       rintro _ ⟨j,rfl,ha⟩;refine ae rfl ?_;refine ah _ (iR hL M' [44] (q:=.inl (2,(hd true l3).fAt)) ha.1 (by unfold eF; rw [if_neg hc]; rfl)) ?_;rintro _ ⟨he,I,rfl,UP,U1⟩;exact Ba
      rintro _ ⟨he,ks,I,rfl,UP,U1⟩;refine aO (OL (e:=(2,(hd true l3).fAt)) he ks I Mp) ?_;exact Cl
theorem T4 {f:Nat}(ih:Rol f):∀ b l,Rl bF b l (mr (f+1) b l):=by
 intro b l L hL M' i I Mp q hI gl h hq;rw [mr] at hq;by_cases k3:(hd b l).Ar=3
 ·rw [if_neg O,if_pos k3] at hq;exact ih.s b l k3 L hL M' i I Mp q hI gl h hq
 by_cases s1:sgB b l [40]=true
 ·have k4:=(mF.1 s1).1;rw [if_neg O,if_neg k3,if_neg O,if_pos s1] at hq;exact Eq ih b l s1 L hL M' i I Mp q hI gl h hq
 subst hI;have hn0:=h.2.1;have hb:=h.2.2.2.1;have XO:=h.2.2.1;have b1:=(tlS b l).length_le;refine aS ?_;simp only [bF];refine bJ ou λ j ha=>?_;have tk:=tw (ha.1.gd hL);have t1':=tk.1;have t2':=tk.2.1;have hj:=ha.1.1;by_cases k2:(hd b l).Ar=2
 ·rw [if_pos k2] at hq;have hn:=ha.next hL O;refine ae k2 (ai _ (M9 _ (show (hd b l).By.length<=1000000000 by omega) (tk.2.2.2 k2)) ?_);rw [Pg _ (tk.2.2.2 k2)];by_cases hz:(o9 (hd b l).By).2=0
  ·rw [if_pos hz] at hq; cases hq;refine ai (L,(j:Int),Mp,0,0,[]) (ae hz (aa rfl)) ?_;exact CJ
  ·rw [if_neg hz] at hq; cases hq;refine ai (L,(j:Int),Mp,(o9 (hd b l).By).2,(hd b l).fAt,[]) (af hz (ai _ CP (aa rfl))) ?_;refine ag gb ?_;exact ai _ pt (aa ⟨hz,(j:Int)+1,rfl,by omega,by omega⟩)
 rw [if_neg k2,if_neg k3] at hq;refine af k2 (af k3 ?_);by_cases k1:(hd b l).Ar=1
 ·rw [if_pos k1] at hq;refine ae k1 (ah _ (ih.n b l k1 L hL M' j Mp q gl ha hq) ?_);exact jX
 rw [if_neg k1,if_neg s1] at hq;refine af k1 ?_;refine bJ ot λ j ha=>?_;refine af s1 ?_;refine bJ ot λ j ha=>?_;by_cases s2:sgB b l [91]=true
 ·rw [if_pos s2] at hq;have hj:=ha.1.1;have hi:=ha.inn hL (sg6 s2);have g2:=glt gl s2;refine ae s2 (ah (wa L Mp b l.length q) (aS ?_) (λ z hz=>aa hz));simp only [iZ];refine ag gb ?_;refine ag qX ?_;refine bJ GX λ j ha=>?_;have hj:=ha.1.1;have e5:Mp+1-1=Mp:=Int.add_sub_cancel Mp 1;refine ag nD ?_;by_cases hw:wdB true (tl b l) [102,111,114]=true
  ·rw [if_pos hw] at hq;refine ae hw ?_;simp only [e5];refine ah _ (ih.lo (hd b l) 12 [93] (tl b l) hw (.inl ⟨rfl,rfl⟩) L hL M' j _ Mp b q rfl hn0 hb g2 ha.1 hq) ?_;rintro ⟨z1,z2⟩ hz;exact aa (hz.up b1)
  ·rw [if_neg hw] at hq;refine af hw ?_;simp only [e5];rcases bg hq with ⟨e,hx,rfl⟩|⟨ks,l1,hx,hq⟩
   ·refine ah _ Lq ?_;rintro ⟨z1,z2⟩ ⟨he,I,h2,UP,U1⟩
    cases h2
    exact ov
   ·refine bJ Lq λ j h3=>?_;exact kS
 rw [if_neg s2] at hq;refine af s2 ?_;refine bJ ot λ j ha=>?_;by_cases s3:sgB b l [123]=true
 ·rw [if_pos s3] at hq;have hj:=ha.1.1;have hi:=ha.inn hL (sg6 s3);have g2:=glt gl s3;refine ae s3 (ah (wa L Mp b l.length q) (aS ?_) (λ z hz=>aa hz));simp only [ia,au,cl];refine ag gb ?_;refine ag qX ?_;refine bJ GX λ j ha=>?_;have hj:=ha.1.1;have e5:Mp+1-1=Mp:=Int.add_sub_cancel Mp 1;by_cases hw:wdB true (tl b l) [102,111,114]=true
  ·rw [if_pos hw] at hq;refine ae hw ?_;refine ag nD ?_;simp only [e5];refine ah _ (ih.lo (hd b l) 13 [125] (tl b l) hw (.inr ⟨rfl,rfl⟩) L hL M' j _ Mp b q rfl hn0 hb g2 ha.1 hq) ?_;rintro ⟨z1,z2⟩ hz;exact aa (hz.up b1)
  ·rw [if_neg hw] at hq;refine af hw ?_;rcases bg hq with ⟨e,hx,rfl⟩|⟨ks,l1,hx,hq⟩
   ·refine ah _ LW ?_;rintro _ ⟨he,ks,I,rfl,UP,U1⟩;refine ag nD ?_;refine ai (L,I,Mp+1-1,e.1,e.2,[]) mj (aa ⟨he,I,by show aj.mk L I (Mp+1-1) (eD e)=_; rw [Int.add_sub_cancel],UP,by omega⟩)
   ·refine ah _ LW ?_;rintro _ ⟨j,l'',rfl,ha,hs,rfl⟩;have hj:=ha.1.1;have hn:=ha.next hL (sg6 hs)
    cases hq
    exact IY
 rw [if_neg s3] at hq; cases hq;refine af s3 (ah _ vj ?_);exact xo
theorem Tt {f:Nat}(ih:Rol f):∀ l,Rl ce true l (nV (f+1) l):=by
 intro l L hL M' i I Mp q hI gl h hq;subst hI;rw [nV] at hq;refine aS ?_;simp only [ce];refine bJ ou λ j ha=>?_;have hj:=ha.1.1;by_cases k1:(hd true l).Ar=1
 ·rw [if_pos k1] at hq; cases hq;have hn:=ha.next hL O;refine ae k1 ?_;exact CJ
 rw [if_neg k1] at hq;refine af k1 ?_;by_cases k3:(hd true l).Ar=3
 ·rw [if_pos k3] at hq;refine ai (true,L,(j:Int),Mp,0,0,[]) (ae k3 (aa rfl)) (ae rfl ?_);refine ah _ (ih.s true l k3 L hL M' j _ Mp q rfl gl ha.1 hq) ?_;exact jX
 rw [if_neg k3] at hq;refine ah (λ t=>∃ j:Nat,t=(sgB true l [40],L,(j:Int),Mp,0,0,[])/\RAt L j Mp true l) (af k3 ?_) ?_
 ·refine bJ ot λ j ha=>?_;exact uN
 rintro _ ⟨j,rfl,ha⟩;by_cases s1:sgB true l [40]=true
 ·rw [if_pos s1] at hq;refine ae s1 ?_;refine ah _ (Eq ih true l s1 L hL M' j _ Mp q rfl gl ha.1 hq) ?_;exact jX
 ·rw [if_neg s1] at hq; cases hq;refine af s1 (ah _ vj ?_);exact xo
theorem Q5 {f:Nat}(ih:Rol f):∀ (tk:ab) (k:Int) (en:Bk) l,wdB true l [102,111,114]=true->(k=12/\en=[93])\/(k=13/\en=[125])->RlC (λ n p=>eJ n p tk en) l (mq (f+1) tk.fAt k (tl true l)):=by
 intro tk k en l hw hke L hL M' i I Mp b q hI hn0 hb gl h hq;subst hI;have XO:=h.2.2.1;have ZB:=h.1;have gt:=gll (b:=true) gl;rw [mq] at hq;have Zj:(if k=13 then [125] else [93]:Bk)=en:=by rcases hke with ⟨rfl,rfl⟩|⟨rfl,rfl⟩ <;> rfl
 have WA:en=[125]↔k=13:=by rcases hke with ⟨rfl,rfl⟩|⟨rfl,rfl⟩ <;> decide
 rw [Zj] at hq;refine aS ?_;simp only [eJ,au,cl];refine ai k (av (λ h=>aa (WA.1 h).symm) (λ h=>aa (by rcases hke with ⟨rfl,rfl⟩|⟨rfl,rfl⟩; rfl; exact absurd rfl h))) ?_;refine ag qX ?_;refine bJ ou λ j ha=>?_;have hj:=ha.1.1;have hn:=ha.next hL (wd6 hw);have g1:=glw gl hw;refine ag gb ?_;rcases bg hq with ⟨e,hx,rfl⟩|⟨v,l1,hx,hq⟩
 ·refine ah _ I9 ?_;rintro ⟨z1,z2⟩ ⟨he,I,h2,UP,U1⟩
  cases h2
  refine ah (λ t=>∃ (w1 w2:Bk),t=(w1,w2,L,I,Mp+1,e.1,e.2,[])) (ai (false,L,I,Mp+1,e.1,e.2,[]) mj (af ld (aa ⟨_,_,rfl⟩))) ?_;rintro _ ⟨w1,w2,rfl⟩;refine ai (L,I,Mp+1,e.1,e.2,[]) Jy ?_;refine ag B6 ?_;have hI2:0<=I+1/\I+1<=1000000001:=by omega
  refine ah _ (jx he (I+1) (Mp+1)) ?_;rintro ⟨y1,y2⟩ hy
  cases hy
  generalize I+1=I2 at hI2 ⊢;refine ag cy ?_;refine ai (L,I2,Mp+1,e.1,e.2,[]) mj ?_;refine ah _ (jx he I2 (Mp+1)) ?_;rintro ⟨y1,y2⟩ hy
  cases hy
  exact A9
 ·refine bJ I9 λ j h3=>?_;have f1:=pK (b:=true) g1 _ hx;have gl1:Gl l1:=f1.2.2;have b1:=(f1.2.1.trans (tlS true _)).length_le;rcases bg hq with ⟨e,hy,rfl⟩|⟨nk,l2,hy,hq⟩
  ·refine ah (λ t=>e.1≠0/\∃ (w1 w2:Bk) (I:Int),t=(w1,w2,L,I,Mp+1,e.1,e.2,[])/\0<=I/\I<=1000000000) ?_ ?_
   ·refine ah (λ t=>∃ j:Nat,t=(sgB true l1 [44],L,(j:Int),Mp+1,0,0,[])/\RAt L j (Mp+1) true l1) (ae Z ?_) ?_
    ·refine bJ pR λ j ha=>?_;exact uN
    rintro _ ⟨j,rfl,ha⟩;have hj:=ha.1.1;by_cases hc:sgB true l1 [44]=true
    ·rw [if_pos hc] at hy;have hn:=ha.next hL (sg6 hc);refine ae hc ?_;refine ag gb ?_;rcases bg hy with ⟨e,hz,hee⟩|⟨v2,l3,hz,hee⟩
     ·cases hee
      refine ah _ Ll ?_;rintro ⟨z1,z2⟩ ⟨he,I,h2,UP,U1⟩
      cases h2
      exact aa ⟨he,_,_,I,Z,UP,by omega⟩
     ·cases hee
    ·rw [if_neg hc] at hy; cases hy
   rintro _ ⟨he,w1,w2,I,rfl,UP,U1⟩;refine ai (L,I,Mp+1,e.1,e.2,[]) Jy ?_;refine ag B6 ?_;have hI2:0<=I+1/\I+1<=1000000001:=by omega
   refine ah _ (jx he (I+1) (Mp+1)) ?_;rintro ⟨y1,y2⟩ hy
   cases hy
   generalize I+1=I2 at hI2 ⊢;refine ag cy ?_;refine ai (L,I2,Mp+1,e.1,e.2,[]) mj ?_;refine ah _ (jx he I2 (Mp+1)) ?_;rintro ⟨y1,y2⟩ hy
   cases hy
   exact A9
  ·have gl2:Gl l2:=by
    by_cases hc:sgB true l1 [44]=true
    ·rw [if_pos hc] at hy;rcases bg hy with ⟨e,hz,hee⟩|⟨v2,l3,hz,hee⟩
     ·cases hee
     ·cases hee; exact (pK (glt gl1 hc) _ hz).2.2
    ·rw [if_neg hc] at hy; cases hy; exact gl1
   refine ah (λ t=>∃ j:Nat,t=(nk.1,nk.2,L,(j:Int),Mp+1,0,0,[])/\eA L j (Mp+1) true l2) ?_ ?_
   ·refine ah (λ t=>∃ j:Nat,t=(sgB true l1 [44],L,(j:Int),Mp+1,0,0,[])/\RAt L j (Mp+1) true l1) (ae Z ?_) ?_
    ·refine bJ pR λ j ha=>?_;exact uN
    rintro _ ⟨j,rfl,ha⟩;have hj:=ha.1.1;by_cases hc:sgB true l1 [44]=true
    ·rw [if_pos hc] at hy;have hn:=ha.next hL (sg6 hc);refine ae hc ?_;refine ag gb ?_;rcases bg hy with ⟨e,hz,hee⟩|⟨v2,l3,hz,hee⟩
     ·cases hee
     ·refine bJ Ll λ j h3=>?_
      cases hee
      exact lm
    ·rw [if_neg hc] at hy; cases hy;exact af hc (aa ⟨j,rfl,ha.1⟩)
   rintro _ ⟨j,rfl,h3⟩;rcases bg hq with ⟨e,hx,rfl⟩|⟨u,l3,hx,hq⟩
   ·unfold zK at hx;by_cases hc:wdB true l2 [105,110]=true
    ·rw [if_pos hc] at hx; cases hx
    rw [if_neg hc] at hx; cases hx;refine ah (λ t=>((2,(hd true l2).fAt):PE).1≠0/\∃ (I:Int),t=(L,I,Mp+1,2,(hd true l2).fAt,[])/\0<=I/\I<=1000000000) ?_ ?_
    ·refine ah (λ t=>∃ j:Nat,t=(!wdB true l2 [105,110],L,(j:Int),Mp+1,0,0,[])/\RAt L j (Mp+1) true l2) (ae Z ?_) ?_
     ·exact ya
     rintro _ ⟨j,rfl,ha⟩;refine ae (by simpa using hc) (ah _ vj ?_);exact xo
    obtain ⟨e,he2⟩:∃ e:PE,e=(2,(hd true l2).fAt):=⟨_,rfl⟩
    rw [<- he2];rintro _ ⟨he,I,hI,UP,U1⟩;rw [show (2,(hd true l2).fAt,([]:Bk))=(e.1,e.2,[]) by rw [he2]] at hI
    cases hI
    refine ag B6 ?_;have hI2:0<=I+1/\I+1<=1000000001:=by omega
    refine ah _ (jx he (I+1) (Mp+1)) ?_;rintro ⟨y1,y2⟩ hy
    cases hy
    generalize I+1=I2 at hI2 ⊢;refine ag cy ?_;refine ai (L,I2,Mp+1,e.1,e.2,[]) mj ?_;refine ah _ (jx he I2 (Mp+1)) ?_;rintro ⟨y1,y2⟩ hy
    cases hy
    exact A9
   ·have f3:=Cq (b:=true) (s:=[105,110]) gl2 _ hx;have gl3:Gl l3:=f3.2.2;refine ah (λ t=>∃ j:Nat,t=(L,(j:Int),Mp+1,0,0,[])/\RAt L j (Mp+1) true l2/\wdB true l2 [105,110]=true/\l3=tl true l2) ?_ ?_
    ·unfold zK at hx;by_cases hc:wdB true l2 [105,110]=true
     ·rw [if_pos hc] at hx; cases hx;refine ah (λ t=>∃ j:Nat,t=(!wdB true l2 [105,110],L,(j:Int),Mp+1,0,0,[])/\RAt L j (Mp+1) true l2) (ae rfl ?_) ?_
      ·exact ya
      rintro _ ⟨j,rfl,ha⟩;exact af (by simp [hc]) (aa ⟨j,rfl,ha,hc,rfl⟩)
     ·rw [if_neg hc] at hx; cases hx
    rintro _ ⟨j,rfl,ha,hc,rfl⟩;have hj:=ha.1.1;have hn:=ha.next hL (wd6 hc);refine ag gb ?_
    have bl2:l2.length<=l.length:=by
     by_cases hc:sgB true l1 [44]=true
     ·rw [if_pos hc] at hy;rcases bg hy with ⟨e,hz,hee⟩|⟨v2,l3,hz,hee⟩
      ·cases hee
      ·cases hee; have:=((pK (glt gl1 hc) _ hz).2.1.trans ((tlS true _).trans (tlS true l1))).length_le; omega
     ·rw [if_neg hc] at hy; cases hy; omega
    have bt2:=(tlS true l2).length_le;refine tX hq (λ _ XN=>pQ ih true (tl true l2) L hL M' (j+1) ((j:Int)+1) (Mp+1) _ Z gl3 hn.1 XN) ?_ ?_
    ·rintro e z1 I he UP U1 rfl;have U1:I<=1000000000+(l.length:Int):=by omega
     refine ag cy ?_;refine ai (L,I,Mp+1,e.1,e.2,[]) mj ?_;refine ah _ (jx he I (Mp+1)) ?_;rintro ⟨y1,y2⟩ hy
     cases hy
     exact Bu
    intro x l4 j XN h3 hq;refine ag cy ?_;have f4:=(fct f).e true _ gl3 _ XN;have bl4:=(f4.2.1.trans (tlS true _)).length_le;rcases bg hq with ⟨e,hx3,rfl⟩|⟨u,l5,hx3,hq⟩
    ·refine ah (λ t=>e.1≠0/\∃ I:Int,t=(L,I,Mp+1,e.1,e.2,[])/\0<=I/\I<=1000000000) (ae Z ?_) ?_
     ·refine ah _ yK ?_;rintro _ ⟨he,I,rfl,UP,U1⟩;exact ov
     rintro _ ⟨he,I,rfl,UP,U1⟩;refine ah _ (jx he I (Mp+1)) ?_;rintro ⟨y1,y2⟩ hy
     cases hy
     exact Bu
    ·have f5:=dc (b:=true) (s:=[58]) f4.2.2 _ hx3;have bl5:=(f5.2.1.trans (tlS true _)).length_le;refine ah (λ t=>∃ j:Nat,t=(L,(j:Int),Mp+1,0,0,[])/\eA L j (Mp+1) true l5/\L.drop j=l5) (ae Z ?_) ?_
     ·refine ah _ yK ?_;exact sX
     rintro _ ⟨j,rfl,h3,h4⟩;refine tX hq (λ _ hx4=>pQ ih true l5 L hL M' j _ (Mp+1) _ rfl f5.2.2 h3 hx4) ?_ ?_
     ·rintro e z1 I he UP U1 rfl;exact Bu
     intro c l6 j hx4 h3 hq;refine ag cy ?_;have f6:=(fct f).e true _ f5.2.2 _ hx4;have bl6:=(f6.2.1.trans (tlS true _)).length_le;rcases bg hq with ⟨e,hy2,rfl⟩|⟨ks,l7,hy2,hq⟩
     ·refine ah (λ t=>e.1≠0/\∃ (ks:List ac) (I:Int),t=(ks,L,I,Mp+1,e.1,e.2,[])/\ks.length<=3/\0<=I/\I<=1000000000+(l.length:Int)) ?_ ?_
      ·refine av (λ hk=>?_) (λ hk=>?_)
       ·rw [if_pos (WA.1 hk)] at hy2;rcases bg hy2 with ⟨e,hz,hee⟩|⟨u,l8,hz,hy3⟩
        ·cases hee
         refine ah (λ t=>e.1≠0/\∃ I:Int,t=(L,I,Mp+1,e.1,e.2,[])/\0<=I/\I<=1000000000) (ae Z ?_) ?_
         ·refine ah _ (iR hL M' _ h3 hz) ?_;rintro _ ⟨he,I,rfl,UP,U1⟩;exact ov
         rintro _ ⟨he,I,rfl,UP,U1⟩;refine ah _ (jx he I (Mp+1)) ?_;rintro ⟨y1,y2⟩ hy
         cases hy
         exact Lu
        ·have f8:=dc (b:=true) (s:=[61,62]) f6.2.2 _ hz;have bl8:=(f8.2.1.trans (tlS true _)).length_le;refine ah (λ t=>∃ j:Nat,t=(L,(j:Int),Mp+1,0,0,[])/\eA L j (Mp+1) true l8/\L.drop j=l8) (ae Z ?_) ?_
         ·refine ah _ (iR hL M' _ h3 hz) ?_;exact sX
         rintro _ ⟨j,rfl,h3,h4⟩;rcases bg hy3 with ⟨e,hz2,hee⟩|⟨d,l9,hz2,hee⟩
         ·cases hee
          refine ah _ IG ?_;rintro ⟨z1,z2⟩ ⟨he,I,h2,UP,U1⟩
          cases h2
          exact Lu
         ·cases hee
       ·rw [if_neg (λ h=>hk (WA.2 h))] at hy2; cases hy2
      rintro _ ⟨he,ks,I,rfl,hks,UP,U1⟩;refine ah (λ t=>∃ ks:List ac,t=(ks,L,I,Mp+1,e.1,e.2,[])) (ai (false,L,I,Mp+1,e.1,e.2,[]) mj (af ld (aa ⟨_,rfl⟩))) ?_;rintro _ ⟨ks,rfl⟩;exact Ln
     ·have gl7:Gl l7/\l7.length<=l6.length:=by
       by_cases hk:k=13
       ·rw [if_pos hk] at hy2;rcases bg hy2 with ⟨e,hz,hee⟩|⟨u,l8,hz,hy3⟩
        ·cases hee
        rcases bg hy3 with ⟨e,hz2,hee⟩|⟨d,l9,hz2,hee⟩
        ·cases hee
        cases hee
        have f8:=dc (b:=true) (s:=[61,62]) f6.2.2 _ hz;have f9:=(fct f).e true _ f8.2.2 _ hz2;exact ⟨f9.2.2,(f9.2.1.trans ((tlS true _).trans (f8.2.1.trans (tlS true _)))).length_le⟩
       ·rw [if_neg hk] at hy2; cases hy2; exact ⟨f6.2.2,bx _⟩
      refine ah (λ t=>∃ j:Nat,t=(ks,L,(j:Int),Mp+1,0,0,[])/\ks.length<=3/\eA L j (Mp+1) true l7) ?_ ?_
      ·refine av (λ hk=>?_) (λ hk=>?_)
       ·rw [if_pos (WA.1 hk)] at hy2;rcases bg hy2 with ⟨e,hz,hee⟩|⟨u,l8,hz,hy3⟩
        ·cases hee
        ·have f8:=dc (b:=true) (s:=[61,62]) f6.2.2 _ hz;have bl8:=(f8.2.1.trans (tlS true _)).length_le;refine ah (λ t=>∃ j:Nat,t=(L,(j:Int),Mp+1,0,0,[])/\eA L j (Mp+1) true l8/\L.drop j=l8) (ae Z ?_) ?_
         ·refine ah _ (iR hL M' _ h3 hz) ?_;exact sX
         rintro _ ⟨j,rfl,h3,h4⟩;rcases bg hy3 with ⟨e,hz2,hee⟩|⟨d,l9,hz2,hee⟩
         ·cases hee
         ·refine bJ IG λ j h3=>?_;refine ag cy ?_
          cases hee
          exact aa ⟨j,Z,by simp,h3⟩
       ·rw [if_neg (λ h=>hk (WA.2 h))] at hy2; cases hy2;exact aa ⟨j,rfl,by simp,h3⟩
      rintro _ ⟨j,rfl,hks,h3⟩;have bl7:=gl7.2;rcases bg hq with ⟨e,hy4,rfl⟩|⟨ks2,l8,hy4,hq⟩
      ·refine ah (λ t=>e.1≠0/\∃ (ks:List ac) (I:Int),t=(ks,L,I,Mp+1,e.1,e.2,[])/\0<=I/\I<=1000000000+(l.length:Int)) ?_ ?_
       ·refine ah (λ t=>∃ j:Nat,t=(wdB true l7 [105,102],L,(j:Int),Mp+1,0,0,[])/\RAt L j (Mp+1) true l7) (ae Z ?_) ?_
        ·exact ya
        rintro _ ⟨j,rfl,ha⟩;have hj:=ha.1.1;by_cases hc:wdB true l7 [105,102]=true
        ·rw [if_pos hc] at hy4;have hn:=ha.next hL (wd6 hc);have bt7:=(tlS true l7).length_le;refine ae hc ?_;refine ag gb ?_;rcases bg hy4 with ⟨e,hz,hee⟩|⟨d,l9,hz,hee⟩
         ·cases hee
          refine ah _ G8 ?_;rintro ⟨z1,z2⟩ ⟨he,I,h2,UP,U1⟩
          cases h2
          refine ag cy ?_;exact Ba
         ·cases hee
        ·rw [if_neg hc] at hy4; cases hy4
       rintro _ ⟨he,ks,I,rfl,UP,U1⟩;exact Ln
      ·refine ah (λ t=>∃ j:Nat,t=(ks2,L,(j:Int),Mp+1,0,0,[])/\eA L j (Mp+1) true l8) ?_ ?_
       ·refine ah (λ t=>∃ j:Nat,t=(wdB true l7 [105,102],L,(j:Int),Mp+1,0,0,[])/\RAt L j (Mp+1) true l7) (ae Z ?_) ?_
        ·exact ya
        rintro _ ⟨j,rfl,ha⟩;have hj:=ha.1.1;by_cases hc:wdB true l7 [105,102]=true
        ·rw [if_pos hc] at hy4;have hn:=ha.next hL (wd6 hc);have bt7:=(tlS true l7).length_le;refine ae hc ?_;refine ag gb ?_;rcases bg hy4 with ⟨e,hz,hee⟩|⟨d,l9,hz,hee⟩
         ·cases hee
         ·refine bJ G8 λ j h3=>?_;refine ag cy ?_
          cases hee
          exact lm
        ·rw [if_neg hc] at hy4; cases hy4;exact af hc (aa ⟨j,rfl,ha.1⟩)
       rintro _ ⟨j,rfl,h3⟩;rcases bg hq with ⟨e,hx5,rfl⟩|⟨u,l9,hx5,hq⟩
       ·refine ah (λ t=>e.1≠0/\∃ I:Int,t=(L,I,Mp+1,e.1,e.2,[])/\0<=I/\I<=1000000000) (ae Z ?_) ?_
        ·refine ah _ (iR hL M' _ h3 hx5) ?_;rintro _ ⟨he,I,rfl,UP,U1⟩;exact ov
        rintro _ ⟨he,I,rfl,UP,U1⟩;refine ag nD ?_;exact aa ⟨he,I,by show aj.mk L I (Mp+1-1) (eD e)=_; rw [Int.add_sub_cancel],by omega,by omega⟩
       ·refine ah (λ t=>∃ j:Nat,t=(L,(j:Int),Mp+1,0,0,[])/\eA L j (Mp+1) true l9/\L.drop j=l9) (ae Z ?_) ?_
        ·refine ah _ (iR hL M' _ h3 hx5) ?_;exact sX
        exact GL
theorem Bm (h:p:=by exact ax (C7 s i [36,123] O (by decide)) Z):p:=h
theorem C2 (h:p:=by exact ag O (af O (aa Z))):p:=h
theorem H9 (h:p:=by exact ax (C7 s i [36,36,123] O (by decide)) Z):p:=h
theorem yo {l p:Bk}:hasPrefix l p=true↔l.take p.length=p:=by
 unfold hasPrefix;rw [List.isPrefixOf_iff_prefix,List.prefix_iff_eq_take];exact ⟨λ h=>h.symm,λ h=>h.symm⟩
theorem C7 (s:Bk)(i:Nat)(t:Bk)(hi:i<=2000000000)(ht:1<=t.length/\t.length<=10):ga s (i:Int) t=some (hasPrefix (s.drop i) t):=by
 unfold ga;rw [cn aC];by_cases h:i+t.length<=s.length
 ·rw [if_pos O,cn aC,cn O,cl]
  have hsub:sub s (i:Int) ((i:Int)+(t.length:Int))=(s.drop i).take t.length:=by
   rw [show (i:Int)+(t.length:Int)=((i+t.length:Nat):Int) by omega,uh,List.drop_take];congr 1; omega
  rw [hsub];congr 1;exact eqB (by rw [decide_eq_true_eq,yo])
 ·rw [if_neg O,cl];congr 1
  symm
  rw [<- Bool.not_eq_true];intro k;have:=my k;rw [n6] at this;omega
def PO (s:Bk)(y:Option Bk)(r:Unit⊕Int):Prop:=match y with
 | none=>r=.inl ()\/r=.inr (-1)
 | some r'=>r=.inr ((s.length:Int)-(r'.length:Int))
def ppos (s:Bk):Option Bk->Int|none=>-1|some r'=>(s.length:Int)-(r'.length:Int)
theorem zD {s:Bk}{i:Int}{y:Option Bk}(h:Ev2 (λ n m=>dx (gY n) s m i 0) (CO s y)):Ev2 (λ n _=>cK n s i) (·=LG s y):=by
 refine aS ?_;simp only [cK];refine cj (aO (aN (f:=λ n m=>dx (gY n) s m i 0) h) ?_);exact yq
theorem KW {s:Bk}{i:Int}{y:Option Bk}(h:Ev2 (λ n m=>fy (cK n) s m i) (PO s y)):Ev2 (λ n _=>gY n s i) (·=ppos s y):=by
 refine aS ?_;simp only [gY];refine cj (aO (aN (f:=λ n m=>fy (cK n) s m i) h) ?_);exact yq
theorem EH {s:Bk}(hs:s.length<=1000000000):∀ (f:Nat),
  (∀ (d i:Nat) (ci di:Int) (y:Option Bk),ci=i->di+1=d->1<=d->d+(s.drop i).length<=2000000000->i<=1000000010->gu f d (s.drop i)=some y->Ev2 (λ n m=>dx (gY n) s m ci di) (CO s y)) /\
  (∀ (i:Nat) (ci:Int) (y:Option Bk),ci=i->i<=1000000010->iN f (s.drop i)=some y->Ev2 (λ n m=>fy (cK n) s m ci) (PO s y))
 | 0=>⟨λ d i ci di y _ _ _ _ _ h=>(by rw [gu] at h; cases h),λ i ci y _ _ h=>(by rw [iN] at h; cases h)⟩
 | f+1=>by
  obtain ⟨i1,i2⟩:=EH hs f;constructor
  ·intro d i ci di y hci hdi h1 hd hi h;refine aw ?_;simp only [dx]
   cases hl:s.drop i with
   | nil=>
    rw [hl,gu] at h; cases h;exact xQ
   | cons b r=>
    obtain ⟨g1,g2,g3⟩:=rL hl;have hb:byt s ci=(b.toNat:Int):=by rw [hci,cH,g1]
    rw [hl,gu] at h;rw [hl,aq] at hd;refine ae O (cj (ag O ?_));rw [hb];by_cases h34:b.toNat=34
    ·rw [if_neg O,if_neg O,if_pos h34] at h;refine ae O (ag aC ?_)
     cases hq:iN f r with
     | none=>rw [hq] at h; cases h
     | some z=>
      rw [hq] at h;refine ai _ (KW (i2 (i+1) (ci+1) z O O  (by rw [g3]; exact hq))) ?_
      cases z with
      | none=>cases h; exact ae (show (-1:Int)<0 by decide) (aa (.inr rfl))
      | some r'=>
       have hsf:=(jf f).2 _ _ hq;have Sk:=hsf.1.length_le;have hrl:r.length=s.length-(i+1):=by rw [<- g3,n6]
       have hrs:r' <:+ s:=by rw [<- g3] at hsf; exact hsf.1.trans (List.drop_suffix _ _)
       have hsd:=FH hrs;refine af (by show ¬ (s.length:Int)-(r'.length:Int)<0; omega) (aa ?_);exact i1 d (s.length-r'.length) _ di y (by show (s.length:Int)-(r'.length:Int)=_; omega) hdi h1 (by rw [hsd]; omega) O (by rw [hsd]; exact h)
    refine af O ?_;by_cases h123:b.toNat=123
    ·rw [if_pos h123] at h;refine ai (di+1) (ag O (ae O qV)) ?_;refine ek (di+1) C2 (ag aC (aa ?_));exact Hv
    rw [if_neg h123] at h;refine ai di C2 ?_;by_cases h125:b.toNat=125
    ·rw [if_pos h125] at h;by_cases hd1:d=1
     ·rw [if_pos hd1] at h; cases h;have hlr:r.length=s.length-(i+1):=by rw [<- g3,n6]
      refine iV (.inr (.inr ci)) (ag O (ae O vq)) ?_;show Sum.inr ci=Sum.inr _;congr 1; omega
     ·rw [if_neg hd1] at h;refine ek (di-1) (ag O (ae O (af O qV))) (ag aC (aa ?_));exact K3
    rw [if_neg h125,if_neg h34] at h;refine ek di C2 (ag aC (aa ?_));exact LQ
  ·intro i ci y hci hi h;subst hci;refine aw ?_;simp only [fy]
   cases hl:s.drop i with
   | nil=>
    rw [hl,iN] at h; cases h;exact xQ
   | cons b r=>
    obtain ⟨g1,g2,g3⟩:=rL hl;have hb:byt s (i:Int)=(b.toNat:Int):=by rw [cH,g1]
    rw [hl,iN] at h;refine ae O (cj (ag O ?_));rw [hb];by_cases h92:b.toNat=92
    ·rw [if_neg O,if_pos h92] at h;refine ae O (ag aC (aa ?_));exact i2 (i+1+1) _ y O O  (by rw [px s (i+1) 1,g3]; exact h)
    refine af O (ag O ?_);by_cases h34:b.toNat=34
    ·rw [if_pos h34] at h; cases h;have hlr:r.length=s.length-(i+1):=by rw [<- g3,n6]
     refine ae O (ag aC (aa ?_));show Sum.inr ((i:Int)+1)=Sum.inr _;congr 1; omega
    rw [if_neg h34,if_neg h92] at h;refine af O (ai _ H9 ?_);rw [hl];by_cases hp3:hasPrefix (b::r) [36,36,123]=true
    ·rw [if_pos hp3] at h;refine ae hp3 (ag aC (aa ?_));exact i2 (i+3) _ y O O  (by rw [px s i 3,hl]; exact h)
    rw [if_neg hp3] at h;refine af hp3 (ai _ Bm ?_);rw [hl];by_cases hp2:hasPrefix (b::r) [36,123]=true
    ·rw [if_pos hp2] at h;refine ae hp2 (ag aC ?_)
     cases hq:gu f 1 ((b::r).drop 2) with
     | none=>rw [hq] at h; cases h
     | some z=>
      rw [hq] at h;have e2:s.drop (i+2)=(b::r).drop 2:=by rw [px s i 2,hl]
      refine ai _ (zD (i1 1 (i+2) ((i:Int)+2) 0 z O rfl (by decide) ja O (by rw [e2]; exact hq))) ?_
      cases z with
      | none=>cases h; exact ae (show (-1:Int)<0 by decide) (aa (.inr rfl))
      | some r'=>
       have hsf:=(jf f).1 _ _ _ hq;have Sk:=hsf.1.length_le;have hrl:((b::r).drop 2).length=s.length-(i+2):=by rw [<- e2,n6]
       have hrs:r' <:+ s:=by rw [<- e2] at hsf; exact hsf.1.trans (List.drop_suffix _ _)
       have hsd:=FH hrs;refine af (by show ¬ (s.length:Int)-(r'.length:Int)-1<0; omega) (ag CC (aa ?_));exact J5
    ·rw [if_neg hp2] at h;refine af hp2 (ag aC (aa ?_));exact i2 (i+1) _ y O O  (by rw [g3]; exact h)
theorem JG {a:Int}{z:List ab×ao}(hz:z.1.length<=1000000)(ha:∀ t∈z.1,inR (t.fAt+a)):∀ (k i:Nat) (out:List ab),i+k=z.1.length->out.length=i->Ev2 (λ _ m=>eO a z m out (i:Int)) (·=out++(z.1.drop i).map (mvT a)):=by
 intro k
 induction k with
 | zero=>
  intro i out hi _;refine aw ?_;simp only [eO];refine af O (aa ?_);rw [List.drop_eq_nil_of_le O]; simp
 | succ k ih=>
  intro i out hi ho;refine aw ?_;simp only [eO];have hd:=mW (L:=z.1) (i:=i) O;refine ae O (ag O (ag O (ag O (ag (ha _ vP) (ag nH (ag aC ?_))))));have:=lu (P:=λ j=>Ev2 (λ _ m=>eO a z m (out++[mvT a (lat z.1 (i:Int))]) j) _) (ih (i+1) (out++[mvT a (lat z.1 (i:Int))]) O (by simp [ho]));refine aO this ?_;rintro _ rfl;rw [hd,dg,List.append_assoc]; rfl
def RW (f:Nat):Prop:=∀ (s:Bk) (a:Int) q,0<=a->a+(s.length:Int)<=1000000000->gI f s a=some q->Ev2 (λ n _=>ee n s a) (QS q)
theorem TX {f:Nat}(ih:Rol f):RW (f+1):=by
 intro s a q h0 h1 hq;rw [gI] at hq;refine aS ?_;simp only [ee,au,cl];refine ai _ (KM s) ?_;by_cases hk:(dv s).2.Ar=0
 ·rw [if_neg (by simpa using hk)] at hq;refine ae hk ?_;have hg:=rV h0 h1 hk;have M':(dv s).1.length<=65537:=(rA h0 h1 hk).2.2
  have hb:∀ t∈(dv s).1,inR (t.fAt+a):=by
   intro t ht;have hg1:=hg.1
   have:∀ (l:List ab),Gd (l.map (mvT a))->∀ t∈l,inR (t.fAt+a):=by
    intro l
    induction l with
    | nil=>intro _ t ht; cases ht
    | cons x r ihl=>
     intro hx t ht;have hx1:=hx.1.1;have XN:=hx.1.2.1;have hx1:0<=x.fAt+a:=hx1;have XN:x.fAt+a+(x.By.length:Int)<=1000000000:=XN;rcases ro.1 ht with rfl|ht
     ·exact bv O O
     ·rcases hx.2 with h6|h6
      ·have:r=[]:=List.map_eq_nil_iff.1 h6.2;subst this; cases ht
      ·exact ihl h6.2 t ht
   exact this _ hg1 t ht
  have hm:=JG (z:=dv s) O hb (dv s).1.length 0 [] O rfl;rw [List.drop_zero,List.nil_append] at hm;refine ai _ (aN hm) ?_;have hL:=hg.1
  have UK:0<((dv s).1.map (mvT a)).length:=by
   have:=uA hL;rcases Nat.eq_zero_or_pos ((dv s).1.map (mvT a)).length with q|q
   ·rw [List.length_eq_zero_iff.1 q] at this; exact absurd rfl this
   ·exact q
  have hL1:((dv s).1.map (mvT a)).length<=1000000:=by rw [th]; omega
  generalize (dv s).1.map (mvT a)=L at hq hL hg UK hL1;have hpos:eA L 0 1 true L:=⟨UK,by decide,by omega,Z,Z⟩
  cases hx:gj f true L with
  | none=>rw [hx] at hq; cases hq
  | some y=>
   rw [hx] at hq;have hr:=ih.e true _ L hL O 0 0 1 y rfl hg hpos hx;rcases y with e|⟨x,l⟩
   ·cases hq
    refine ah _ hr ?_;rintro ⟨z1,z2⟩ ⟨he,I,h2,UP,U1⟩
    cases h2
    refine ai (L,I,1,e.1,e.2,[]) (ai (false,L,I,1,e.1,e.2,[]) mj sF) (aa ⟨he,Z⟩)
   ·refine ah _ hr ?_;rintro ⟨z1,z2⟩ ⟨hz,j,h2,h3⟩;replace hz:z1=_:=hz; subst hz; cases h2;have hq:(if (hd true l).Ar=6 then some (.inr z1) else some (.inl (2,(hd true l).fAt)))=some q:=hq;by_cases k6:(hd true l).Ar=6
    ·rw [if_pos k6] at hq; cases hq;refine ah (λ t=>∃ j:Nat,t=(L,(j:Int),1,0,0,[])) ?_ ?_
     ·refine ah (λ t=>∃ j:Nat,t=(false,L,(j:Int),1,0,0,[])) (ae Z (ah _ (tZ hL O h3) ?_)) ?_
      ·rintro ⟨y1,y2⟩ ⟨h1,j,h2,ha⟩;replace h1:y1=_:=h1; subst h1; cases h2;exact aa ⟨j,by rw [decide_eq_true k6]; rfl⟩
      ·rintro _ ⟨j,rfl⟩;exact af ld (aa ⟨j,rfl⟩)
     ·rintro _ ⟨j,rfl⟩;exact aa rfl
    ·rw [if_neg k6] at hq; cases hq;refine ah (λ t=>∃ j:Nat,t=(L,(j:Int),1,2,(hd true l).fAt,[])) ?_ ?_
     ·refine ah (λ t=>∃ j:Nat,t=(true,L,(j:Int),1,0,0,[])/\RAt L j 1 true l) (ae Z (ah _ (tZ hL O h3) ?_)) ?_
      ·rintro ⟨y1,y2⟩ ⟨h1,j,h2,ha⟩;replace h1:y1=_:=h1; subst h1; cases h2;exact aa ⟨j,by rw [decide_eq_false k6]; rfl,ha⟩
      ·rintro _ ⟨j,rfl,ha⟩;refine ae rfl (ah _ (qj hL O ha.1) ?_);rintro _ ⟨j,rfl,hj⟩;exact aa ⟨j,rfl⟩
     ·exact IP
 ·rw [if_pos hk] at hq; cases hq;have:=DO s;refine af hk (ag aC (aa ⟨hk,?_⟩));show ao.mk _ ((dv s).2.fAt+a) []=ao.mk _ (a+(dv s).2.fAt) [];rw [Int.add_comm]
theorem KT (h:p:=by
 simp only [bX,au,cl]
 exact ae (lj he) (aa Z)):p:=h
theorem GZ (h:p:=by exact av (λ _=>ai _ (ax hb Z) (aa trivial)) (λ _=>aa trivial)):p:=h
theorem Ls (h:p:=by exact aN (f:=λ n m=>cG n (ee n) s a m [] false 0) hread):p:=h
theorem I6 (h:p:=by exact ⟨Z,by show 4096<(text++[36,123]).length; omega,Z⟩):p:=h
theorem I8 {s:Bk}(hs:s.length<=1000000000){i:Nat}{b:UInt8}{r:Bk}(hl:s.drop i=b::r)(h34:¬ b.toNat=34):Ev2 (λ n _=>mI n s (i:Int)) (λ z=>match iY (b::r) with
  | .inl k=>z.2.2=k/\k≠0
  | .inr (t,n)=>z=(t,(i:Int)+(n:Int),0)):=by
 obtain ⟨g1,g2,g3⟩:=rL hl;have M':r.length=s.length-(i+1):=by rw [<- g3,n6]
 refine aO (Nz s hs i b r hl O) ?_;rintro _ rfl;by_cases h92:b.toNat=92
 ·have hb:b=92:=(pP (by decide)).1 h92;subst hb;have hle:=o4 r;have hi:iY (92::r)=if (da r).2.2=0 then .inr (encodeRune (da r).1,(da r).2.1.toNat+1) else .inl (da r).2.2:=by rw [iY,if_pos h92]
  rw [hi];unfold N9;rw [if_pos (Pd r)];unfold shE;by_cases hz:(da r).2.2=0
  ·rw [if_pos hz,if_pos hz];show (_,_,_)=(_,_,_);refine Prod.ext rfl (Prod.ext ?_ rfl);show (i:Int)+1+(da r).2.1=(i:Int)+(((da r).2.1.toNat+1:Nat):Int);omega
  ·rw [if_neg hz,if_neg hz];exact ⟨rfl,hz⟩
 ·have hd:¬ (decodeL (b::r)).1=92:=by
   by_cases h128:b.toNat<128
   ·rw [C8 b r h128]; exact h92
   ·have:=BJ b r O; omega
  have hdf:=gO (b::r) G;unfold N9;rw [if_neg hd,iY,if_neg h92];by_cases hbad:jD (decodeL (b::r))
  ·rw [if_pos hbad,if_pos (.inl hbad)];exact ⟨rfl,by decide⟩
  ·rw [if_neg hbad,if_neg (λ k=>k.elim hbad h34)];have:=(hdf.2.2 (λ k=>hbad (.inl k))).2;show (_,_,_)=(_,_,_);rw [this]
theorem FV {l t:Bk}{n:Nat}(h:iY l=.inr (t,n))(hl:l.length<=1000000000):t.length<=1000000000:=by
 cases l with
 | nil=>cases h
 | cons b r=>
  rw [iY] at h;split at h
  ·split at h
   ·rename_i hz
    cases h
    have:=mw _ ((o4 r).2.2.1 hz).1;omega
   ·cases h
  ·split at h
   ·cases h
   ·cases h
    rw [List.length_take]; omega
def TxO (F:Nat)(s:Bk)(a:Int)(fr:Int)(parts:List ac)(UC:Bool)(i:Nat)(q:PE⊕(Int×Int×Bk×List ac×Bool))(z:Bk×Int×Int):Prop :=(z.2.2≠0/\0<=z.2.1/\z.2.1<=(s.length:Int)/\q=.inl (z.2.2,a+z.2.1)) \/ (z.2.2=0/\4096<z.1.length/\q=.inl (3,fr)) \/ (∃ (i' f':Nat),z.2=((i':Int),0)/\f'<=F/\z.1.length<=4096/\i<=i'/\i'<=s.length/\eW f' fr (a+(i':Int)) z.1 parts UC (s.drop i')=some q/\(s.drop i'=[]\/hasPrefix (s.drop i') [36,123]=true))
theorem MP {l:Bk}(h:hasPrefix l [36,123]=true):¬ hasPrefix l [36,36,123]=true:=by
 intro k;have h1:=yo.1 h;have h2:=yo.1 k;rcases l with _|⟨x,_|⟨y,l⟩⟩
 ·cases h1
 ·cases h1
 ·simp only [aq,mv,List.take_succ_cons,List.take_zero,List.cons.injEq] at h1 h2;rw [h1.2.1] at h2;exact absurd h2.2.1 (by decide)
theorem Bn {F:Nat}{s:Bk}(hs:s.length<=1000000000){a fr:Int}{parts:List ac}{UC:Bool}{q:PE⊕(Int×Int×Bk×List ac×Bool)}:∀ (f i:Nat) (text:Bk) (i0:Nat),f<=F->i0<=i->i<=s.length->text.length<=4096->eW f fr (a+(i:Int)) text parts UC (s.drop i)=some q ->
  Ev2 (λ n m=>fx n s m (i:Int) text) (λ r=>match r with|.inl x=>TxO F s a fr parts UC i0 q (x.2,x.1,0)|.inr z=>TxO F s a fr parts UC i0 q z)
 | 0,i,text,i0,_,_,_,_,h=>by rw [eW] at h; cases h
 | f+1,i,text,i0,hF,h0,hi,ht,h=>by
  refine aw ?_;simp only [fx]
  cases hl:s.drop i with
  | nil=>
   have:=Fz hl;refine ai false pf (af ld (aa (.inr (.inr ⟨i,f+1,Z,hF,ht,h0,hi,h,.inl hl⟩))))
  | cons b r=>
   obtain ⟨g1,g2,g3⟩:=rL hl;have M':(b::r).length=s.length-i:=by rw [<- hl,n6]
   by_cases hp2:hasPrefix (b::r) [36,123]=true
   ·refine ai false (ae O (ai _ Bm (aa ?_))) (af ld (aa (.inr (.inr ⟨i,f+1,Z,hF,ht,h0,hi,h,.inr (by rw [hl]; exact hp2)⟩))));rw [hl,hp2]; rfl
   refine ai true (ae O (ai _ Bm (aa ?_))) (ae Z (cj (af O ?_)))
   ·rw [hl,show hasPrefix (b::r) [36,123]=false by simpa using hp2]; rfl
   rw [hl,eW] at h;refine ai _ H9 ?_;rw [hl];by_cases hp3:hasPrefix (b::r) [36,36,123]=true
   ·rw [if_pos hp3] at h;have hpl:=my hp3;simp only [aq,mv] at hpl M';refine ae hp3 (ag nH (ag aC (aa ?_)));have e3:s.drop (i+3)=(b::r).drop 3:=by rw [px s i 3,hl]
    have htl:(text++[36,123]).length=text.length+2:=by simp
    by_cases hlg:4096<text.length+2
    ·rw [if_pos hlg] at h; cases h
     -- too long: it is met at the next round or at the end
     refine aw ?_;simp only [fx];have hb:=C7 s (i+3) [36,123] O (by decide);rw [show ((i+3:Nat):Int)=(i:Int)+3 by omega] at hb;refine ah (λ _=>True) GZ (λ c _=>?_);refine av (λ _=>iV (.inr (text++[36,123],(i:Int)+3,0)) vq (.inr (.inl I6))) (λ _=>aa (.inr (.inl I6)))
    ·rw [if_neg hlg] at h;have:=Bn (F:=F) hs f (i+3) (text++[36,123]) i0 O O O O  (by rw [e3,show a+((i+3:Nat):Int)=a+(i:Int)+3 by omega]; exact h);rw [show ((i+3:Nat):Int)=(i:Int)+3 by omega] at this;exact this
   rw [if_neg hp3,if_neg hp2] at h;refine af hp3 (ag O ?_);have hb:byt s (i:Int)=(b.toNat:Int):=by rw [cH,g1]
   rw [hb];by_cases h34:b.toNat=34
   ·have hi34:iY (b::r)=.inl 2:=by rw [iY,if_neg O,if_pos (.inr h34)]
    rw [hi34] at h; cases h;exact ae O (aa (.inl ⟨(show (2:Int)≠0 by decide),by show (0:Int)<=(i:Int); omega,by show (i:Int)<=_; omega,rfl⟩))
   refine af O (ah _ (I8 hs hl h34) ?_);intro z hz
   cases hi':iY (b::r) with
   | inl k=>
    rw [hi'] at h hz; cases h;obtain ⟨hz1,hz2⟩:=hz;refine af (by rw [hz1]; exact hz2) (aa (.inl ⟨by show z.2.2≠0; rw [hz1]; exact hz2,by show (0:Int)<=(i:Int); omega,by show (i:Int)<=_; omega,?_⟩));show _=Sum.inl (z.2.2,a+(i:Int));rw [hz1]
   | inr tn=>
    obtain ⟨t,n'⟩:=tn;rw [hi'] at h hz;have hz:z=(t,(i:Int)+(n':Int),0):=hz;subst hz;have h:(if 4096<text.length+t.length then some (.inl (3,fr)) else eW f fr (a+(i:Int)+(n':Int)) (text++t) parts UC ((b::r).drop n'))=some q:=h;have hn:=rp hi';have htl:(text++t).length=text.length+t.length:=n7;have htb:t.length<=1000000000:=FV hi' O;refine ae rfl (ag (by show text.length+t.length<=_; omega) (aa ?_));by_cases hlg:4096<text.length+t.length
    ·rw [if_pos hlg] at h; cases h;refine aw ?_;simp only [fx];have hb:=C7 s (i+n') [36,123] O (by decide);rw [show ((i+n':Nat):Int)=(i:Int)+(n':Int) by omega] at hb;refine ah (λ _=>True) GZ (λ c _=>?_);refine av (λ _=>iV (.inr (text++t,(i:Int)+(n':Int),0)) vq (.inr (.inl ⟨rfl,by show 4096<(text++t).length; omega,rfl⟩))) (λ _=>aa (.inr (.inl ⟨rfl,by show 4096<(text++t).length; omega,rfl⟩)))
    ·rw [if_neg hlg] at h;have e3:s.drop (i+n')=(b::r).drop n':=by rw [px s i n',hl]
     have:=Bn (F:=F) hs f (i+n') (text++t) i0 O O O O  (by rw [e3,show a+((i+n':Nat):Int)=a+(i:Int)+(n':Int) by omega]; exact h);rw [show ((i+n':Nat):Int)=(i:Int)+(n':Int) by omega] at this;exact this
theorem Qh {F:Nat}{s:Bk}(hs:s.length<=1000000000){a fr:Int}{parts:List ac}{UC:Bool}{q:PE⊕(Int×Int×Bk×List ac×Bool)}(f i:Nat)(hF:f<=F)(hi:i<=s.length)(h:eW f fr (a+(i:Int)) [] parts UC (s.drop i)=some q) :
  Ev2 (λ n _=>nr n s (i:Int)) (TxO F s a fr parts UC i q):=by
 simp only [nr];refine cj (aO (aN (Bn hs f i [] i hF (bx _) hi (by decide) h)) ?_);intro r hr;rcases r with ⟨x,y⟩|z
 ·exact aa hr
 ·exact hr
def CI (a:Int)(i:Nat)(parts:List ac)(UC:Bool):Prop:=UC=false->(i=0/\parts=[])\/∃ t,parts=[xq t a]
def PtO (a:Int)(q:PE⊕(Int×Int×Bk×List ac×Bool))(r:(List ac×Bool)⊕(List ac×Bool×ao)):Prop:=match q with
 | .inl e=>e.1≠0/\r=.inr ([],false,eD e)
 | .inr (frm,pos,text,parts,UC)=>r=.inl (flS frm pos text parts,UC)/\(UC=false->flS frm pos text parts=[]/\text=[]\/flS frm pos text parts=[xq text a])
theorem vI {F:Nat}{s:Bk}{a:Int}(h0:0<=a)(h1:a+(s.length:Int)<=1000000000)(hW:∀ f,f<F->RW f){q:PE⊕(Int×Int×Bk×List ac×Bool)}:∀ (k f i:Nat) (parts:List ac) (UC:Bool),f<=F->s.length-i<k->i<=s.length->parts.length<=2*i->(UC=false->i=0/\parts=[])->eW f (a+(i:Int)) (a+(i:Int)) [] parts UC (s.drop i)=some q ->
  Ev2 (λ n m=>cG n (ee n) s a m parts UC (i:Int)) (PtO a q)
 | 0,f,i,parts,UC,_,h,_,_,_,_=>absurd h (Nat.not_lt_zero _)
 | k+1,f,i,parts,UC,hF,hk,hi,hp,hopn,h=>by
  refine aw ?_;simp only [cG]
  -- an interpolation at i,with nothing of a text ahead of it
  have interp:∀ (f' i:Nat) (out:List ac),f'<=F->s.length-i<k+1->i<=s.length->out.length<=2*i+1->hasPrefix (s.drop i) [36,123]=true->∀ (frm:Int) (text:Bk) (parts:List ac) (UC:Bool),flS frm (a+(i:Int)) text parts=out->eW f' frm (a+(i:Int)) text parts UC (s.drop i)=some q->(∀ (i':Nat) (x:ac) (f'':Nat),f''<=F->i<i'->i'<=s.length->eW f'' (a+(i':Int)) (a+(i':Int)) [] (out++[x]) true (s.drop i')=some q->Ev2 (λ n m=>cG n (ee n) s a m (out++[x]) true (i':Int)) (PtO a q)) ->
    Ev2 (λ n _=>(
     ck (inR ((i:Int)+2)) <|
     (cK n s ((i:Int)+2)).bind λ We=>
     if We<0 then
      ck (inR (a+(i:Int))) <|
      some (.inr (.inr ([],false,(ao.mk 40 (a+(i:Int)) ([]:Bk)))))
     else
      ck (inR ((i:Int)+2)) <|
      ck ((0:Int)<=(i:Int)+2/\(i:Int)+2<=We/\We<=(s.length:Int)) <|
      ck (inR (a+(i:Int))) <|
      ck (inR ((a+(i:Int))+2)) <|
      (ee n (sub s ((i:Int)+2) We) ((a+(i:Int))+2)).bind λ Vb=>
      if Vb.2.Ar=0 then
      ck ((out.length+[Vb.1].length)*160<=140737488355328) <|
      ck (inR (We+1)) <|
      some (.inl (out++[Vb.1],true,We+1))
      else
      some (.inr (.inr ([],false,Vb.2)))
     : Option (((List ac)×Bool×Int)⊕(((List ac)×Bool)⊕((List ac)×Bool×ao))))) (λ x=>match x with
      | .inl z=>Ev2 (λ n m=>cG n (ee n) s a m z.1 z.2.1 z.2.2) (PtO a q)
      | .inr y=>PtO a q y):=by
   intro f' i out hfF hki hi hout hp2 frm text parts UC hfl h cont
   cases f' with
   | zero=>rw [eW] at h; cases h
   | succ f'=>
   cases hl:s.drop i with
   | nil=>rw [hl] at hp2; cases hp2
   | cons b r=>
   have M':(b::r).length=s.length-i:=by rw [<- hl,n6]
   rw [hl] at hp2;rw [hl,eW,if_neg (MP hp2),if_pos hp2] at h;have hpl:=my hp2;simp only [aq,mv] at hpl M';have e2:s.drop (i+2)=(b::r).drop 2:=by rw [px s i 2,hl]
   refine ag aC ?_
   cases hc:gu f' 1 ((b::r).drop 2) with
   | none=>rw [hc] at h; cases h
   | some y=>
    rw [hc] at h;refine ai _ (zD ((EH (s:=s) O f').1 1 (i+2) ((i:Int)+2) 0 y O rfl (by decide) ja O (by rw [e2]; exact hc))) ?_
    cases y with
    | none=>
     cases h
     exact ae (show (-1:Int)<0 by decide) (ag aC (aa ⟨(by decide:(40:Int)≠0),Z⟩))
    | some r'=>
     simp only at h;have hsf:=(jf f').1 _ _ _ hc;have Sk:=hsf.2;have hd2:((b::r).drop 2).length=s.length-(i+2):=by rw [<- e2,n6]
     have hrs:r' <:+ s:=by rw [<- e2] at hsf; exact hsf.1.trans (List.drop_suffix _ _)
     have hsd:=FH hrs;have hcp:LG s (some r')=((s.length-r'.length-1:Nat):Int):=by show (s.length:Int)-(r'.length:Int)-1=_; omega
     rw [hcp]
     have hsub2:sub s ((i:Int)+2) ((s.length-r'.length-1:Nat):Int)=((b::r).drop 2).take (((b::r).drop 2).length-r'.length-1):=by
      exact Jx
     rw [hsub2];generalize hX:((b::r).drop 2).take (((b::r).drop 2).length-r'.length-1)=X at h;have hXl:X.length<=((b::r).drop 2).length:=by rw [<- hX,List.length_take]; omega
     refine af O (ag aC (ag ⟨by omega,by omega,by omega⟩ (ag aC (ag aC ?_))))
     cases hw:gI f' X (a+(i:Int)+2) with
     | none=>rw [hw] at h; cases h
     | some z=>
      rw [hw] at h;refine ah _ (hW f' O X (a+(i:Int)+2) z O O  hw) ?_;rcases z with e|e
      ·cases h
       rintro ⟨w1,w2⟩ ⟨he,hz⟩
       cases hz
       exact af he (aa ⟨he,Z⟩)
      ·rintro _ rfl;have h:eW f' (a+(i:Int)+(((b::r).length-r'.length:Nat):Int)) (a+(i:Int)+(((b::r).length-r'.length:Nat):Int)) [] (flS frm (a+(i:Int)) text parts++[e]) true r'=some q:=h
       have hpos:a+(i:Int)+(((b::r).length-r'.length:Nat):Int)=a+((s.length-r'.length:Nat):Int):=by
        have:=hsf.1.length_le;simp only [aq] at hd2 ⊢; omega
       rw [hpos,hfl] at h;have hi2:((s.length-r'.length-1:Nat):Int)+1=((s.length-r'.length:Nat):Int):=by omega
       refine ae Z (ag nH (ag aC (aa ?_)));simp only [hi2];exact cont (s.length-r'.length) e f' O O O (by rw [hsd]; exact h)
  by_cases hlt:i<s.length
  ·refine ae O ?_;by_cases hp2:hasPrefix (s.drop i) [36,123]=true
   ·have hfl:flS (a+(i:Int)) (a+(i:Int)) [] parts=parts:=by unfold flS; rw [if_neg O]
    have:=interp f i parts hF hk hi O hp2 (a+(i:Int)) [] parts UC hfl h (λ i' x f'' hF' h1' h2' h3'=>vI h0 h1 hW k f'' i' (parts++[x]) true hF' O h2' yW (λ k=>by cases k) h3');refine cj ?_;refine ai true (ax (by rw [C7 s i [36,123] O (by decide),hp2]) rfl) (ae rfl ?_);exact aO this (λ s hs=>by cases s <;> exact hs)
   ·refine cj ?_;refine ai false (ax (by rw [C7 s i [36,123] O (by decide)]; simpa using hp2) rfl) (af ld ?_);refine ah _ (Qh (F:=F) O f i hF hi h) ?_;rintro ⟨t,i1,e1⟩ (⟨he,hi0,hi1,hq⟩|⟨he,hl,hq⟩|⟨i',f',he,hfF,hl,h2',h3',h4',h5'⟩)
    ·simp only at he hi0 hi1 hq;subst hq;exact af he (ag (bv (by show _<=a+i1; omega) (by show a+i1<=_; omega)) (aa ⟨he,rfl⟩))
    ·simp only at he hl hq;subst hq;exact ae he (ae (by show (4096:Int)<(t.length:Int); omega) (ag aC (aa ⟨(by decide:(3:Int)≠0),rfl⟩)))
    ·simp only at he hl h4'
     cases he
     have hii:i<i':=by
      rcases Nat.lt_or_ge i i' with q|q
      ·exact q
      ·exfalso;have:i'=i:=by omega
       subst this;rcases h5' with h5'|h5'
       ·have:=Fz h5'; omega
       ·exact hp2 h5'
     have hfl:flS (a+(i:Int)) (a+(i':Int)) t parts=parts++[xq t (a+(i:Int))]:=by unfold flS; rw [if_pos O]
     refine ae Z (af (by show ¬ (4096:Int)<(t.length:Int); omega) (ag aC (ai _ pt (ag nH (aa ?_)))));have e1:parts++[ac.mk 1 0 [] [] (am.mk 3 0 t [] []) [] (a+(i:Int))]=flS (a+(i:Int)) (a+(i':Int)) t parts:=hfl.symm;show Ev2 (λ n m=>cG n (ee n) s a m (parts++[ac.mk 1 0 [] [] (am.mk 3 0 t [] []) [] (a+(i:Int))]) UC (i':Int)) (PtO a q);rw [e1];have hol:(flS (a+(i:Int)) (a+(i':Int)) t parts).length<=2*i':=by rw [hfl,n7,List.length_singleton]; omega
     refine aw ?_;simp only [cG];rcases h5' with h5'|h5'
     · -- the end
      have:=Fz h5'
      cases f' with
      | zero=>rw [eW] at h4'; cases h4'
      | succ f'=>
       rw [h5',eW] at h4'; cases h4';refine af O (aa ⟨rfl,λ ho=>.inr ?_⟩);obtain ⟨hi0,hp0⟩:=hopn ho;rw [hfl,hp0,hi0]; simp
     ·have hlt':i'<s.length:=by
       rcases Nat.lt_or_ge i' s.length with q|q
       ·exact q
       ·rw [List.drop_eq_nil_of_le q] at h5'; cases h5'
      have:=interp f' i' (flS (a+(i:Int)) (a+(i':Int)) t parts) hfF O h3' O h5' (a+(i:Int)) t parts UC rfl h4' (λ i'' x f'' hF' h1' h2'' h3''=>vI h0 h1 hW k f'' i'' (flS (a+(i:Int)) (a+(i':Int)) t parts++[x]) true hF' O h2'' yW (λ k=>by cases k) h3'');refine ae O (cj ?_);refine ai true (ax (by rw [C7 s i' [36,123] O (by decide),h5']) rfl) (ae rfl ?_);exact aO this (λ s hs=>by cases s <;> exact hs)
  ·have hd:s.drop i=[]:=List.drop_eq_nil_of_le O
   cases f with
   | zero=>rw [eW] at h; cases h
   | succ f=>
    rw [hd,eW] at h; cases h;have hfl:flS (a+(i:Int)) (a+(i:Int)) [] parts=parts:=by unfold flS; rw [if_neg O]
    refine af O (aa ⟨by rw [hfl],λ ho=>.inl ⟨?_,Z⟩⟩);rw [hfl]; exact (hopn ho).2
theorem vu {e:ac}(hb:Sz e):Ev2 (λ n _=>bX n (.mk [] 0 0 dOk) e) (λ z=>(z.1,z.2.1)=tU (pA (.inr e))):=by
 simp only [bX,au,cl];refine af ld (ai _ (xr hb) ?_);exact G4
theorem FI {e:PE}(he:e.1≠0)(x:ac):Ev2 (λ n _=>bX n (.mk [] 0 0 (eD e)) x) (λ z=>(z.1,z.2.1)=tU (.inl e)):=by
 exact KT
theorem Qn {f:Nat}(hW:∀ f',f'<f->RW f'):∀ (s:Bk) (a:Int) q,0<=a->a+(s.length:Int)<=1000000000->kj (f+1) s a=some q->Ev2 (λ n _=>io n s a) (·=tU q):=by
 intro s a q h0 h1 hq;rw [kj] at hq;refine aS ?_;simp only [io]
 cases hr:eW f a a [] [] false s with
 | none=>rw [hr] at hq; cases hq
 | some y=>
  rw [hr] at hq;have Ul:=(fct f).r a a [] [] false s (2*s.length) h0 h1 (by decide) (λ y hy=>by cases hy) G y hr;have hread:=vI (F:=f) h0 h1 hW (s.length+1) f 0 [] false (bx _) O (rg _) G (λ _=>⟨rfl,rfl⟩) (q:=y) (by simpa using hr);rcases y with e|⟨frm,pos,text,parts,UC⟩
  ·cases hq
   refine ai ([],false,eD e) (aS ?_) ?_
   ·simp only [me];refine cj (aO Ls ?_);rintro r ⟨he,rfl⟩
    rfl
   ·have he:e.1≠0:=Ul;refine ai (1,0,[],[],3,0,[],[],[],[],a) (ae rfl (ai _ pt (af (show ¬ (0:Int)=1 by decide) (aa rfl)))) ?_;refine ah _ (FI he _) ?_;rintro z hz;exact aa hz
  ·have hq:some (pA (.inr (rQ a (frm,pos,text,parts,UC))))=some q:=hq
   cases hq
   have hz:Sz (rQ a (frm,pos,text,parts,UC)):=vr O Ul;refine ah (λ r=>r=(flS frm pos text parts,UC,dOk)/\(UC=false->flS frm pos text parts=[]/\text=[]\/flS frm pos text parts=[xq text a])) (aS ?_) ?_
   ·simp only [me];refine cj (aO Ls ?_);rintro r ⟨rfl,ho⟩;exact aa ⟨rfl,ho⟩
   ·rintro _ ⟨rfl,ho⟩
    cases UC with
    | true=>
     refine ai (2,0,[],[],0,0,[],[],[],flS frm pos text parts,a) sF ?_;refine ah _ (vu hz) ?_;rintro z hz;exact aa hz
    | false=>
     refine ai (1,0,[],[],3,0,text,[],[],[],a) (ae Z (ai _ pt ?_)) ?_
     ·rcases ho rfl with ⟨h1',h2'⟩|h1'
      ·rw [h1',h2'];exact af (show ¬ (0:Int)=1 by decide) (aa rfl)
      ·rw [h1'];exact ae rfl (ag G (aa rfl))
     ·refine ah _ (vu hz) ?_;rintro z hz;exact aa hz
theorem rol0:Rol 0:=by
 constructor
 ·intro b l L hL M' i I Mp q hI gl h hq; rw [gj] at hq; cases hq
 ·intro Uk li b l _ _ L hL M' i I Mp q hI gl h hq; rw [oO] at hq; cases hq
 ·intro Uk li b l x r5 _ _ _ L hL M' i Mp q gl h hq; rw [pB] at hq; cases hq
 ·intro b l L hL M' i I Mp q hI gl h hq; rw [unS] at hq; cases hq
 ·intro b l x r1 _ L hL M' i I Mp q hI gl h hq; rw [kF] at hq; cases hq
 ·intro b l L hL M' i I Mp q hI gl h hq; rw [mr] at hq; cases hq
 ·intro b l _ L hL M' i I Mp q hI gl h hq; rw [qO] at hq; cases hq
 ·intro b l _ L hL M' j Mp q gl h hq; rw [nY] at hq; cases hq
 ·intro en l out _ _ _ L hL M' i I Mp q hI h hq; rw [iF] at hq; cases hq
 ·intro l out _ _ L hL M' i I Mp q hI h hq; rw [pX] at hq; cases hq
 ·intro l L hL M' i I Mp q hI gl h hq; rw [nV] at hq; cases hq
 ·intro tk k en l _ _ L hL M' i I Mp b q hI _ _ gl h hq; rw [mq] at hq; cases hq
 ·intro s a q _ _ hq; rw [kj] at hq; cases hq
theorem rol:∀ f,(∀ f',f'<=f->Rol f')/\(∀ f',f'<=f->RW f')
 | 0=>⟨λ f' h=>(by
   have:f'=0:=by omega
   subst this; exact rol0),λ f' h=>(by
   have:f'=0:=by omega
   subst this
   intro s a q _ _ hq; rw [gI] at hq; cases hq)⟩
 | f+1=>by
  obtain ⟨i1,i2⟩:=rol f;have ih:=i1 f (bx _);have hR:Rol (f+1):=⟨S3 ih,Tm ih,Rn ih,TC ih,PK ih,T4 ih,Ts ih,S6 ih,Ud ih,TY ih,Tt ih,Q5 ih,Qn (λ f' h=>i2 f' O)⟩
  have hWn:RW (f+1):=TX ih;refine ⟨λ f' h=>?_,λ f' h=>?_⟩
  ·rcases Nat.lt_or_ge f f' with q|q
   ·have:f'=f+1:=by omega
    subst this; exact hR
   ·exact i1 f' q
  ·rcases Nat.lt_or_ge f f' with q|q
   ·have:f'=f+1:=by omega
    subst this; exact hWn
   ·exact i2 f' q
theorem GN (h:p:=by
 have g1:=glt g hs
 exact fp ((stepT g1).e true) (λ n=>(fct n).e true _ g1) (λ _ l2 _ _ g2=>fp o0 (λ _=>dc g2) (λ _ _ _ _ _=>gW))):p:=h
theorem GV (h:p:=by
 exact fp ((stepT (glt g hs)).u b) (λ n=>(fct n).u b _ (glt g hs)) (λ _ _ _ _ _=>gW)):p:=h
def Tot {α:Type}(F:Nat->Option α):Prop:=Ev2 (λ n _=>F n) (λ _=>True)
theorem fp {α β:Type}{x:Nat->PR α}{k:Nat->α->List ab->PR β}{P:α->Prop}{l0:List ab}(h:Tot x)(hx:∀ n,iq P l0 (x n))(hk:∀ a l',P a->l' <:+ l0->Gl l'->Tot (λ n=>k n a l')):Tot (λ n=>pb (x n) (k n)):=by
 obtain ⟨r,_,N,hN⟩:=h;have hr:=hx N r (hN N N (bx _) (bx _));rcases r with e|⟨a,l'⟩
 ·exact ⟨.inl e,trivial,N,λ n m hn hm=>by show pb (x n) (k n)=_; rw [show x n=_ from hN n m hn hm]; rfl⟩
 ·obtain ⟨r2,_,N2,hN2⟩:=hk a l' hr.1 hr.2.1 hr.2.2;refine ⟨r2,trivial,max N N2,λ n m hn hm=>?_⟩;show pb (x n) (k n)=_;rw [show x n=_ from hN n m O O];exact hN2 n m O O
theorem gW {α:Type}{r:α}:Tot (λ _=>some r):=aa trivial
theorem JO {α:Type}{x:Option α}(h:∃ r,x=some r):Tot (λ _=>x):=by
 obtain ⟨r,rfl⟩:=h;exact gW
theorem o0 {b:Bool}{s:Bk}{l:List ab}:Tot (λ _=>eF b s l):=JO (by unfold eF; split <;> exact ⟨_,Z⟩)
theorem Tx {b:Bool}{s:Bk}{l:List ab}:Tot (λ _=>zK b s l):=JO (by unfold zK; split <;> exact ⟨_,Z⟩)
theorem O6 {b:Bool}{l:List ab}:Tot (λ _=>yQ b l):=JO (by unfold yQ; split <;> exact ⟨_,Z⟩)
theorem dA {α:Type}{p:Prop} [Decidable p] {f g:Nat->Option α}(h1:p->Tot f)(h2:¬p->Tot g):Tot (λ n=>if p then f n else g n):=av h1 h2
theorem gX {α:Type}{f:Nat->Option α}(h:Tot (λ n=>f (n+1))):Tot f:=aS h
theorem Ad {α:Type}{x:Nat->Option α}(h:Tot x):∃ r N,∀ n,N<=n->x n=some r:=by
 obtain ⟨r,_,N,hN⟩:=h;exact ⟨r,N,λ n hn=>hN n n hn hn⟩
theorem yv {α:Type}{x:Nat->Option α}(r:α)(N:Nat)(h:∀ n,N<=n->x n=some r):Tot x:=⟨r,trivial,N,λ n _ hn _=>h n hn⟩
def Hp (M:Nat)(l:List ab):Prop:=∀ t∈l,t.Ar=3->t.By.length<M
theorem alS {M:Nat}{l l':List ab}(h:Hp M l)(hs:l' <:+ l):Hp M l':=λ t ht=>h t (hs.subset ht)
theorem QN {b:Bool}{l:List ab}(g:Gl l):hd b l∈l:=by
 have h1:=qJ vZ
 have h2:nf b l <:+ l:=by
  unfold nf
  cases b
  ·exact List.suffix_refl _
  ·exact List.dropWhile_suffix _
 exact h2.subset (by rw [h1]; exact List.mem_cons_self)
structure TA (l:List ab):Prop where
 e:∀ b,Tot (λ n=>gj n b l)
 b:∀ Uk b,Tot (λ n=>oO n Uk b l)
 bl:∀ Uk b x,Sz x->Tot (λ n=>pB n Uk b x l)
 u:∀ b,Tot (λ n=>unS n b l)
 pl:∀ b x,Sz x->Tot (λ n=>kF n b x l)
 i:∀ en,Tot (λ n=>iF n en l)
 t:Tot (λ n=>pX n l)
 lo:∀ a k,Tot (λ n=>mq n a k l)
theorem Pb {K:Nat}(hK:∀ (s:Bk) (a:Int),s.length<K->0<=a->a+(s.length:Int)<=1000000000->Tot (λ n=>kj n s a)):∀ (N:Nat) (l:List ab),l.length<=N->Gl l->Hp K l->TA l:=by
 intro N
 induction N with
 | zero=>
  intro l hl g _;have:=uA g.1;exact absurd (List.length_eq_zero_iff.1 O) this
 | succ N ih=>
  intro l hl g hA;have step:∀ {l':List ab} {b:Bool},l' <:+ tl b l->Gl l'->TA l':=λ {l' b} hs gl=>ih l' (by have:=hs.length_le; have:=gll (b:=b) g; omega) gl (alS hA (hs.trans (tlS b l)));have stepT:∀ {b:Bool},Gl (tl b l)->TA (tl b l):=λ {b} gl=>step (sfx _) gl
  have hs:∀ b,(hd b l).Ar=3->Tot (λ n=>qO n b l):=by
   intro b k3;refine gX ?_;simp only [qO];have tk:=tw vZ;have h1:=tk.1;have h2:=tk.2.2.1 k3;obtain ⟨r,M,hM⟩:=Ad (hK (hd b l).By ((hd b l).fAt+1) (hA _ (QN g) k3) O O);rcases r with e|e
   ·exact yv (.inl e) M λ n hn=>by simp only [hM n hn]
   ·exact yv (.inr (ac.mk e.Ar e.fOp e.AI e.D' e.A' e.BY (hd b l).fAt,tl b l)) M λ n hn=>by simp only [hM n hn]; rfl
  have hn:∀ b,(hd b l).Ar=1->Tot (λ n=>nY n b l):=by
   intro b k1;have g1:=glk g k1 (by decide);refine gX ?_;simp only [nY];refine dA (λ _=>gW) (λ _=>dA (λ _=>gW) (λ _=>dA (λ _=>gW) (λ _=>dA (λ _=>gW) (λ _=>dA (λ hs=>?_) (λ _=>gW)))));have g2:=glt g1 hs;exact fp ((step (b:=b) (tlS b _) g2).i _) (λ n=>(fct n).i _ _ g2) (λ _ _ _ _ _=>gW)
  have hp:∀ b,Tot (λ n=>mr n b l):=by
   intro b;refine gX ?_;simp only [mr];refine dA (λ _=>dA (λ _=>gW) (λ _=>gW)) (λ _=>dA (λ k3=>hs b k3) (λ _=>dA (λ k1=>hn b k1) (λ _=>?_)));refine dA (λ hs=>?_) (λ _=>?_)
   ·exact GN
   refine dA (λ hs=>dA (λ hw=>?_) (λ _=>?_)) (λ _=>dA (λ hs=>dA (λ hw=>?_) (λ _=>?_)) (λ _=>gW))
   ·exact (step (b:=b) (tlS true _) (glw (glt g hs) hw)).lo _ _
   ·exact fp ((stepT (glt g hs)).i _) (λ n=>(fct n).i _ _ (glt g hs)) (λ _ _ _ _ _=>gW)
   ·exact (step (b:=b) (tlS true _) (glw (glt g hs) hw)).lo _ _
   ·exact fp (stepT (glt g hs)).t (λ n=>(fct n).t _ (glt g hs)) (λ _ _ _ _ _=>gW)
  have hpl:∀ b x,Sz x->Tot (λ n=>kF n b x l):=by
   intro b x zx;refine gX ?_;simp only [kF];refine dA (λ hs=>dA (λ hk=>?_) (λ _=>gW)) (λ _=>dA (λ hs=>?_) (λ _=>gW))
   ·exact (step (b:=b) (tlS b _) (glk (glt g hs) hk (by decide))).pl b _ (rR (gln (glt g hs)) (by decide) G (m1 zx))
   ·have g1:=glt g hs;exact fp ((stepT g1).e true) (λ n=>(fct n).e true _ g1) (λ y l2 zy s2 g2=>fp o0 (λ _=>dc g2) (λ _ l3 _ s3 g3=>(step (b:=b) (s3.trans ((tlS true l2).trans (s2.trans (tlS true _)))) g3).pl b _ (rR (by decide) (by decide) G (m2 zx zy))))
  have hu:∀ b,Tot (λ n=>unS n b l):=by
   intro b;refine gX ?_;simp only [unS];refine dA (λ hs=>?_) (λ _=>dA (λ hs=>?_) (λ _=>?_))
   ·exact GV
   ·exact GV
   ·exact fp (hp b) (λ n=>(fct n).p b l g) (λ x l1 zx s1 g1=>(step s1 g1).pl b x zx)
  have hbl:∀ Uk b x,Sz x->Tot (λ n=>pB n Uk b x l):=by
   intro Uk b x zx;refine gX ?_;simp only [pB]
   cases ha:wc b l Uk with
   | none=>exact gW
   | some p=>
    have hs:sgB b l p.1=true:=List.find?_some (p:=λ p:Bk×Int=>sgB b l p.1) ha;exact fp ((stepT (glt g hs)).b _ b) (λ n=>(fct n).b _ b _ (glt g hs)) (λ y l1 zy s1 g1=>(step (b:=b) (s1.trans (tlS b _)) g1).bl Uk b _ (rR (by decide) (by decide) G (m2 zx zy)))
  have hb:∀ (k Uk:Nat) b,6<=Uk+k->Tot (λ n=>oO n Uk b l):=by
   intro k
   induction k with
   | zero=>
    intro Uk b hk;refine gX ?_;simp only [oO];exact dA (λ _=>hu b) (λ h=>absurd O h)
   | succ k ihk=>
    intro Uk b hk;refine gX ?_;simp only [oO];exact dA (λ _=>hu b) (λ _=>fp (ihk (Uk+1) b O) (λ n=>(fct n).b _ b l g) (λ x l1 zx s1 g1=>(step s1 g1).bl Uk b x zx))
  have he:∀ b,Tot (λ n=>gj n b l):=by
   intro b;refine gX ?_;simp only [gj];refine fp (hb 6 0 b (by decide)) (λ n=>(fct n).b 0 b l g) (λ c l1 zc s1 g1=>dA (λ hs=>?_) (λ _=>gW));have g2:=glt g1 hs;exact fp ((step (b:=b) ((tlS b l1).trans s1) g2).e b) (λ n=>(fct n).e b _ g2) (λ a l3 _ s3 g3=>fp o0 (λ _=>dc g3) (λ _ l4 _ s4 g4=>fp ((step (b:=b) (s4.trans ((tlS b l3).trans (s3.trans ((tlS b _).trans ((tlS b l1).trans s1))))) g4).e b) (λ n=>(fct n).e b _ g4) (λ _ _ _ _ _=>gW)))
  have hk:Tot (λ n=>nV n l):=by
   refine gX ?_;simp only [nV];refine dA (λ _=>gW) (λ _=>dA (λ k3=>hs true k3) (λ _=>dA (λ hs=>?_) (λ _=>gW)));exact GN
  have hi:∀ en,Tot (λ n=>iF n en l):=by
   intro en;refine gX ?_;simp only [iF];refine dA (λ _=>gW) (λ _=>fp (he true) (λ n=>(fct n).e true l g) (λ x l1 _ s1 g1=>dA (λ hs=>?_) (λ _=>fp o0 (λ _=>dc g1) (λ _ _ _ _ _=>gW))));have g2:=glt g1 hs;exact fp ((step (b:=true) ((tlS true l1).trans s1) g2).i en) (λ n=>(fct n).i _ _ g2) (λ _ _ _ _ _=>gW)
  have ht:Tot (λ n=>pX n l):=by
   refine gX ?_;simp only [pX];refine dA (λ _=>gW) (λ _=>fp hk (λ n=>(fct n).k l g) (λ x l1 _ s1 g1=>fp o0 (λ _=>dc g1) (λ _ l2 _ s2 g2=>?_)));have s2':=s2.trans ((tlS true l1).trans s1);refine fp ((step (b:=true) s2' g2).e true) (λ n=>(fct n).e true _ g2) (λ y l3 _ s3 g3=>dA (λ hs=>?_) (λ _=>fp o0 (λ _=>dc g3) (λ _ _ _ _ _=>gW)));have g4:=glt g3 hs;exact fp (step (b:=true) ((tlS true l3).trans (s3.trans ((tlS true l2).trans s2'))) g4).t (λ n=>(fct n).t _ g4) (λ _ _ _ _ _=>gW)
  have hlo:∀ a k,Tot (λ n=>mq n a k l):=by
   intro a k;refine gX ?_;simp only [mq];refine fp O6 (λ _=>pK g) (λ v l1 _ s1 g1=>?_);refine fp (P:=Tr) (l0:=l1) (dA (λ hs=>fp O6 (λ _=>pK (glt g1 hs)) (λ _ _ _ _ _=>gW)) (λ _=>gW)) (λ _=>cT (λ hs=>dK (pK (glt g1 hs)) (t1 (tlS true l1)) λ w l2 _ s2 g2=>ez trivial s2 g2) (λ _=>ez trivial (sfx _) g1)) (λ nk l2 _ s2 g2=>?_);have q2:=s2.trans s1;refine fp Tx (λ _=>Cq g2) (λ _ l3 _ s3 g3=>?_);have q3:=s3.trans ((tlS true l2).trans q2);refine fp ((step (b:=true) q3 g3).e true) (λ n=>(fct n).e true _ g3) (λ x l4 _ s4 g4=>?_);have q4:=s4.trans ((tlS true l3).trans q3);refine fp o0 (λ _=>dc g4) (λ _ l5 _ s5 g5=>?_);have q5:=s5.trans ((tlS true l4).trans q4);refine fp ((step (b:=true) q5 g5).e true) (λ n=>(fct n).e true _ g5) (λ c l6 _ s6 g6=>?_);have q6:=s6.trans ((tlS true l5).trans q5);refine fp (P:=Tr) (l0:=l6) (dA (λ _=>fp o0 (λ _=>dc g6) (λ _ l7 _ s7 g7=>fp ((step (b:=true) (s7.trans ((tlS true l6).trans q6)) g7).e true) (λ n=>(fct n).e true _ g7) (λ _ _ _ _ _=>gW))) (λ _=>gW)) (λ n=>cT (λ _=>dK (dc g6) (tlS true l6) λ _ l7 _ s7 g7=>dK ((fct n).e true l7 g7) (t1 s7) λ d l8 _ s8 g8=>ez trivial s8 g8) (λ _=>ez trivial (sfx _) g6)) (λ ks l7 _ s7 g7=>?_);have q7:=s7.trans q6;refine fp (P:=Tr) (l0:=l7) (dA (λ hw=>fp ((step (b:=true) ((tlS true l7).trans q7) (glw g7 hw)).e true) (λ n=>(fct n).e true _ (glw g7 hw)) (λ _ _ _ _ _=>gW)) (λ _=>gW)) (λ n=>cT (λ hw=>dK ((fct n).e true _ (glw g7 hw)) (t1 (tlS true l7)) λ e l8 _ s8 g8=>ez trivial s8 g8) (λ _=>ez trivial (sfx _) g7)) (λ ks l8 _ s8 g8=>?_);exact fp o0 (λ _=>dc g8) (λ _ _ _ _ _=>gW)
  exact ⟨he,λ Uk b=>hb 6 Uk b O,hbl,hu,hpl,hi,ht,hlo⟩
theorem w9:∀ (k:Nat) (l:Bk),l.length<k->(∀ d,Tot (λ n=>gu n d l))/\Tot (λ n=>iN n l)
 | 0,_,h=>absurd h (Nat.not_lt_zero _)
 | k+1,[],_=>⟨λ d=>gX (by simp only [gu]; exact gW),gX (by simp only [iN]; exact gW)⟩
 | k+1,b::r,h=>by
  have hl:(b::r).length=r.length+1:=rfl;have ih:=λ (l:Bk) (hl':l.length<=r.length)=>w9 k l O;constructor
  ·intro d;refine gX ?_;simp only [gu];refine dA (λ _=>(ih r (bx _)).1 _) (λ _=>dA (λ _=>dA (λ _=>gW) (λ _=>(ih r (bx _)).1 _)) (λ _=>dA (λ _=>?_) (λ _=>(ih r (bx _)).1 _)));obtain ⟨q,_,N,hN⟩:=(ih r (bx _)).2;have hq:=hN N N (bx _) (bx _)
   cases q with
   | none=>exact ⟨none,trivial,N,λ n m hn hm=>by simp only [show iN n r=_ from hN n m hn hm]⟩
   | some r'=>
    have hsf:=(jf N).2 _ _ hq;obtain ⟨q2,_,N2,hN2⟩:=(ih r' O).1 d;refine ⟨q2,trivial,max N N2,λ n m hn hm=>?_⟩;simp only [show iN n r=_ from hN n m O O];exact hN2 n m O O
  ·refine gX ?_;simp only [iN];refine dA (λ _=>gW) (λ _=>dA (λ _=>(ih _ ja).2) (λ _=>dA (λ _=>(ih _ ja).2) (λ _=>dA (λ _=>?_) (λ _=>(ih r (bx _)).2))));obtain ⟨q,_,N,hN⟩:=(ih ((b::r).drop 2) ja).1 1;have hq:=hN N N (bx _) (bx _)
   cases q with
   | none=>exact ⟨none,trivial,N,λ n m hn hm=>by simp only [show gu n 1 ((b::r).drop 2)=_ from hN n m hn hm]⟩
   | some r'=>
    have hsf:=(jf N).1 _ _ _ hq;have h2:=hsf.2;rw [n6] at h2;obtain ⟨q2,_,N2,hN2⟩:=(ih r' O).2;refine ⟨q2,trivial,max N N2,λ n m hn hm=>?_⟩;simp only [show gu n 1 ((b::r).drop 2)=_ from hN n m O O];exact hN2 n m O O
theorem EM {M:Nat}(hW:∀ (s:Bk) (a:Int),s.length<M->0<=a->a+(s.length:Int)<=1000000000->Tot (λ n=>gI n s a)):∀ (k:Nat) (s:Bk) (frm pos:Int) (text:Bk) (parts:List ac) (UC:Bool),s.length<k->s.length<=M->0<=pos->pos+(s.length:Int)<=1000000000->Tot (λ n=>eW n frm pos text parts UC s)
 | 0,_,_,_,_,_,_,h,_,_,_=>absurd h (Nat.not_lt_zero _)
 | k+1,[],_,_,_,_,_,_,_,_,_=>gX (by simp only [eW]; exact gW)
 | k+1,c::r,frm,pos,text,parts,UC,h,hM,h0,h1=>by
  have hl:(c::r).length=r.length+1:=rfl;refine gX ?_;simp only [eW];refine dA (λ hx=>dA (λ _=>gW) (λ _=>?_)) (λ _=>dA (λ hx=>?_) (λ _=>?_))
  ·have:=my hx;simp only [aq,mv] at this;exact EM hW k _ _ _ _ _ _ ja ja O ja
  ·have hpl:=my hx;simp only [aq,mv] at hpl;obtain ⟨q,_,N,hN⟩:=(w9 ((c::r).length+1) ((c::r).drop 2) ja).1 1;have hq:=hN N N (bx _) (bx _)
   cases q with
   | none=>exact ⟨.inl (40,pos),trivial,N,λ n m hn hm=>by simp only [show gu n 1 ((c::r).drop 2)=_ from hN n m hn hm]⟩
   | some r'=>
    have hsf:=(jf N).1 _ _ _ hq;have h2:=hsf.2;rw [n6] at h2;have hw:=hW (((c::r).drop 2).take (((c::r).drop 2).length-r'.length-1)) (pos+2) (by rw [List.length_take,n6]; omega) O (by rw [List.length_take,n6]; omega);obtain ⟨z,N1,hN1⟩:=Ad hw;rcases z with e|e
    ·exact yv (.inl e) (max N N1) λ n hn=>by simp only [show gu n 1 ((c::r).drop 2)=_ from hN n n O O,hN1 n O]
    ·obtain ⟨q2,N2,hN2⟩:=Ad (EM hW k r' (pos+(((c::r).length-r'.length:Nat):Int)) (pos+(((c::r).length-r'.length:Nat):Int)) [] (flS frm pos text parts++[e]) true O O O O);refine yv q2 (max N (max N1 N2)) λ n hn=>?_;simp only [show gu n 1 ((c::r).drop 2)=_ from hN n n O O,hN1 n O];exact hN2 n O
  ·cases hi:iY (c::r) with
   | inl k=>exact gW
   | inr tn=>
    obtain ⟨t,n'⟩:=tn;have:=rp hi;exact dA (λ _=>gW) (λ _=>EM hW k _ _ _ _ _ _ ja ja O ja)
theorem Tg {K:Nat}(hK:∀ (s:Bk) (a:Int),s.length<K->0<=a->a+(s.length:Int)<=1000000000->Tot (λ n=>kj n s a))(s:Bk)(a:Int)(hs:s.length<K+2)(h0:0<=a)(h1:a+(s.length:Int)<=1000000000):Tot (λ n=>gI n s a):=by
 refine gX ?_;simp only [gI];refine dA (λ _=>gW) (λ hk=>?_);have hk:(dv s).2.Ar=0:=Classical.not_not.1 hk;have hg:=rV h0 h1 hk
 have hA:Hp K ((dv s).1.map (mvT a)):=by
  intro t ht h3;obtain ⟨y,hy,rfl⟩:=List.mem_map.1 ht;have:=(rA h0 h1 hk).2.1 y hy h3;show y.By.length<K;omega
 obtain ⟨z,N,hN⟩:=Ad ((Pb hK _ _ (bx _) hg hA).e true);rcases z with e|⟨x,l⟩
 ·exact yv (.inl e) N λ n hn=>by simp only [hN n hn]
 ·by_cases h6:(hd true l).Ar=6
  ·exact yv (.inr x) N λ n hn=>by simp only [hN n hn,if_pos h6]
  ·exact yv (.inl (2,(hd true l).fAt)) N λ n hn=>by simp only [hN n hn,if_neg h6]
theorem Kc:∀ (K:Nat) (s:Bk) (a:Int),s.length<K->0<=a->a+(s.length:Int)<=1000000000->Tot (λ n=>kj n s a)
 | 0,_,_,h,_,_=>absurd h (Nat.not_lt_zero _)
 | K+1,s,a,h,h0,h1=>by
  refine gX ?_;simp only [kj];have hr:=EM (M:=s.length) (λ s' a' hs' h0' h1'=>Tg (K:=K) (λ s'' a''=>Kc K s'' a'') s' a' O h0' h1') (s.length+1) s a a [] [] false O (bx _) h0 h1;obtain ⟨z,N,hN⟩:=Ad hr;rcases z with e|z
  ·exact yv (.inl e) N λ n hn=>by simp only [hN n hn]
  ·exact yv (pA (.inr (rQ a z))) N λ n hn=>by simp only [hN n hn]
theorem HU (b:Bool)(l:List ab)(g:Gl l):∃ n q,gj n b l=some q:=by
 have hA:∃ K,Hp K l:=by
  clear g
  induction l with
  | nil=>exact ⟨0,λ t ht=>by cases ht⟩
  | cons t r ih=>
   obtain ⟨K,hK⟩:=ih;refine ⟨max K (t.By.length+1),λ y hy h3=>?_⟩;rcases ro.1 hy with rfl|hy
   ·omega
   ·have:=hK y hy h3; omega
 obtain ⟨K,hA⟩:=hA;obtain ⟨q,_,N,hN⟩:=(Pb (λ s' a'=>Kc K s' a') _ _ (bx _) g hA).e b;exact ⟨N,q,hN N N (bx _) (bx _)⟩
end Go.Ab.R06
end
section
namespace Go.Ab.R06
open Go.Proofs Go.Ab Go.Ab.RB
set_option maxRecDepth 4000
attribute [local irreducible] awp hH bc bG co AV.sub M cO
instance SQ:HE Tryz.prog 23:=⟨Tryz.call23⟩
instance Sa:HE Tryz.prog 37:=⟨Tryz.call37⟩
abbrev uG (F:ac->ac->Option (Bool))(k:Nat):Prop:=∀ (a0:ac) (a1:ac) (r:Bool),HP (F a0 a1=some r) Tryz.prog k [.agg (ac.cs a0),.agg (ac.cs a1)] (.p (eB r))
def eM (VF:ac->ac->Option Bool)(a_0:ac)(UB:ac):Nat->Int->Option (Unit⊕Bool)|0,_=>none|m+1,i18=>if i18<(a_0.BY.length:Int) then ck ((0:Int)<=i18/\i18<(a_0.BY.length:Int))<|ck ((0:Int)<=i18/\i18<(UB.BY.length:Int))<|(VF (lat a_0.BY i18) (lat UB.BY i18)).bind λ V9=>if (!V9)=true then some (.inr false)else ck (inR (i18+1))<|eM VF a_0 UB m (i18+1)else some (.inl ())
def gv:Nat->ac->ac->Option Bool|0,_,_=>none|n+1,a_0,UB=>(if a_0.Ar=UB.Ar then if a_0.fOp=UB.fOp then if a_0.AI=UB.AI then if a_0.D'=UB.D' then(gp n a_0.A' UB.A').bind λ r5=>if (!r5)=true then some true else some (!decide ((a_0.BY.length:Int)=(UB.BY.length:Int)))else some true else some true else some true else some true).bind λ t8=>if t8=true then some false else jn (eM (gv n) a_0 UB n 0) λ _q28=>some true
instance Hx (n:Nat):uG (gv n) 23:=by
 induction n with
 | zero=>exact Zr
 | succ n ih=>
 refine λ a_0 UB=>hP good Tryz.func23 Z Z λ r h0 _ w0=>?_;rw [gv] at h0;refine nx 8 Z (bd h0 λ W4 h1 h0=>?_);refine kN W4 (λ VL=>⟨[(2,.ptr 2 0),(3,.ptr 3 0),(48,.p (eB VL))],[(2,(ac.cs a_0).map .p),(3,(ac.cs UB).map .p)]⟩) ?_ ?_
 ·refine nx 1 Z (fB [48] h0 Z (λ c9 h0=>?_) λ c9 h0=>?_)
  ·exact vl
  refine nx 8 rfl ?_;obtain ⟨Za,h1,UV,hR0⟩:=bo h0;refine kEx 0 (λ YO:Unit=>Za=.inl YO) (λ YO=>⟨[],[]⟩) (λ YO hv=>?_) ?_
  ·have h0:=UV _ hv;exact vl
  refine lG (λ (Zy:Int)=>⟨[(2,.ptr 2 0),(3,.ptr 3 0),(5,.p (eI Zy))],[(2,(ac.cs a_0).map .p),(3,(ac.cs UB).map .p)]⟩) (λ m (Zy:Int)=>eM (gv n) a_0 UB m Zy) Y 0 h1 (gE rfl rfl) ?_;rintro m i18 h1;replace h1:eM (gv n) a_0 UB (m+1) i18=some Za:=h1;rw [eM] at h1;refine nx 6 rfl (oLl (f:=ak) rfl rfl ?_);refine nx 2 rfl (fD [53] h1 rfl (λ XP h1=>?_) λ XP h1=>?_)
  ·refine nx 5 Z (cc' h1 λ WT h1=>?_);refine cc' h1 λ Wp h1=>bd h1 λ V9 e23 h1=>mD [(2,.ptr 2 0),(3,.ptr 3 0),(5,.p (eI i18))] Z ⟨Z,Z,Z,trivial⟩ Z (dR 3 Z ?_);refine dq (.rptr (ac.cs (lat a_0.BY i18))) [57,58] Z (λ _ e _ q=>ap Z (jG (f:=ak) (l:=a_0.BY) ac.cs Z Z Z Z Z Z (e _ _ Z) Z (e _ _ Z) WT ac.It Y q)) Z (dR 4 Z ?_);refine dq (.rptr (ac.cs (lat UB.BY i18))) [62,63] Z (λ _ e _ q=>ap Z (jG (f:=ak) (l:=UB.BY) ac.cs Z Z Z Z Z Z (e _ _ Z) Z (e _ _ Z) Wp ac.It Y q)) Z (dR 1 Z ?_);refine dq (.p (eB V9)) [60,65] Z (λ _ e _ q=>ap Z (cW (HP.c e23) Z Z Z (aE (e _ _ Z) (aE (e _ _ Z) bz)) ⟨sr,sr,trivial⟩ Tryz.call23 Z q)) Z (dR 1 Z ?_);refine dE Z (nx 1 Z ?_);refine fB [67] h1 Z (λ Yk h1=>?_) λ Yk h1=>?_
   ·exact yD
   refine nx 4 Z (oA h1 Z Z λ WS h1=>?_);exact nx 2 Z (eX (i18+1) h1 (gE Z Z))
  exact uC
 refine nx 7 Z (fN [10,11] h1 Z (λ c1 h1=>?_) λ c1 h1=>?_)
 ·refine nx 7 Z (fN [16,17,18] h1 Z (λ c2 h1=>?_) λ c2 h1=>?_)
  ·refine nx 4 Z (oS Z Z ?_);refine nx 2 Z (fN [23,24,25] h1 Z (λ c3 h1=>?_) λ c3 h1=>?_)
   ·refine nx 4 Z (oS Z Z ?_);refine nx 2 Z (fN [30,31,32] h1 Z (λ c4 h1=>?_) λ c4 h1=>?_)
    ·refine nx 4 Z (K1 λ r5 h1=>nx 3 Z ?_);refine fB [38,39,40] h1 Z (λ c7 h1=>?_) λ c7 h1=>?_
     ·exact nx 9 Z fS
     refine nx 2 Z (oLl (f:=ak) Z Z ?_);refine nx 2 Z (oLl (f:=ak) Z Z ?_);exact De
    exact Bw
   exact nx 24 Z fS
  exact nx 31 Z fS
 exact nx 38 Z fS
def dy (Vo:ac->ac->Option Bool)(a_0:ac)(UB:ac):Nat->Int->Option (Unit⊕Bool)|0,_=>none|m+1,i12=>(if i12<(a_0.BY.length:Int) then some (decide (i12<(UB.BY.length:Int)))else some false).bind λ YY=>if YY=true then ck ((0:Int)<=i12/\i12<(a_0.BY.length:Int))<|ck ((0:Int)<=i12/\i12<(UB.BY.length:Int))<|(Vo (lat a_0.BY i12) (lat UB.BY i12)).bind λ Vx=>if (!Vx)=true then some (.inr false)else ck (inR (i12+1))<|dy Vo a_0 UB m (i12+1)else some (.inl ())
def eh:Nat->ac->ac->Option Bool|0,_,_=>none|n+1,a_0,UB=>if a_0.fAt=UB.fAt then jn (dy (eh n) a_0 UB n 0) λ _XW=>some true else some false
instance Fy (n:Nat):uG (eh n) 37:=by
 induction n with
 | zero=>exact Zr
 | succ n ih=>
 refine λ a_0 UB=>hP good Tryz.func37 Z Z λ r h0 _ w0=>?_;rw [eh] at h0;refine nx 15 Z (fN [10] h0 Z (λ c1 h0=>?_) λ c1 h0=>?_)
 ·refine nx 8 rfl ?_;obtain ⟨W8,h1,UV,hR0⟩:=bo h0;refine kEx 0 (λ WY:Unit=>W8=.inl WY) (λ WY=>⟨[],[]⟩) (λ WY hv=>?_) ?_
  ·have h0:=UV _ hv;exact vl
  refine lG (λ (q27:Int)=>⟨[(2,.ptr 2 0),(3,.ptr 3 0),(5,.p (eI q27))],[(2,(ac.cs a_0).map .p),(3,(ac.cs UB).map .p)]⟩) (λ m (q27:Int)=>dy (eh n) a_0 UB m q27) Y 0 h1 (gE rfl rfl) ?_;rintro m i12 h1;replace h1:dy (eh n) a_0 UB (m+1) i12=some W8:=h1;rw [dy] at h1;refine nx 2 rfl (bd h1 λ o28 h2 h1=>?_);refine kN o28 (λ v29=>⟨[(2,.ptr 2 0),(3,.ptr 3 0),(5,.p (eI i12)),(22,.p (eB v29))],[(2,(ac.cs a_0).map .p),(3,(ac.cs UB).map .p)]⟩) ?_ ?_
  ·refine nx 1 Z (fB [22] h1 Z (λ YJ h1=>?_) λ YJ h1=>?_)
   ·refine nx 5 Z (cc' h1 λ V7 h1=>?_);refine cc' h1 λ XC h1=>bd h1 λ Vx e19 h1=>mD [(2,.ptr 2 0),(3,.ptr 3 0),(5,.p (eI i12))] Z ⟨Z,Z,Z,trivial⟩ Z (dR 3 Z ?_);refine dq (.rptr (ac.cs (lat a_0.BY i12))) [26,27] Z (λ _ e _ q=>ap Z (jG (f:=ak) (l:=a_0.BY) ac.cs Z Z Z Z Z Z (e _ _ Z) Z (e _ _ Z) V7 ac.It Y q)) Z (dR 4 Z ?_);refine dq (.rptr (ac.cs (lat UB.BY i12))) [31,32] Z (λ _ e _ q=>ap Z (jG (f:=ak) (l:=UB.BY) ac.cs Z Z Z Z Z Z (e _ _ Z) Z (e _ _ Z) XC ac.It Y q)) Z (dR 1 Z ?_);refine dq (.p (eB Vx)) [29,34] Z (λ _ e _ q=>ap Z (cW (HP.c e19) Z Z Z (aE (e _ _ Z) (aE (e _ _ Z) bz)) ⟨sr,sr,trivial⟩ Tryz.call37 Z q)) Z (dR 1 Z ?_);refine dE Z (nx 1 Z ?_);refine fB [36] h1 Z (λ c20 h1=>?_) λ c20 h1=>?_
    ·exact yD
    refine nx 4 Z (oA h1 Z Z λ Wp h1=>?_);exact nx 2 Z (eX (i12+1) h1 (gE Z Z))
   exact uC
  refine nx 4 Z (oLl (f:=ak) Z Z ?_);refine nx 2 Z (fD [15,16] h2 Z (λ YL h2=>?_) λ YL h2=>?_)
  ·refine nx 3 Z (oLl (f:=ak) Z Z ?_);exact nx 3 Z sR
  exact nx 7 Z sR
 exact vl
def lM (n:Nat)(a_0:ac)(UB:ac):Option Bool :=((gv n a_0 UB).bind λ r1=>if r1=true then(eh n a_0 UB).bind λ r4=>some r4 else some false).bind λ t6=>some t6
instance J4 (n:Nat):uG (lM n) 18:=by
 refine λ a_0 UB=>hP good Tryz.func18 Z Z λ r h0 _ w0=>?_;unfold lM at h0;refine nx 7 Z (bd h0 λ o8 h1 h0=>?_);refine kN o8 (λ v9=>⟨[(4,.p (eB v9))],[]⟩) ?_ ?_
 ·exact nx 2 Z (mQ (oi h0) Z (sr))
 refine nx 3 Z (K1 λ r1 h1=>nx 1 Z ?_);refine fB [7,8] h1 Z (λ c3 h1=>?_) λ c3 h1=>?_
 ·refine nx 2 Z (K1 λ r4 h1=>nx 3 Z ?_);exact eX _ (oi h1).symm (gE Z Z)
 exact vK
end Go.Ab.R06
end
section
namespace Go.Ab.R06
open Go.Proofs Go.Ab Go.Ab.RB
variable {p:Prop}
theorem Ii (h:p:=by
 exact ae O (ag O (ag O (ai _ (ih _ (xc O)) (af (by decide) (ag (bv O O) (ihk (i+1) O))))))):p:=h
theorem LH (h:p:=by exact ag (bv O O) (ihk (i+1) O)):p:=h
theorem zB {v:am}(hb:VSz v):Ev2 (λ n _=>gp n v v) (·=true):=by
 induction hb with
 | @mk x hv hs ih=>
  have l1:∀ k i:Nat,i+k=x.C'.length->Ev2 (λ _ m=>eG x x m i) (·=.inl ()):=by
   intro k
   induction k with
   | zero=>intro i hi; exact aw (by simp only [eG]; exact af O (aa rfl))
   | succ k ihk=>
    intro i hi;refine aw ?_;simp only [eG];exact ae O (ag O (ag O (ae (by trivial) LH)))
  have l2:∀ k i:Nat,i+k=x.Df.length->Ev2 (λ n m=>eH (gp n) x x m i) (·=.inl ()):=by
   intro k
   induction k with
   | zero=>intro i hi; exact aw (by simp only [eH]; exact af O (aa rfl))
   | succ k ihk=>
    intro i hi;refine aw ?_;simp only [eH];exact Ii
  refine aS ?_;simp only [gp];refine ai false (ae (by trivial) (ae (by trivial) (ae (by trivial) (ae (by trivial) vW)))) (af (by decide) ?_);exact ek () (aN (f:=λ n m=>eG x x m 0) (l1 x.C'.length 0 O)) (ek () (aN (f:=λ n m=>eH (gp n) x x m 0) (l2 x.Df.length 0 O)) (aa Z))
theorem alike_refl {e:ac}(hb:Sz e):Ev2 (λ n _=>gv n e e) (·=true):=by
 induction hb with
 | @mk x hn hk hw hc hs ih=>
  have l1:∀ k i:Nat,i+k=x.BY.length->Ev2 (λ n m=>eM (gv n) x x m i) (·=.inl ()):=by
   intro k
   induction k with
   | zero=>intro i hi; exact aw (by simp only [eM]; exact af O (aa rfl))
   | succ k ihk=>
    intro i hi;refine aw ?_;simp only [eM];exact Ii
  refine aS ?_;simp only [gv];refine ai false (ae (by trivial) (ae (by trivial) (ae (by trivial) (ae (by trivial) (ai _ (zB hw) (af (by decide) vW)))))) (af (by decide) ?_);exact ek () (aN (f:=λ n m=>eM (gv n) x x m 0) (l1 x.BY.length 0 O)) (aa Z)
theorem yz {e:ac}(hb:Sz e):Ev2 (λ n _=>eh n e e) (·=true):=by
 induction hb with
 | @mk x hn hk hw hc hs ih=>
  have l1:∀ k i:Nat,i+k=x.BY.length->Ev2 (λ n m=>dy (eh n) x x m i) (·=.inl ()):=by
   intro k
   induction k with
   | zero=>intro i hi; exact aw (by simp only [dy]; exact ai false (af O (aa rfl)) (af (by decide) (aa rfl)))
   | succ k ihk=>
    intro i hi;refine aw ?_;simp only [dy];exact ai true vX (ae (by trivial) (ag O (ag O (ai _ (ih _ vP) (af (by decide) LH)))))
  refine aS ?_;simp only [eh];exact ae (by trivial) (ek () (aN (f:=λ n m=>dy (eh n) x x m 0) (l1 x.BY.length 0 O)) (aa Z))
theorem BK {e:ac}(hb:Sz e):Ev2 (λ n _=>lM n e e) (·=true):=by
 simp only [lM];exact ai true (ai _ (alike_refl hb) (ae (by trivial) (ai _ (yz hb) (aa rfl)))) (aa rfl)
theorem Af:Sz e0:=.mk (by decide) (by decide) Dl (by decide) (λ _ h=>by cases h)
theorem RI {q:PE⊕ac}(h:∀ x,q=.inr x->Sz x):Sz (tU q).1:=by
 cases q with
 | inl e=>exact Af
 | inr x=>exact h x Z
theorem M3 {q:PE⊕ac}(h:∀ x,q=.inr x->Sz x):∀ x,pA q=.inr x->Sz x:=by
 cases q with
 | inl e=>intro x hx; cases hx
 | inr y=>
  intro x hx;unfold pA at hx;dsimp only at hx;split at hx
  ·cases hx; exact h _ rfl
  ·cases hx
theorem My {s:Bk}{f:Nat}{q:PE⊕ac}(hs:(s.length:Int)<=1000000)(hq:gI f s 0=some q):Ev2 (λ n _=>iL n s) (·=tU (pA q)):=by
 have hz:=(fct f).w s 0 O O  q hq;have h1:=(fol f).w s 0 q O O  hq;simp only [iL];refine ah _ h1 λ r hr=>?_
 cases q with
 | inl e=>
  obtain ⟨he,hr⟩:=hr;refine ai (tU (pA (.inl e))) ?_ (aa rfl);simp only [fA];rw [hr];exact rW
 | inr x=>
  replace hr:r=(x,dOk):=hr;subst hr;exact BA
set_option maxRecDepth 4000
attribute [local irreducible] awp hH bc bG co AV.sub M cO
end Go.Ab.R06
end
section
namespace Go.Ab.R06
open Go.Proofs Go.Ab Go.Ab.RB Go.Lib
end Go.Ab.R06
end
section
namespace Go.Ab.R06
open Go.Ab Go.Ab.RB Go.Lib
variable {p:Prop}
theorem BF (h:p:=by simp [hasPrefix,List.isPrefixOf]):p:=h
theorem O5 (l:Bk):fb false l=l.dropWhile dj:=by
 unfold fb
 cases l.dropWhile dj <;> rfl
theorem uV (p:UInt8->Bool):∀ l:Bk,∀ z∈l.takeWhile p,p z=true
 | [],z,hz=>by cases hz
 | a::l,z,hz=>by
  rw [List.takeWhile_cons] at hz;split at hz
  ·rename_i ha;rcases ro.1 hz with rfl|hz
   ·exact ha
   ·exact uV p l z hz
  ·cases hz
theorem Ez (p:UInt8->Bool):∀ l:Bk,∀ z∈(l.dropWhile p).head?,p z=false
 | [],z,hz=>by cases hz
 | a::l,z,hz=>by
  rw [List.dropWhile_cons] at hz;split at hz
  ·exact Ez p l z hz
  ·rename_i ha
   cases hz
   simpa using ha
theorem Cw {p:UInt8->Bool}{t x:Bk}(ht:∀ z∈t,p z=true)(hx:∀ z∈x.head?,p z=false):(t++x).takeWhile p=t/\(t++x).dropWhile p=x:=by
 induction t with
 | nil=>
  cases x with
  | nil=>exact ⟨Z,Z⟩
  | cons z x=>
   have:=hx z rfl;rw [List.nil_append,List.takeWhile_cons,List.dropWhile_cons];simp [this]
 | cons a t ih=>
  have ha:=ht a List.mem_cons_self;obtain ⟨i1,i2⟩:=ih (λ z hz=>ht z (List.mem_cons_of_mem _ hz));rw [List.cons_append,List.takeWhile_cons,List.dropWhile_cons,if_pos ha,if_pos ha,i1,i2];exact ⟨rfl,rfl⟩
theorem MF {l z:Bk}(h:l≠[])(hb:¬ jD (decodeL l)):decodeL (l.take (decodeL l).2++z)=decodeL l:=by
 have hf:=gO l h;obtain ⟨ho,he⟩:=hf.2.2 (λ q=>hb (.inl q));rw [<- he,xX _ ho];have:=congrArg List.length he;rw [List.length_take,Nat.min_eq_left hf.2.1] at this;exact Prod.ext (Int.toNat_natCast _) this
theorem OA (w x y:Bk):hasPrefix (w++34::x) [36,36,123]=hasPrefix (w++34::y) [36,36,123]/\hasPrefix (w++34::x) [36,123]=hasPrefix (w++34::y) [36,123]:=by
 match w with
 | []=>simp [hasPrefix,List.isPrefixOf]
 | [a]=>simp [hasPrefix,List.isPrefixOf]
 | [a,b]=>simp [hasPrefix,List.isPrefixOf]
 | a::b::c::w=>simp [hasPrefix,List.isPrefixOf]
def sgL:List Bk:=mC++jJ.map (λ b=>[b])
theorem Nt {t x y:Bk}(ht:t≠[])(h:x.head? = y.head?):eg (t++x)=eg (t++y):=by
 match t,ht with
 | [a],_=>
  cases x with
  | nil=>
   cases y with
   | nil=>rfl
   | cons z y=>cases h
  | cons z x=>
   cases y with
   | nil=>cases h
   | cons w y=>
    cases h
    simp [eg,mC,hasPrefix,List.isPrefixOf,List.find?,Fg]
 | a::b::t,_=>simp [eg,mC,hasPrefix,List.isPrefixOf,List.find?,Fg]
theorem L3 {b:UInt8}(h:¬ indexByte jJ b<0):b∈jJ:=by
 have hT:(List.range 256).all (λ n=>decide (indexByte jJ (UInt8.ofNat n)<0)||jJ.contains (UInt8.ofNat n))=true:=by decide +kernel
 have:=ph.1 hT b.toNat (List.mem_range.2 (UInt8.toNat_lt b));rw [UInt8.ofNat_toNat,decide_eq_false h,Bool.false_or] at this;exact List.contains_iff_mem.1 this
theorem LD {l:Bk}(h:eg l≠[]):eg l∈sgL/\eg l <+: l:=by
 unfold eg at h ⊢
 cases hf:mC.find? (λ t=>hasPrefix l t) with
 | some t=>exact ⟨List.mem_append_left _ (List.mem_of_find?_eq_some hf),List.isPrefixOf_iff_prefix.1 (List.find?_some (p:=λ t=>hasPrefix l t) hf)⟩
 | none=>
  rw [hf] at h
  cases l with
  | nil=>exact absurd Z h
  | cons b r=>
   dsimp only at h ⊢;rw [qx] at h ⊢;by_cases hb:indexByte jJ b<0
   ·rw [if_pos hb] at h; exact absurd rfl h
   ·rw [if_neg hb];exact ⟨List.mem_append_right _ (List.mem_map_of_mem (L3 hb)),⟨r,rfl⟩⟩
def frst (p:UInt8->Bool):Bk->Bool|[]=>false|a::_=>p a
def sg1 (a:UInt8):Bool:=!gR a&&!cz a&&!decide (a.toNat=10)&&!decide (a.toNat=34)&&!dj a&&!decide (a.toNat=35)
theorem pI {t:Bk}(h:t∈sgL):∃ a w,t=a::w/\sg1 a=true:=by
 have hT:sgL.all (frst sg1)=true:=by decide +kernel
 have:=ph.1 hT t h
 cases t with
 | nil=>cases this
 | cons a w=>exact ⟨a,w,Z,this⟩
theorem NQ (x:Bk):eg (125::x)=[125]:=by
 cases x with
 | nil=>decide
 | cons z x=>rw [show 125::z::x=[125]++(z::x) from rfl]; simp [eg,mC,hasPrefix,List.isPrefixOf,List.find?,Fg]; decide
def Wd (c:Int)(t:Bk):Bk:=if c=3 then 34::(t++[34]) else t
def Qp (src:Bk->SE⊕Bk)(c:Int)(t x:Bk):Prop:=(c=1->∀ z∈x.head?,idB z=false)/\(c=2->∀ z∈x.head?,cz z=false)/\(c=3->src (t++34::x)=.inr x)/\(c=4->eg (t++x)=t)
def WOK (c:Int)(t:Bk):Prop:=(c=6/\t=[])\/(c=1/\∃ b w,t=b::w/\gR b=true)\/(c=2/\∃ b w,t=b::w/\cz b=true)\/c=3\/(c=4/\t∈sgL)\/(c=5/\t=[10])
theorem N3 {b:UInt8}(h:gR b=true):cz b=false:=by
 have h1:=(lJ b).1 h
 cases hd:cz b with
 | false=>rfl
 | true=>have:=(iO b).1 hd; omega
theorem Qu {b:UInt8}(h:gR b=true):b.toNat≠10/\b.toNat≠34/\b.toNat≠35/\dj b=false:=by
 have h1:=(lJ b).1 h;refine ⟨by omega,by omega,by omega,?_⟩;simp [dj]; omega
theorem Jj {b:UInt8}(h:cz b=true):b.toNat≠10/\b.toNat≠34/\b.toNat≠35/\dj b=false/\gR b=false:=by
 have h1:=(iO b).1 h;refine ⟨by omega,by omega,by omega,?_,?_⟩
 ·simp [dj]; omega
 ·cases hl:gR b with
  | false=>rfl
  | true=>rw [N3 hl] at h; cases h
theorem J7 {a:UInt8}(h:sg1 a=true):gR a=false/\cz a=false/\a.toNat≠10/\a.toNat≠34/\dj a=false/\a.toNat≠35:=by
 unfold sg1 at h;simp only [n8,Bool.not_eq_true',decide_eq_false_iff_not] at h;obtain ⟨⟨⟨⟨⟨h1,h2⟩,h3⟩,h4⟩,h5⟩,h6⟩:=h;exact ⟨h1,h2,h3,h4,h5,h6⟩
theorem wN {src:Bk->SE⊕Bk}{b:UInt8}{r:Bk}{c:Int}{t l':Bk}(hs:∀ y,src r=.inr y->∃ p,r=p++34::y)(h:ix src (b::r)=.inr (c,t,l')) :
  b::r=Wd c t++l'/\Qp src c t l'/\WOK c t/\c≠6/\∀ src' x,Qp src' c t x->ix src' (Wd c t++x)=.inr (c,t,x):=by
 rw [ed] at h;split at h
 ·rename_i hb;split at h
  ·cases h
  ·rename_i h64
   cases h
   have hi:idB b=true:=by simp [idB,hb]
   have ht:(b::r).takeWhile idB=b::r.takeWhile idB:=by rw [List.takeWhile_cons,if_pos hi]
   refine ⟨(List.takeWhile_append_dropWhile (p:=idB) (l:=b::r)).symm,⟨λ _=>Ez idB _,λ h=>(by cases h),λ h=>(by cases h),λ h=>(by cases h)⟩,.inr (.inl ⟨rfl,b,_,ht,hb⟩),by decide,λ src' x hf=>?_⟩;have hx:=Cw (uV idB (b::r)) (hf.1 rfl);show ix src' ((b::r).takeWhile idB++x)=_;have e:(b::r).takeWhile idB++x=b::(r.takeWhile idB++x):=by rw [ht]; rfl
   rw [e,ed,if_pos hb,<- e,hx.1,hx.2,if_neg h64]
 split at h
 ·rename_i hl hb
  cases h
  have ht:(b::r).takeWhile cz=b::r.takeWhile cz:=by rw [List.takeWhile_cons,if_pos hb]
  refine ⟨(List.takeWhile_append_dropWhile (p:=cz) (l:=b::r)).symm,⟨λ h=>(by cases h),λ _=>Ez cz _,λ h=>(by cases h),λ h=>(by cases h)⟩,.inr (.inr (.inl ⟨rfl,b,_,ht,hb⟩)),by decide,λ src' x hf=>?_⟩;have hx:=Cw (uV cz (b::r)) (hf.2.1 rfl);show ix src' ((b::r).takeWhile cz++x)=_;have e:(b::r).takeWhile cz++x=b::(r.takeWhile cz++x):=by rw [ht]; rfl
  rw [e,ed,if_neg hl,if_pos hb,<- e,hx.1,hx.2]
 split at h
 ·rename_i hl hd hb
  cases h
  have hb':b=10:=UInt8.toNat_inj.1 hb;subst hb';refine ⟨rfl,⟨λ h=>(by cases h),λ h=>(by cases h),λ h=>(by cases h),λ h=>(by cases h)⟩,.inr (.inr (.inr (.inr (.inr ⟨rfl,rfl⟩)))),by decide,λ src' x _=>?_⟩;show ix src' (10::x)=_;rw [ed,if_neg hl,if_neg hd,if_pos hb]
 split at h
 ·rename_i hl hd hn hb;split at h
  ·cases h
  ·rename_i r' hr
   cases h
   obtain ⟨p,rfl⟩:=hs _ hr
   have hp:(p++34::l').take ((p++34::l').length-l'.length-1)=p:=by
    rw [show (p++34::l').length-l'.length-1=p.length by simp only [n7,aq]; omega];exact List.take_left
   have hb':b=34:=UInt8.toNat_inj.1 hb;subst hb';rw [hp];refine ⟨by show _=34::(p++[34])++l'; simp,⟨λ h=>(by cases h),λ h=>(by cases h),λ _=>hr,λ h=>(by cases h)⟩,.inr (.inr (.inr (.inl rfl))),by decide,λ src' x hf=>?_⟩;have hx:=hf.2.2.1 rfl
   have hp:(p++34::x).take ((p++34::x).length-x.length-1)=p:=by
    rw [show (p++34::x).length-x.length-1=p.length by simp only [n7,aq]; omega];exact List.take_left
   show ix src' (34::(p++[34])++x)=_;rw [List.cons_append,List.append_assoc,List.singleton_append,ed,if_neg hl,if_neg hd,if_neg hn,if_pos hb,hx];dsimp only;rw [hp]
 split at h
 ·cases h
 ·rename_i hl hd hn hq hsg
  cases h
  obtain ⟨hm,hp⟩:=LD hsg;have e:=List.prefix_iff_eq_append.1 hp;refine ⟨e.symm,⟨λ h=>(by cases h),λ h=>(by cases h),λ h=>(by cases h),λ _=>by rw [e]⟩,.inr (.inr (.inr (.inr (.inl ⟨rfl,hm⟩)))),by decide,λ src' x hf=>?_⟩;have hx:=hf.2.2.2 rfl;obtain ⟨a,w,ht,ha⟩:=pI hm;obtain ⟨a1,a2,a3,a4,_⟩:=J7 ha;show ix src' (eg (b::r)++x)=_;have e2:eg (b::r)++x=a::(w++x):=by rw [ht]; rfl
  rw [e2,ed,if_neg (by simp [a1]),if_neg (by simp [a2]),if_neg a3,if_neg a4,<- e2,hx,if_neg hsg,List.drop_left]
theorem xM:∀ f:Nat,(∀ k l y,dz f k l=.inr y->∃ p,l=p++34::y/\∀ g x,f<=g->dz g k (p++34::x)=.inr x)/\(∀ k n l y,iP f k n l=.inr y->∃ p,l=p++125::y/\∀ g x,f<=g->iP g k n (p++125::x)=.inr x)
 | 0=>⟨λ k l y h=>(by rw [dz] at h; cases h),λ k n l y h=>(by rw [iP] at h; cases h)⟩
 | f+1=>by
  obtain ⟨i1,i2⟩:=xM f;have gs:∀ {g},f+1<=g->∃ g',g=g'+1/\f<=g':=λ {g} h=>⟨g-1,by omega,by omega⟩
  constructor
  ·intro k l y h
   cases l with
   | nil=>rw [dz] at h; cases h
   | cons b r=>
    rw [iS] at h;split at h
    ·rename_i hb
     cases h
     have hb':b=34:=UInt8.toNat_inj.1 hb;subst hb';refine ⟨[],rfl,λ g x hg=>?_⟩;obtain ⟨g',rfl,_⟩:=gs hg;rw [List.nil_append,iS,if_pos hb]
    split at h
    ·rename_i h34 hp;obtain ⟨p,hp1,hp2⟩:=i1 _ _ _ h;have e:b::r=[36,36,123]++(b::r).drop 3:=(List.prefix_iff_eq_append.1 (List.isPrefixOf_iff_prefix.1 hp)).symm;refine ⟨36::36::123::p,by rw [e,hp1]; rfl,λ g x hg=>?_⟩;obtain ⟨g',rfl,hg'⟩:=gs hg;show dz (g'+1) k (36::(36::123::(p++34::x)))=_;rw [iS,if_neg (by decide),if_pos BF];exact hp2 g' x hg'
    split at h
    ·rename_i h34 hp0 hp;split at h
     ·cases h
     ·rename_i hk;have e:b::r=[36,123]++(b::r).drop 2:=(List.prefix_iff_eq_append.1 (List.isPrefixOf_iff_prefix.1 hp)).symm;split at h
      ·cases h
      ·rename_i l2 hi;obtain ⟨p1,e1,j1⟩:=i2 _ _ _ _ hi;obtain ⟨p2,e2,j2⟩:=i1 _ _ _ h;refine ⟨36::123::(p1++125::p2),by rw [e,e1,e2]; simp,λ g x hg=>?_⟩;obtain ⟨g',rfl,hg'⟩:=gs hg;have e3:36::123::(p1++125::p2)++34::x=36::(123::(p1++125::(p2++34::x))):=by simp
       rw [e3,iS,if_neg (by decide),if_neg BF,if_pos BF,if_neg hk];have e4:(36::(123::(p1++125::(p2++34::x)))).drop 2=p1++125::(p2++34::x):=rfl;rw [e4,j1 g' _ hg'];exact j2 g' x hg'
    ·rename_i h34 hp1 hp2
     have key:∀ (w:Bk) (c:UInt8) (t:Bk),b::r=w++c::t->(w=[]/\b.toNat≠92\/w=[b]/\b.toNat=92)->¬ jD (decodeL (c::t))->dz f k ((c::t).drop (decodeL (c::t)).2)=.inr y->∃ p,b::r=p++34::y/\∀ g x,f+1<=g->dz g k (p++34::x)=.inr x:=by
      intro w c t hw hw2 hb h;obtain ⟨p,e1,j1⟩:=i1 _ _ _ h;have hd:=gO (c::t) G;have hl:((c::t).take (decodeL (c::t)).2).length=(decodeL (c::t)).2:=by rw [List.length_take,Nat.min_eq_left hd.2.1]
      have et:c::t=(c::t).take (decodeL (c::t)).2++(c::t).drop (decodeL (c::t)).2:=(List.take_append_drop _ _).symm;have hdl:=λ z=>MF (l:=c::t) (z:=z) G hb;generalize hn:(decodeL (c::t)).2=n at *;generalize hq:(c::t).take n=q at *;have hall:b::r=w++(q++(p++34::y)):=by rw [hw,et,e1]
      refine ⟨w++(q++p),by rw [hall]; simp,λ g x hg=>?_⟩;obtain ⟨g',rfl,hg'⟩:=gs hg
      cases q with
      | nil=>simp only [mv] at hl; omega
      | cons a q=>
       have hpf:=OA (w++(a::q++p)) x y;have hy:w++(a::q++p)++34::y=b::r:=by rw [hall]; simp
       rw [hy] at hpf
       have hb0:∃ r2,w++(a::q++p)++34::x=b::r2/\(if b.toNat=92 then r2 else b::r2)=a::q++(p++34::x):=by
        rcases hw2 with ⟨rfl,h92⟩|⟨rfl,h92⟩
        ·have:a=b:=by
          have:=hy; simp at this; exact this.1
         subst this;exact ⟨q++(p++34::x),by simp,by rw [if_neg h92]; simp⟩
        ·exact ⟨a::q++(p++34::x),by simp,by rw [if_pos h92]⟩
       obtain ⟨r2,er,hm⟩:=hb0;rw [er] at hpf ⊢;rw [iS,if_neg h34,if_neg (by rw [hpf.1]; exact hp1),if_neg (by rw [hpf.2]; exact hp2),hm];have hz:=hdl (p++34::x);show (if jD (decodeL (a::q++(p++34::x))) then _ else dz g' k ((a::q++(p++34::x)).drop (decodeL (a::q++(p++34::x))).2))=_;rw [hz,if_neg hb,hn,<- hl,List.drop_left];exact j1 g' x hg'
     by_cases h92:b.toNat=92
     ·rw [if_pos h92] at h
      cases r with
      | nil=>cases h
      | cons c t=>
       dsimp only at h;split at h
       ·cases h
       ·rename_i hb;exact key [b] c t rfl (.inr ⟨rfl,h92⟩) hb h
     ·rw [if_neg h92] at h;dsimp only at h;split at h
      ·cases h
      ·rename_i hb;exact key [] b r rfl (.inl ⟨rfl,h92⟩) hb h
  ·intro k n l y h;rw [j8,O5] at h;have el:=(List.takeWhile_append_dropWhile (p:=dj) (l:=l)).symm;have hB:=uV dj l;have hh:=Ez dj l;generalize l.takeWhile dj=B at el hB;generalize l.dropWhile dj=m at el hh h
   cases m with
   | nil=>rw [Az] at h; cases h
   | cons b r=>
    have hb:dj b=false:=hh b rfl;rw [kb] at h
    cases ht:ix (dz f k) (b::r) with
    | inl e=>rw [ht] at h; cases h
    | inr z=>
     obtain ⟨c,t,l'⟩:=z;rw [ht,jM] at h;obtain ⟨w1,w2,w3,w4,w5⟩:=wN (λ y hy=>by obtain ⟨p,hp,_⟩:=i1 _ _ _ hy; exact ⟨p,hp⟩) ht
     have skp:∀ x,fb false (B++(Wd c t++x))=Wd c t++x:=by
      intro x;rw [O5];refine (Cw hB ?_).2;intro z hz
      cases hw:Wd c t with
      | nil=>
       have:t=[]:=by
        unfold Wd at hw;split at hw
        ·cases hw
        ·exact hw
       subst this;rcases w3 with ⟨h1,_⟩|⟨_,_,_,h1,_⟩|⟨_,_,_,h1,_⟩|h1|⟨_,h1⟩|⟨_,h1⟩
       ·exact absurd h1 w4
       ·cases h1
       ·cases h1
       ·subst h1; cases hw
       ·obtain ⟨_,_,h2,_⟩:=pI h1; cases h2
       ·cases h1
      | cons a w=>
       rw [hw] at hz w1
       cases hz
       have:b=z:=by simpa using (qr w1).1
       rw [<- this]; exact hb
     have up:∀ X g,X.head? = l'.head?->f<=g->Qp (dz g k) c t X:=by
      intro X g hX hg;refine ⟨λ hc=>by rw [hX]; exact w2.1 hc,λ hc=>by rw [hX]; exact w2.2.1 hc,λ hc=>?_,λ hc=>?_⟩
      ·obtain ⟨p,e1,j⟩:=i1 _ _ _ (w2.2.2.1 hc);have:t=p:=List.append_cancel_right e1;subst this;exact j g X hg
      ·have h1:=w2.2.2.2 hc;rcases w3 with ⟨h2,_⟩|⟨h2,_⟩|⟨h2,_⟩|h2|⟨_,h2⟩|⟨h2,_⟩
       ·omega
       ·omega
       ·omega
       ·omega
       ·obtain ⟨a,w,e,_⟩:=pI h2;rw [Nt (by rw [e]; simp) hX]; exact h1
       ·omega
     have rec':∀ n',iP f k n' l'=.inr y->(∀ g x,Gb (iP g k) n (.inr (c,t,x))=iP g k n' x)->∃ p,l=p++125::y/\∀ g x,f+1<=g->iP g k n (p++125::x)=.inr x:=by
      intro n' h hn;obtain ⟨p,e1,j⟩:=i2 _ _ _ _ h;refine ⟨B++(Wd c t++p),by rw [el,w1,e1]; simp,λ g x hg=>?_⟩;obtain ⟨g',rfl,hg'⟩:=gs hg;have e2:B++(Wd c t++p)++125::x=B++(Wd c t++(p++125::x)):=by simp
      have hX:(p++125::x).head? = l'.head?:=by rw [e1]; cases p <;> rfl
      have htk:=w5 (dz g' k) _ (up _ g' hX hg');rw [j8,e2,skp]
      have UK:∃ a w,Wd c t++(p++125::x)=a::w:=by
       cases h9:Wd c t++(p++125::x) with
       | nil=>rw [List.append_eq_nil_iff] at h9; simp at h9
       | cons a w=>exact ⟨a,w,Z⟩
      obtain ⟨a,w,e9⟩:=UK;rw [e9] at htk ⊢;rw [kb,htk,hn];exact j g' x hg'
     by_cases hc:c=4/\t=[125]
     ·rw [if_pos hc] at h;by_cases hn:n=1
      ·rw [if_pos hn] at h
       cases h
       obtain ⟨rfl,rfl⟩:=hc;refine ⟨B,by rw [el,w1]; rfl,λ g x hg=>?_⟩;obtain ⟨g',rfl,hg'⟩:=gs hg;have htk:=w5 (dz g' k) x ⟨λ h=>(by cases h),λ h=>(by cases h),λ h=>(by cases h),λ _=>NQ x⟩;rw [j8,show B++125::x=B++(Wd 4 [125]++x) from rfl,skp];show Od _ _ n (125::x)=_;rw [kb,show ix (dz g' k) (125::x)=_ from htk,jM,if_pos ⟨rfl,rfl⟩,if_pos hn]
      ·rw [if_neg hn] at h;exact rec' _ h λ g x=>by rw [jM,if_pos hc,if_neg hn]
     ·rw [if_neg hc] at h;split at h
      ·rename_i h4;exact rec' _ h λ g x=>by rw [jM,if_neg hc,if_pos h4]
      ·rename_i h4;exact rec' _ h λ g x=>by rw [jM,if_neg hc,if_neg h4]
end Go.Ab.R06
end
section
namespace Go.Ab.R06
open Go.Proofs Go.Ab Go.Ab.RB
set_option maxRecDepth 4000
attribute [local irreducible] awp hH bc bG co AV.sub M cO
end Go.Ab.R06
end
section
namespace Go.Ab.R06
open Go.Ab Go.Ab.RB Go.Lib
theorem Fv (a b:ab):∃ v,md a b=some v:=by
 unfold md strings_HasPrefix strings_Contains
 repeat' (first|exact ⟨_,Z⟩|refine ub ?_ (λ _=>?_)|refine Ep O ?_|refine yU (λ _=>?_) (λ _=>?_))
theorem Oc:sgL.all (λ t=>decide (eg (t++[])=t)&&(List.range 256).all (λ n=>!(gR (UInt8.ofNat n)||cz (UInt8.ofNat n)||decide (n=34)||decide (n=10))||decide (eg (t++[UInt8.ofNat n])=t)))=true:=by decide +kernel
theorem EC {c:Int}{t:Bk}(h:WOK c t)(h6:c≠6):∃ a w,Wd c t=a::w/\dj a=false/\a.toNat≠35/\(c=1->gR a=true)/\(c=2->cz a=true)/\(c=4->sg1 a=true/\t.take 1=[a]/\t∈sgL)/\(c≠4->(gR a||cz a||decide (a.toNat=34)||decide (a.toNat=10))=true)/\(c≠1->gR a=false)/\(c≠1->c≠2->cz a=false):=by
 rcases h with ⟨h1,_⟩|⟨rfl,a,w,rfl,hl⟩|⟨rfl,a,w,rfl,hd⟩|rfl|⟨rfl,hm⟩|⟨rfl,rfl⟩
 ·exact absurd h1 h6
 ·have hn:=Qu hl;exact ⟨a,w,rfl,hn.2.2.2,hn.2.2.1,λ _=>hl,λ h=>(by cases h),λ h=>(by cases h),λ _=>by rw [hl]; rfl,λ h=>absurd rfl h,λ h=>absurd rfl h⟩
 ·have hn:=Jj hd;exact ⟨a,w,rfl,hn.2.2.2.1,hn.2.2.1,λ h=>(by cases h),λ _=>hd,λ h=>(by cases h),λ _=>by rw [hd]; simp,λ _=>hn.2.2.2.2,λ _ h=>absurd rfl h⟩
 ·exact ⟨34,t++[34],rfl,by decide,by decide,λ h=>(by cases h),λ h=>(by cases h),λ h=>(by cases h),λ _=>by decide,λ _=>by decide,λ _ _=>by decide⟩
 ·obtain ⟨a,w,rfl,ha⟩:=pI hm;obtain ⟨a1,a2,a3,a4,a5,a6⟩:=J7 ha;exact ⟨a,w,rfl,a5,a6,λ h=>(by cases h),λ h=>(by cases h),λ _=>⟨ha,rfl,hm⟩,λ h=>absurd rfl h,λ _=>a1,λ _ _=>a2⟩
 ·exact ⟨10,[],rfl,by decide,by decide,λ h=>(by cases h),λ h=>(by cases h),λ h=>(by cases h),λ _=>by decide,λ _=>by decide,λ _ _=>by decide⟩
end Go.Ab.R06
end
section
namespace Go.Ab.R06
open Go.Proofs Go.Ab Go.Ab.RB
variable {p:Prop}
theorem C0 (h:p:=by exact OP (by decide) (by decide +kernel)):p:=h
theorem mX (h:p:=by decide +kernel):p:=h
theorem FC {e:ac}(hb:Sz e):rZ e<=1000000->Ev2 (λ n _=>gD n e) (·=(rZ e:Int)):=by
 induction hb with
 | @mk x zn zk zw zc zs ih=>
  intro h0;have hl:=zc;rw [wM] at h0;refine aS ?_;simp only [gD]
  have loop:∀ (k i:Nat) (c:Int),i+k=x.BY.length->0<=c->c+(pL (x.BY.drop i):Int)<=2000000->pL (x.BY.drop i)<=1000000->Ev2 (λ n m=>ei (gD n) x m c (i:Int)) (·=c+(pL (x.BY.drop i):Int)):=by
   intro k
   induction k with
   | zero=>
    intro i c hi h6 h7 h8;refine aw ?_;simp only [ei];refine af O (aa ?_);rw [List.drop_eq_nil_of_le O]; simp [pL]
   | succ k ihk=>
    intro i c hi h6 h7 h8;refine aw ?_;simp only [ei];rw [qb _ O] at h7 h8 ⊢;simp only [pL] at h7 h8 ⊢;refine ae O (ag O ?_);refine ai _ (ih _ vP O) ?_;refine ag aC (ag aC ?_);refine aO (nF (P:=λ j=>Ev2 (λ n m=>ei (gD n) x m (c+(rZ (lat x.BY (i:Int)):Int)) j) _) (ihk (i+1) _ O O O O)) (λ s hs=>?_);rw [hs]; omega
  refine ai _ (aN (f:=λ n m=>ei (gD n) x m 1 0) (loop x.BY.length 0 1 O O  (by simp only [List.drop_zero]; omega) (by simp only [List.drop_zero]; omega))) (aa ?_);rw [wM]; simp
theorem got {α:Type}{x:Option α}(d:α)(h:x.isSome=true):x=some (x.getD d):=by
 cases x with
 | none=>cases h
 | some y=>rfl
def exS (s:Bk):PE⊕ac:=(gI 60 s 0).getD (.inl (0,0))
theorem OP {s:Bk}(hs:(s.length:Int)<=1000000)(h:(gI 60 s 0).isSome=true):Ev2 (λ n _=>iL n s) (·=tU (pA (exS s))):=My hs (got _ h)
theorem wA:Ev2 (λ n _=>kc n) (·=true):=by
 have e1:(gI 60 [49,32,43,32,50,32,42,32,51] 0).isSome=true:=by decide +kernel
 have z1:Sz (tU (pA (exS [49,32,43,32,50,32,42,32,51]))).1:=RI (M3 λ x hx=>by
  have:=(fct 60).w [49,32,43,32,50,32,42,32,51] 0 (by decide) (by decide) _ (got (.inl (0,0)) e1);rw [show (gI 60 [49,32,43,32,50,32,42,32,51] 0).getD (.inl (0,0))=.inr x from hx] at this
  exact this)
 simp only [kc];refine ai _ (OP (by decide) e1) (ai _ C0 (ai _ C0 (ai _ C0 ?_)));refine ai false (ax mX rfl) (af (by decide) (ai true ?_ (aa rfl)));refine ae mX (ag mX (ae mX (ae mX (ae mX (ae mX (ae mX (ae mX (ai _ (FC z1 mX) (aa mX)))))))))
set_option maxRecDepth 4000
attribute [local irreducible] awp hH bc bG co AV.sub M cO
def jR (n:Nat)(Mr:Bk)(N':Int):Option Bool :=if 1500<(Mr.length:Int) then(kc n).bind λ r2=>some r2 else(lf n Mr).bind λ r4=>(mV n r4.1 N').bind λ r6=>(lb n r4.1 N').bind λ r8=>(if r6.2.2.Ar=r8.2.2.Ar/\r6.2.2.fAt=r8.2.2.fAt/\r6.2.2.AI=r8.2.2.AI then if r6.2.1=r8.2.1 then(lM n r6.1 r8.1).bind λ US=>if US=true then(kc n).bind λ Uu=>some Uu else some false else some false else some false : Option Bool).bind λ t17=>some t17
instance Br (n:Nat) (Mr:Bk) (N':Int):∀ (r:Bool),HP (jR n Mr N'=some r) Tryz.prog 9 [eS Mr,eI N'] (.p (eB r)):=by
 refine hP good Tryz.func9 Z Z λ r h0 _ w0=>?_;unfold jR at h0;refine nx 8 Z (oLs Z ?_);refine nx 2 Z (fD [15] h0 Z (λ c1 h0=>?_) λ c1 h0=>?_)
 ·refine nx 3 Z (bd h0 λ r2 e3 h0=>?_);refine oK (HP.c e3) Z trivial Tryz.call11 Z (nx 3 Z ?_);exact mQ (oi h0) Z (sr)
 refine nx 5 Z (bd h0 λ r4 e5 h0=>?_);refine oK (HP.c e5) Z ⟨sr,trivial⟩ Tryz.call27 Z (nx 11 Z ?_);refine bd h0 λ r6 e7 h0=>oK (HP.c e7) Z ⟨sr,sr,trivial⟩ Tryz.call28 Z (nx 14 Z ?_);refine bd h0 λ r8 e9 h0=>oK (HP.c e9) Z ⟨sr,sr,trivial⟩ Tryz.call29 Z (nx 10 Z ?_);refine mG (gE (t:=⟨[(7,.ptr 7 0),(8,.p (eI r6.2.1)),(9,.ptr 9 0),(10,.ptr 10 0),(11,.p (eI r8.2.1)),(12,.ptr 12 0)],[(7,(ac.cs r6.1).map .p),(9,(ao.cs r6.2.2).map .p),(10,(ac.cs r8.1).map .p),(12,(ao.cs r8.2.2).map .p)]⟩) Z Z) (nx 1 Z ?_);refine bd h0 λ WR h1 h0=>kN WR (λ v20=>⟨[(4,.p (eB v20))],[]⟩) ?_ ?_
 ·exact nx 2 Z (mQ (oi h0) Z (sr))
 refine nx 3 Z (mO Z (Pt (r6.2.2.Ar=r8.2.2.Ar/\r6.2.2.fAt=r8.2.2.fAt/\r6.2.2.AI=r8.2.2.AI) Z Z Z Z Z Z Z (by kernel_rfl) Z Z (.inl ⟨Z,Z⟩) ?_));refine nx 1 Z (fD [38,39] h1 Z (λ YM h1=>?_) λ YM h1=>?_)
 ·refine nx 5 Z (fD [42,43,44] h1 Z (λ Yl h1=>?_) λ Yl h1=>?_)
  ·refine nx 2 Z (bd h1 λ US e13 h1=>?_);refine oK (HP.c e13) Z ⟨sr,sr,trivial⟩ Tryz.call18 Z (nx 2 Z ?_);refine fB [47,48,49] h1 Z (λ YK h1=>?_) λ YK h1=>?_
   ·refine bd h1 λ Uu Z2 h1=>oK (HP.c Z2) Z trivial Tryz.call11 Z (nx 3 Z ?_);exact eX _ (oi h1).symm (gE Z Z)
   exact nx 4 Z fS
  exact nx 9 Z fS
 exact nx 14 Z fS
end Go.Ab.R06
end
section
namespace Go.Ab.R06
open Go.Proofs Go.Ab Go.Ab.RB Go.Lib
variable {p:Prop}
theorem Jv (h:p:=by
 obtain ⟨n,e⟩:=h.e;have:lens L=lens (us.map (tkS s))+3:=by rw [e]; simp [lens]; rfl
 rw [this,Of]; omega):p:=h
theorem xx (h:p:=by exact af hc (aa Z)):p:=h
theorem Im (h:p:=by exact ae Z (av (λ _=>aa Z) (λ _=>aa (by rw [decide_eq_true_eq]; omega)))):p:=h
theorem G9 (h:p:=by exact ae Z (af O (aa (by rw [decide_eq_false_iff_not]; omega)))):p:=h
theorem LS (h:p:=by simp only [aq,n7,mv]; omega):p:=h
def TkR (f:Nat)(z:Tk):Prop:=WOK z.1 z.2.1/\z.1≠6/\∀ g,f<=g->ix (dz g 0) (Wd z.1 z.2.1)=.inr (z.1,z.2.1,[])
theorem ED {t:Bk}(h:t∈sgL):eg t=t:=by
 have h1:=ph.1 Oc t h;simp only [n8,decide_eq_true_eq,List.append_nil] at h1;exact h1.1
theorem wI:∀ (f c:Nat) (l:Bk) (ts:List Tk),i7 f c l=.inr ts->c<=16384->∃ us n,ts=us++[(6,[],n)]/\(∀ z∈us,TkR f z)/\c+us.length<16384/\us.length<=l.length/\(us.map λ z=>z.2.1.length).sum<=l.length
 | 0,c,l,ts,h,_=>by rw [i7] at h; cases h
 | f+1,c,l,ts,h,hc0=>by
  rw [lx] at h;have hk:=rz true l
  cases hsk:fb true l with
  | nil=>
   rw [hsk,mJ] at h;split at h
   ·cases h
   ·rename_i hc
    cases h
    exact ⟨[],0,rfl,λ z hz=>(by cases hz),by simp only [mv]; omega,by simp,by simp⟩
  | cons b r=>
   rw [hsk] at hk;rw [hsk,ll] at h;split at h
   ·cases h
   split at h
   ·cases h
   rename_i hbeg hc
   cases ht:ix (dz f 0) (b::r) with
   | inl e'=>rw [ht] at h; cases h
   | inr z=>
    obtain ⟨k,t,l'⟩:=z;obtain ⟨w1,w2,w3,w4,w5⟩:=wN (λ y hy=>by obtain ⟨p,hp,_⟩:=(xM f).1 _ _ _ hy; exact ⟨p,hp⟩) ht;rw [ht,mK] at h
    cases hs:i7 f (c+1) l' with
    | inl e'=>rw [hs] at h; cases h
    | inr ts1=>
     rw [hs] at h; cases h;obtain ⟨us,n,rfl,i1,i2,i3,i4⟩:=wI f (c+1) l' ts1 hs O;obtain ⟨a,w,ea,_⟩:=EC w3 w4;have hwl:(b::r).length=(Wd k t).length+l'.length:=by rw [w1,n7]
     have hw1:1<=(Wd k t).length:=by rw [ea]; simp
     have hw2:t.length<=(Wd k t).length:=by unfold Wd; split <;> simp <;> omega
     have hself:TkR (f+1) (k,t,(b::r).length):=by
      refine ⟨w3,w4,λ g hg=>?_⟩;have:=w5 (dz g 0) [] ⟨λ _ z hz=>(by cases hz),λ _ z hz=>(by cases hz),λ h3=>?_,λ h4=>?_⟩
      ·rwa [List.append_nil] at this
      ·obtain ⟨p,ep,j⟩:=(xM f).1 _ _ _ (w2.2.2.1 h3);have:t=p:=List.append_cancel_right ep;subst this;exact j g [] O
      ·rw [List.append_nil];rcases w3 with h|h|h|h|h|h
       ·omega
       ·omega
       ·omega
       ·omega
       ·exact ED h.2
       ·omega
     refine ⟨(k,t,(b::r).length)::us,n,rfl,λ z hz=>?_,by simp only [aq]; omega,by simp only [aq] at hwl hk ⊢; omega,by simp only [dg,List.sum_cons,aq] at hwl hk ⊢; omega⟩;rcases ro.1 hz with rfl|hz
     ·exact hself
     ·obtain ⟨j1,j2,j3⟩:=i1 z hz;exact ⟨j1,j2,λ g hg=>j3 g O⟩
theorem NF {c:Int}{t:Bk}(h:WOK c t)(h6:c≠6):1<=c/\c<=5:=by
 rcases h with h|h|h|h|h|h
 ·exact absurd h.1 h6
 ·omega
 ·omega
 ·omega
 ·omega
 ·omega
theorem MI {c:Int}{t:Bk}(hl:t.length<=1000000):Ev2 (λ _ _=>if c=3 then
  ck (([34]:Bk).length+t.length<=9223372036854775807) <|
  ck ((([34]:Bk)++t).length+([34]:Bk).length<=9223372036854775807) <|
  some ((([34]:Bk)++t)++([34]:Bk))
  else
  some t) (·=Wd c t):=by
 unfold Wd;refine av (λ h=>?_) (λ h=>aa (by rw [if_neg h]));rw [if_pos h];exact ag nH (ag LS (aa Z))
theorem Og {s:Bk}{f:Nat}{z:Tk}(h:TkR f z)(hl:z.2.1.length<=1000000):Ev2 (λ n _=>ke n (tkS s z)) (·=true):=by
 obtain ⟨h1,h2,h3⟩:=h;obtain ⟨c,t,m⟩:=z;obtain ⟨k1,k2⟩:=NF h1 h2;obtain ⟨a,w,ea,_⟩:=EC h1 h2;have hw:(Wd c t).length<=t.length+2:=by unfold Wd; split <;> simp
 simp only at hl h3 k1 k2 ea;simp only [ke];refine ai (Wd c t) (MI hl) ?_;refine ai false (af (by rw [ea]; simp) (af (show ¬ c<1 by omega) (aa (by show decide ((5:Int)<c)=false; rw [decide_eq_false_iff_not]; omega)))) (af (by decide) ?_);have hr:=h3 (f+w.length+1) O;rw [ea] at hr hw ⊢;simp only [aq] at hw;have hs:(a::w).length<=1000000000:=by simp only [aq]; omega
 have hsuf:(a::w) <:+ (a::w):=List.suffix_refl _
 have hb:iG (a::w)=true:=by
  cases hq:iG (a::w) with
  | true=>rfl
  | false=>rw [uX hq] at hr; cases hr
 have e0:ad.mk (a::w) 0 (-1) (ao.mk 0 0 [])=scx (a::w) (a::w) (-1) (ao.mk 0 0 []):=by rw [scx,ql]
 refine ai (scx (a::w) (a::w) (-1) (ao.mk 0 0 [])) (ax (by unfold iw; rw [e0]) Z) ?_;refine ai _ (sW (a::w) hs hsuf _ _) ?_;simp only [hb];refine af (by decide) ?_;have htok:=Es hs (d:=ao.mk 0 0 []) hsuf (f:=f+w.length+1) O hb;rw [hr] at htok;refine ah _ htok λ r hrr=>?_;have hrr:r=(ab.mk c t (pz (a::w) (a::w)),true,scx (a::w) [] (-1) (ao.mk 0 0 [])):=hrr;subst hrr;refine ah (·=true) ?_ (λ t ht=>aa ht);refine ae Z (ai _ (ax (sS _ _ _) Z) (ae Z (aa ?_)));show decide (c=c)=true;simp
def lens (L:List ab):Nat:=(L.map λ t=>t.By.length+3).sum
theorem lens_cons (t:ab)(L:List ab):lens (t::L)=t.By.length+3+lens L:=by simp [lens]
theorem FW {L:List ab}:∀ (k i:Nat) (a:Int),i+k=L.length->0<=a->a+(lens (L.drop i):Int)<=1000000->L.length<=1000000->Ev2 (λ _ m=>dr L m a (i:Int)) (λ r=>r<=a+(lens (L.drop i):Int)):=by
 intro k
 induction k with
 | zero=>
  intro i a hi ha hb hl;refine aw ?_;simp only [dr];exact af O (aa O)
 | succ k ih=>
  intro i a hi ha hb hl;have hd:=qb L (i:=i) O;have e:lens (L.drop i)=(lat L (i:Int)).By.length+3+lens (L.drop (i+1)):=by rw [hd,lens_cons]
  rw [e] at hb ⊢;refine aw ?_;simp only [dr];generalize lat L (i:Int)=t at *;refine ae O (ah (λ r=>a<=r/\r<=a+(t.By.length:Int)+3) (ag O (ag aC ?_)) (λ r hr=>ag aC ?_))
  ·refine ah (λ r=>a<=r/\r<=a+(t.By.length:Int)+2) (av (λ _=>ag aC (aa O)) (λ _=>aa O)) (λ r hr=>?_);refine ah (λ _=>True) (av (λ _=>ag aC (ag O ?_)) (λ _=>aa trivial)) (λ b _=>?_)
   ·obtain ⟨v,hv⟩:=Fv (lat L ((i:Int)-1)) t;exact ah (λ _=>True) (ax hv trivial) (λ _ _=>aa trivial)
   ·exact av (λ _=>ag aC (aa O)) (λ _=>aa O)
  ·exact aO (nF (P:=λ j=>Ev2 (λ _ m=>dr L m r j) _) (ih (i+1) r O O O hl)) (λ q hq=>by omega)
theorem LN {L:List ab}(h:lens L<=60000)(hl:L.length<=1000000):Ev2 (λ n _=>kG n L) (λ r=>r<=60000):=by
 simp only [kG];have:=FW (L:=L) L.length 0 0 O O  (by rw [List.drop_zero]; omega) hl;rw [List.drop_zero] at this;exact ah _ (aN (f:=λ n m=>dr L m 0 0) this) (λ r hr=>aa O)
def RF (s:Bk)(n:Nat):ab:=tkS s (6,[],n)
structure TkL (s:Bk)(us:List Tk)(L:List ab):Prop where
 e:∃ n,L=us.map (tkS s)++[RF s n]
 w:∃ f,∀ z∈us,TkR f z
 n:us.length<=1500
 t:(us.map λ z=>z.2.1.length).sum<=1500
theorem Er {us:List Tk}{z:Tk}(h:z∈us):z.2.1.length<=(us.map λ z=>z.2.1.length).sum:=by
 induction us with
 | nil=>cases h
 | cons x r ih=>
  simp only [dg,List.sum_cons];rcases ro.1 h with rfl|h
  ·omega
  ·have:=ih h; omega
theorem Of (s:Bk)(us:List Tk):lens (us.map (tkS s))=(us.map λ z=>z.2.1.length).sum+3*us.length:=by
 induction us with
 | nil=>rfl
 | cons x r ih=>
  rw [dg,lens_cons,ih];simp only [dg,List.sum_cons,aq];show x.2.1.length+3+_=_;omega
theorem L2 {M:List ab}{_n':Nat}{L:List ab}(hM:sub L 0 ((L.length:Int)-1)=M)(hl:M.length<=1000000)(h:∀ t∈M,t.By.length<=1500/\Ev2 (λ n _=>ke n t) (·=true)):∀ (k i:Nat),i+k=M.length->Ev2 (λ n m=>dQ n L m (i:Int)) (·=.inl ()):=by
 intro k
 induction k with
 | zero=>
  intro i hi;refine aw ?_;simp only [dQ,hM];exact rc
 | succ k ih=>
  intro i hi;have hx:=h _ (xc (l:=M) (i:=(i:Int)) O);refine aw ?_;simp only [dQ,hM];refine ae O (ag O (af O (ai _ hx.2 (af (by decide) (ag aC ?_)))));exact nF (P:=λ j=>Ev2 (λ n m=>dQ n L m j) _) (ih (i+1) O)
theorem ug {s:Bk}{us:List Tk}{L:List ab}(h:TkL s us L):L.length=us.length+1:=by
 obtain ⟨n,e⟩:=h.e;rw [e]; simp
theorem AQ {s:Bk}{us:List Tk}{L:List ab}(h:TkL s us L):(lat L ((L.length:Int)-1)).Ar=6/\(lat L ((L.length:Int)-1)).By=[]:=by
 have hl:=ug h;obtain ⟨n,e⟩:=h.e;have e1:(L.length:Int)-1=((us.length:Nat):Int):=by omega
 have:lat L ((L.length:Int)-1)=RF s n:=by
  rw [e1,e,yr,List.getD_eq_getElem?_getD,List.getElem?_append_right G];simp
 rw [this]; exact ⟨rfl,rfl⟩
theorem FU {s:Bk}{us:List Tk}{L:List ab}(h:TkL s us L):Ev2 (λ n _=>ji n L) (·=0):=by
 have hl:=ug h;have hn:=h.n;have ht:=h.t;obtain ⟨q1,q2⟩:=AQ h;obtain ⟨f,hw⟩:=h.w
 have hM:sub L 0 ((L.length:Int)-1)=us.map (tkS s):=by
  have e1:(L.length:Int)-1=((us.length:Nat):Int):=by omega
  obtain ⟨n,e⟩:=h.e;rw [e1,<- Int.natCast_zero,uh,e];simp
 simp only [ji];refine af O (af O (ag aC ?_));refine ai false (ag O (ae q1 (ag O (aa (by rw [q2]; rfl))))) (af (by decide) (ag O ?_))
 have M':lens L<=60000:=by
  exact Jv
 refine ek () (aN (f:=λ n m=>dQ n L m 0) (L2 (_n':=0) hM gK (λ t ht'=>?_) us.length 0 G)) ?_
 ·obtain ⟨z,hz,rfl⟩:=List.mem_map.1 ht';have:=Er hz;exact ⟨by show z.2.1.length<=1500; omega,Og (hw z hz) O⟩
 ·exact ah _ (LN M' O) (λ r hr=>af O (aa Z))
theorem Cu (a b:ab):∃ v,lO a b=some v:=by
 unfold lO;by_cases h1:a.Ar=1
 ·simp only [if_pos h1]; split <;> exact ⟨_,rfl⟩
 by_cases h2:a.Ar=2
 ·simp only [if_neg h1,if_pos h2]; exact ⟨_,rfl⟩
 simp only [if_neg h1,if_neg h2];by_cases h4:a.Ar=4
 ·by_cases h5:b.Ar=4
  ·by_cases h6:b.By=[]
   ·simp [h4,h5,h6]
   ·have h7:0<(b.By.length:Int):=by have:=List.length_pos_iff.2 h6; omega
    simp only [if_pos h4,if_pos h5,cl,h6,decide_false,Bool.false_eq_true,if_false];rw [cn ⟨by decide,h7⟩,cn ⟨by decide,h7⟩]
    repeat' split
    all_goals first|exact ⟨_,Z⟩|(simp only [cl]; repeat' split)
    all_goals exact ⟨_,Z⟩
  ·simp [h4,h5]
 ·simp [h4]
theorem NX {f:Nat}{z:Tk}{t:ab}(hk:t.Ar=z.1)(hx:t.By=z.2.1)(h:TkR f z)(hl:z.2.1.length<=1000000):Ev2 (λ n _=>j7 n t) (·=true):=by
 obtain ⟨h1,h2,h3⟩:=h;obtain ⟨c,w,m⟩:=z;simp only at hk hx h1 h2 h3 hl;have hr:=h3 f (bx _);simp only [j7,hk,hx];rcases h1 with h|⟨rfl,b,r,rfl,hb⟩|⟨rfl,b,r,rfl,hb⟩|rfl|⟨rfl,hs⟩|⟨rfl,rfl⟩
 ·exact absurd h.1 h2
 ·rw [show Wd 1 (b::r)=b::r from rfl,ed,if_pos hb] at hr;refine ae rfl (ai (fg (b::r)) (sY _ O) (aa ?_));split at hr
  ·cases hr
  ·rename_i h64
   injection hr with hr
   injection hr with _ hr
   injection hr with e1 e2
   rw [tN];refine ⟨by simp,by rw [e1] at h64; omega,hb,?_⟩;have hall:=uV idB (b::r);rw [e1] at hall
   have:∀ (k i:Nat),i+k=(b::r).length->ki (λ j=>idB ((b::r).getD j 0)) i k=true:=by
    intro k
    induction k with
    | zero=>intro i _; rfl
    | succ k ih=>
     intro i hi;simp only [ki,n8];refine ⟨?_,ih (i+1) O⟩;have hi':i<(b::r).length:=by omega
     rw [List.getD_eq_getElem?_getD,List.getElem?_eq_getElem hi'];exact hall _ (List.getElem_mem hi')
   exact this _ 0 O
 ·have hl':=Jj hb;rw [show Wd 2 (b::r)=b::r from rfl,ed,if_neg (by rw [hl'.2.2.2.2]; decide),if_pos hb] at hr
  injection hr with hr
  injection hr with _ hr
  injection hr with e1 e2
  refine af (by decide) (ae Z (ah (·=true) (af G ?_) (λ t ht=>aa ht)));have hrun:=HW (b::r) (b::r) O (List.suffix_refl _) false cz Ie;rw [ql] at hrun;refine ai _ hrun (aa ?_);rw [e2,decide_eq_true_eq];unfold pz; simp
 ·rw [show Wd 3 w=34::(w++[34]) from rfl,ed,if_neg (by decide),if_neg (by decide),if_neg (by decide),if_pos (by decide)] at hr;refine af (by decide) (af (by decide) (ae rfl (ag nH ?_)));have hls:(w++[34]).length<=1000000000:=by simp only [n7,aq,mv]; omega
  have ht:=xg ((qQ hls (o:=0) (f+(w++[34]).length+1)).1 0 (w++[34]) O (List.suffix_refl _) O)
  have hsrc:dz (f+(w++[34]).length+1) 0 (w++[34])=.inr []:=by
   have hr:=h3 (f+(w++[34]).length+1) O;rw [show Wd 3 w=34::(w++[34]) from rfl,ed,if_neg (by decide),if_neg (by decide),if_neg (by decide),if_pos (by decide)] at hr;split at hr
   ·cases hr
   ·rename_i q hq
    injection hr with hr
    injection hr with _ hr
    injection hr with e1 e2
    rw [hq,e2]
  rw [hsrc,ql] at ht;refine ah _ ht (λ r hr=>?_);have hr:r=(pz (w++[34]) []-1,okD):=hr;subst hr;refine ah (·=true) (ae rfl (aa ?_)) (λ t ht=>aa ht);rw [decide_eq_true_eq];unfold pz;simp only [n7,aq,mv]; omega
 ·obtain ⟨a,v,rfl,ha⟩:=pI hs;refine af (by decide) (af (by decide) (af (by decide) (ae rfl (ah (·=true) (af G ?_) (λ t ht=>aa ht)))));have hsg:=Bo (a::v) O (List.suffix_refl (a::v));rw [ql] at hsg;refine ai _ hsg (aa ?_);rw [ED hs]; simp
 ·exact af (by decide) (af (by decide) (af (by decide) (af (by decide) (ae Z vW))))
theorem HL {t:ab}(hl:t.By.length<=1000000):∃ v,ky t=some v/\v.length<=t.By.length+2:=by
 unfold ky;split
 ·rw [cn nH,cn LS];exact ⟨_,rfl,by simp only [aq,n7,mv]; omega⟩
 ·exact ⟨_,Z,by omega⟩
theorem EU {L:List ab}(hl:L.length<=1000000)(h:∀ i:Nat,i+1<L.length->(lat L (i:Int)).By.length<=1500/\Ev2 (λ n _=>j7 n (lat L (i:Int))) (·=true)):∀ (k i:Nat) (a:Int),i+k+1=L.length->0<=a->a+(lens (L.drop i):Int)<=60000->Ev2 (λ n m=>dM n L m a (i:Int)) (λ r=>∃ v,r=.inl v/\v<=60000):=by
 intro k
 induction k with
 | zero=>
  intro i a hi ha hb;refine aw ?_;simp only [dM];exact ag aC (af O (aa ⟨a,rfl,by omega⟩))
 | succ k ih=>
  intro i a hi ha hb;obtain ⟨h1,h2⟩:=h i O;have hd:=qb L (i:=i) O;have e:lens (L.drop i)=(lat L (i:Int)).By.length+3+lens (L.drop (i+1)):=by rw [hd,lens_cons]
  rw [e] at hb;refine aw ?_;simp only [dM];obtain ⟨v,hv,hvl⟩:=HL (t:=lat L (i:Int)) O;obtain ⟨x,hx⟩:=Cu (lat L (i:Int)) (lat L ((i:Int)+1));generalize lat L (i:Int)=t at *;refine ag aC (ae O (cj (aO (P:=λ s=>∃ b:Int,s=.inl b/\a<=b/\b<=a+(t.By.length:Int)+3) ?_ ?_)))
  ·refine ag O (af O (ag O (ai _ h2 (af (by decide) (ag O (ai v (ax hv Z) (ag aC (ag O (ag aC (ag O (ai x (ax hx Z) ?_)))))))))));exact av (λ _=>ag aC (aa ⟨_,Z,by omega,by omega⟩)) (λ _=>aa ⟨_,Z,by omega,by omega⟩)
  ·rintro s ⟨b,rfl,hb1,hb2⟩;refine ag aC ?_;exact nF (P:=λ j=>Ev2 (λ n m=>dM n L m b j) _) (ih (i+1) b O O O)
theorem Cv {s:Bk}{us:List Tk}{L:List ab}(h:TkL s us L):Ev2 (λ n _=>jj n L) (·=0):=by
 have hl:=ug h;have hn:=h.n;have ht:=h.t;obtain ⟨q1,q2⟩:=AQ h;obtain ⟨f,hw⟩:=h.w;simp only [jj];refine af O ?_;refine ai false (af O (ag aC (ag O (ae q1 (ag aC (ag O (aa (by rw [q2]; rfl)))))))) (af (by decide) ?_)
 have M':lens L<=60000:=by
  exact Jv
 refine cj (aO (aN (f:=λ n m=>dM n L m 0 0) (EU O (λ i hi=>?_) us.length 0 0 O O  (by rw [List.drop_zero]; omega))) ?_)
 ·have hi':i<us.length:=by omega
  have e:lat L (i:Int)=tkS s us[i]:=by
   obtain ⟨n,e⟩:=h.e;rw [e,yr,List.getD_eq_getElem?_getD,List.getElem?_append_left (by simpa using hi')];simp [hi']
  rw [e];have hm:us[i]∈us:=List.getElem_mem hi';have:=Er hm;exact ⟨by show (us[i]).2.1.length<=1500; omega,NX Z Z (hw _ hm) O⟩
 ·rintro r ⟨v,rfl,hv⟩;exact rc
theorem Dc {e:PE}(he:e.1≠0)(x:ac){L:List ab}{I Mp:Int}:Ev2 (λ n _=>bX n (.mk L I Mp (eD e)) x) (·=(e0,eD e,aj.mk L I Mp (eD e))):=by
 exact KT
theorem mv0 (L:List ab):L.map (mvT 0)=L:=by
 induction L with
 | nil=>rfl
 | cons t r ih=>obtain ⟨k,x,a⟩:=t; rw [dg,ih]; simp [mvT]
theorem KF {s:Bk}(hs:s.length<=1500):((dv s).2.Ar≠0/\(dv s).1=[])\/((dv s).2.Ar=0/\∃ us,TkL s us (dv s).1):=by
 have e:dv s=EI s [] (i7 (s.length+1) 0 s):=by unfold dv; rw [if_neg O]
 cases hq:i7 (s.length+1) 0 s with
 | inl x=>
  rw [e,hq];exact .inl ⟨ye _ _ _ _ hq,rfl⟩
 | inr ts=>
  obtain ⟨us,n,rfl,i1,i2,i3,i4⟩:=wI _ _ _ _ hq O;rw [e,hq];exact .inr ⟨rfl,us,⟨n,by show []++(us++[(6,[],n)]).map (tkS s)=_; simp [RF]⟩,⟨_,i1⟩,Nat.le_trans i3 hs,Nat.le_trans i4 hs⟩
theorem Fs (s:Bk)(a:Int):Ev2 (λ n _=>jR n s a) (·=true):=by
 simp only [jR];refine av (λ _=>ah _ wA (λ t ht=>aa ht)) (λ h=>?_);have hs:s.length<=1500:=by omega
 refine ai _ (KM s) ?_
 suffices ∃ r:ac×Int×ao,Sz r.1/\Ev2 (λ n _=>mV n (dv s).1 a) (·=r)/\Ev2 (λ n _=>lb n (dv s).1 a) (·=r) by
  obtain ⟨r,z,r1,r2⟩:=this;refine ai _ r1 (ai _ r2 (ah (·=true) ?_ (λ t ht=>aa ht)));exact ae ⟨rfl,rfl,rfl⟩ (ae rfl (ai _ (BK z) (ae rfl (ah _ wA (λ t ht=>aa ht)))))
 rcases KF hs with ⟨_,e⟩|⟨hk,us,ht⟩
 ·rw [e];refine ⟨(e0,0,ao.mk 1 0 []),Af,?_,?_⟩
  ·simp only [mV,ji];exact ai true (ai 1 (af (by decide) (ae (by decide) (aa rfl))) vF) od
  ·simp only [lb,jj];exact ai true (ai 1 (af (by decide) (ai true (ae (by decide) (aa rfl)) od)) vF) od
 have hg:=rV (s:=s) (a:=0) O O  hk;have hl:=ug ht;have hn:=ht.n;have c1:=FU ht;have c2:=Cv ht;rw [mv0] at hg;generalize (dv s).1=L at hg hl c1 c2 ⊢;simp only [mV,lb];by_cases Ux:a<0\/(L.length:Int)<=a
 ·refine ⟨(e0,0,ao.mk 1 0 []),Af,?_,?_⟩
  ·exact ai true (ai _ c1 Im) od
  ·exact ai true (ai _ c2 Im) od
 obtain ⟨i,rfl⟩:∃ i:Nat,a=i:=⟨a.toNat,by omega⟩
 have hi:i<L.length:=by omega
 have hgd:Gd (L.drop i):=rx hg.1 hi;have hgl:Gl (L.drop i):=⟨hgd,by have:=hg.2; simp only [n6]; omega⟩
 obtain ⟨f,q,hq⟩:=HU false (L.drop i) hgl;have hL:Gd (L.map (mvT 0)):=by rw [mv0]; exact hg.1
 have M':L.length<=1000000000:=by omega
 have p1:Pos L 0 i 0 false (L.drop i):=⟨hi,by omega,by omega,Z,by rw [mv0]⟩
 have p2:eA L i 0 false (L.drop i):=⟨hi,by omega,by omega,Z,Z⟩
 have f1:=(fol f).e false (L.drop i) L 0 hL M' i 0 q p1 hq;have f2:=((rol f).1 f (bx _)).e false (L.drop i) L hg.1 M' i (i:Int) 0 q Z hgl p2 hq;have Ul:=(fct f).e false (L.drop i) hgl q hq
 have g1:Ev2 (λ n _=>(ji n L).bind λ r1=>if r1=0 then (if (i:Int)<0 then some true else some (decide ((L.length:Int)<=(i:Int)))) else some true) (·=false) :=
  ai _ c1 G9
 have g2:Ev2 (λ n _=>(jj n L).bind λ r1=>if r1=0 then (if (i:Int)<0 then some true else some (decide ((L.length:Int)<=(i:Int)))) else some true) (·=false) :=
  ai _ c2 G9
 cases q with
 | inl e=>
  refine ⟨(e0,0,eD e),Af,?_,?_⟩
  ·refine ai false g1 (af (by decide) (ah _ f1 ?_));rintro ⟨z1,z2⟩ ⟨he,j,l',h3,h4⟩
   cases h3
   refine ai (e0,eD e) ?_ (af he (aa Z));simp only [fA];exact rW
  ·refine ai false g2 (af (by decide) (ah _ f2 ?_));rintro ⟨z1,z2⟩ ⟨he,I,h3,h4,h5⟩
   cases h3
   refine ah _ (Dc he _) (λ z hz=>?_);subst hz;exact rW
 | inr y=>
  obtain ⟨x,l'⟩:=y;have hx:Sz x:=Ul.1;by_cases hc:chk x=0
  ·refine ⟨(x,((L.length-l'.length:Nat):Int),dOk),hx,?_,?_⟩
   ·refine ai false g1 (af (by decide) (ah _ f1 ?_));rintro ⟨z1,z2⟩ ⟨h,j,h3,h4⟩;replace h:z1=x:=h;subst h; cases h3;obtain ⟨j1,_,_,_,j5⟩:=h4;have j5:L.drop j=l':=by have j5:(L.drop j).map (mvT 0)=l':=j5; rwa [mv0] at j5
    have e:(j:Int)=((L.length-l'.length:Nat):Int):=by rw [<- j5,n6]; omega
    refine ai (z1,dOk) ?_ (ae Z (aa (by rw [<- e]; rfl)));simp only [fA];exact ae Z (ai _ (xl hx) (ae hc (aa Z)))
   ·refine ai false g2 (af (by decide) (ah _ f2 ?_));rintro ⟨z1,z2⟩ ⟨h,j,h3,h4⟩;replace h:z1=x:=h;subst h; cases h3;obtain ⟨j1,_,_,_,j5⟩:=h4;have j5:L.drop j=l':=j5;have e:(j:Int)=((L.length-l'.length:Nat):Int):=by rw [<- j5,n6]; omega
    refine ai (z1,dOk,aj.mk L (j:Int) 0 dOk) ?_ (ae Z (aa (by rw [<- e]; rfl)));simp only [bX,au,cl];exact af ld (ai _ (xr hx) (ae hc (aa Z)))
  ·refine ⟨(e0,0,ao.mk (chk x) x.fAt []),Af,?_,?_⟩
   ·refine ai false g1 (af (by decide) (ah _ f1 ?_));rintro ⟨z1,z2⟩ ⟨h,j,h3,h4⟩;replace h:z1=x:=h;subst h; cases h3;refine ai (e0,ao.mk (chk z1) z1.fAt []) ?_ xx;simp only [fA];exact ae rfl (ai _ (xl hx) xx)
   ·refine ai false g2 (af (by decide) (ah _ f2 ?_));rintro ⟨z1,z2⟩ ⟨h,j,h3,h4⟩;replace h:z1=x:=h;subst h; cases h3;refine ai (e0,ao.mk (chk z1) z1.fAt [],aj.mk L (j:Int) 0 dOk) ?_ xx;simp only [bX,au,cl];exact af ld (ai _ (xr hx) xx)
end Go.Ab.R06
end
