/- Texts of the proof, one behind the other. No statement is proved here. -/
import Derived.Test.YtihghalcmfpnaaaGreatDoorCards
import Derived.Test.YtihghalcmfpnaaaGreatDoorTie
import Derived.WalkKit
import Derived.SizedLaws
import Derived.ProofKit
import Derived.OpenShut
import Derived.ShutString
import Derived.LaidMore
import Derived.Stop.Joined
import Derived.Deep.DeepHandedRow
import Derived.Deep.DeepWitnessRowRef
import Derived.Test.YtihghalcmfpnaaaGreatDoorZ14Oa
import Derived.Test.YtihghalcmfpnaaaGreatDoorZ14Ob
import Derived.Test.YtihghalcmfpnaaaGreatDoorZ14Oc
import Derived.Test.YtihghalcmfpnaaaGreatDoorZ14Od
import Derived.Test.YtihghalcmfpnaaaGreatDoorZ14Oe
set_option maxHeartbeats 4000000
section
namespace Go.Ab.R06
open Go.Ab Go.Ab.RB Go.Lib
theorem ya {src:Bytes→SE⊕Bytes}{l:Bytes}(hs:∀ r e n,r.length≤l.length→src r=.inl e→e.2=some n→n≤l.length){e:SE}{n:Nat}(h:jv src l=.inl e)(hn:e.2=some n):n≤l.length:=by
 cases l with
 | nil=>cases h; cases hn; exact Nat.zero_le _
 | cons b r =>
  rw [j1] at h
  split at h
  ·split at h
   ·cases h; cases hn; exact Nat.le_refl _
   ·cases h
  split at h
  ·cases h
  split at h
  ·cases h
  split at h
  ·split at h
   ·rename_i e' he
    cases h
    exact hs r e n (Nat.le_succ _) he hn
   ·cases h
  split at h
  ·cases h; cases hn; exact Nat.le_refl _
  ·cases h
theorem AJ:∀ (f k:Nat),(∀ l e n,fK f k l=.inl e→e.2=some n→n≤l.length)∧(∀ d l e n,jH f k d l=.inl e→e.2=some n→n≤l.length)
 | 0,k=>⟨λ l e n h hn=>(by rw [fK] at h; cases h; cases hn),λ d l e n h hn=>(by rw [jH] at h; cases h; cases hn)⟩
 | f+1,k=>by
  have ih:=AJ f
  constructor
  ·intro l e n h hn
   cases l with
   | nil=>rw [fK] at h; cases h; cases hn
   | cons b r =>
    rw [nH] at h
    split at h
    ·cases h
    split at h
    ·have:=(ih k).1 _ e n h hn
     rw [List.length_drop] at this; omega
    split at h
    ·split at h
     ·cases h; cases hn; exact Nat.le_refl _
     ·split at h
      ·rename_i e' he
       cases h
       have:=(ih (k+1)).2 _ _ e n he hn
       rw [List.length_drop] at this; omega
      ·rename_i l' he
       have h1:=((ii f (k+1)).2 _ _ _ he).2
       have:=(ih k).1 _ e n h hn
       rw [List.length_drop] at h1; omega
    ·have hX:(if b.toNat=92 then r else b::r).length≤(b::r).length:=by split <;> simp
     generalize (if b.toNat=92 then r else b::r)=X at h hX
     cases X with
     | nil=>cases h; cases hn
     | cons c t =>
      simp only at h
      split at h
      ·cases h; cases hn; exact hX
      ·have:=(ih k).1 _ e n h hn
       rw [List.length_drop] at this; omega
  ·intro d l e n h hn
   rw [nA] at h
   have hk:=oT false l
   cases hsk:fm false l with
   | nil=>rw [hsk,Bp] at h; cases h; cases hn
   | cons b r =>
    rw [hsk] at hk
    rw [hsk,nt] at h
    cases ht:jv (fK f k) (b::r) with
    | inl e' =>
     rw [ht,rJ] at h; cases h
     exact Nat.le_trans (ya (λ x y m hx hxy hm=>Nat.le_trans ((ih k).1 x y m hxy hm) hx) ht hn) hk
    | inr z =>
     obtain ⟨c,t,l'⟩:=z
     have h1:=(ki (λ x y _ hxy=>(ii f k).1 x y hxy) ht).2
     rw [ht,oM] at h
     split at h
     ·split at h
      ·cases h
      ·have:=(ih k).2 _ _ e n h hn; omega
     split at h
     ·have:=(ih k).2 _ _ e n h hn; omega
     ·have:=(ih k).2 _ _ e n h hn; omega
theorem vf:∀ (f c:Nat) (l:Bytes) (e:SE) (n:Nat),gA f c l=.inl e→e.2=some n→n≤l.length
 | 0,c,l,e,n,h,hn=>by rw [gA] at h; cases h; cases hn
 | f+1,c,l,e,n,h,hn=>by
  rw [iq] at h
  have hk:=oT true l
  cases hsk:fm true l with
  | nil =>
   rw [hsk,lB] at h
   split at h
   ·cases h; cases hn; exact Nat.zero_le _
   ·cases h
  | cons b r =>
   rw [hsk] at hk
   rw [hsk,ka] at h
   split at h
   ·cases h; cases hn; exact hk
   split at h
   ·cases h; cases hn; exact hk
   cases ht:jv (fK f 0) (b::r) with
   | inl e' =>
    rw [ht] at h; cases h
    cases he:e'.2 with
    | none=>unfold Co at hn; rw [he] at hn; cases hn; exact hk
    | some m =>
     unfold Co at hn; rw [he] at hn; cases hn
     exact Nat.le_trans (ya (λ x y m hx hxy hm=>Nat.le_trans ((AJ f 0).1 x y m hxy hm) hx) ht he) hk
   | inr z =>
    obtain ⟨k,t,l'⟩:=z
    have h1:=(ki (λ x y _ hxy=>(ii f 0).1 x y hxy) ht).2
    rw [ht,lq] at h
    cases hs:gA f (c+1) l' with
    | inl e' =>
     rw [hs] at h; cases h
     have:=vf f (c+1) l' e n hs hn
     omega
    | inr ts'=>rw [hs] at h; cases h
theorem yc (s:Bytes):0≤(eJ s).2.fAt∧(eJ s).2.fAt≤(s.length:Int):=by
 unfold eJ
 split
 ·exact ⟨Int.le_refl _,by show (0:Int)≤_; omega⟩
 ·cases hs:gA (s.length+1) 0 s with
  | inr ts=>exact ⟨Int.le_refl _,by show (0:Int)≤_; omega⟩
  | inl e =>
   show 0≤(qY s 0 e).fAt∧(qY s 0 e).fAt≤_
   unfold qY
   cases he:e.2 with
   | none=>exact ⟨Int.le_refl _,by show (0:Int)≤_; omega⟩
   | some n =>
    have:=vf _ _ _ e n hs he
    exact ⟨by show 0≤(s.length:Int) - (n:Int); omega,by show (s.length:Int) - (n:Int)≤_; omega⟩
theorem EW {f:Nat}(ih:Fol f):∀ (s:Bytes) (a:Int) q,0≤a→a+(s.length:Int)≤1000000000→dZ (f+1) s a=some q→Ev2 (λ n _=>d5 n s a) (WOut q):=by
 intro s a q h0 h1 hq
 rw [dZ] at hq
 refine cj ?_
 simp only [d5]
 refine ao _ (CR s) ?_
 by_cases hk:(eJ s).2.fKind=0
 ·rw [if_neg (by simpa using hk)] at hq
  refine aj hk ?_
  have hg:=rh h0 h1 hk
  have hlen:(eJ s).1.length≤65537:=(ra h0 h1 hk).2.2
  have hL:=hg.1
  have hL1:(eJ s).1.length≤1000000000:=by omega
  generalize hLL:(eJ s).1=L at hq hL hlen hL1
  have hne:0 < L.length:=by
   have:=tW hL
   rcases Nat.eq_zero_or_pos L.length with q | q
   ·rw [List.length_eq_zero_iff.1 q] at this; exact absurd rfl this
   ·exact q
  have hpos:Pos L a 0 1 true (L.map (mvT a)):=⟨hne,by decide,by omega,Z,Z⟩
  cases hx:fb f true (L.map (mvT a)) with
  | none=>rw [hx] at hq; cases hq
  | some y =>
   rw [hx] at hq
   have hr:=ih.e true _ L a hL hL1 0 1 y hpos hx
   rcases y with e | ⟨x,l⟩
   ·cases hq
    refine af _ hr ?_
    rintro ⟨z1,z2⟩ ⟨he,j,l',h2,h3⟩
    cases h2
    refine af (λ t=>∃ j:Nat,t=(L,(j:Int),1,a,e.1,e.2,[])) (af _ (eQ hL hL1 h3) ?_) ?_
    ·rintro ⟨z1,z2⟩ ⟨h1,j,h2,h3,h4,h5⟩
     replace h1:z1=_:=h1; subst h1; cases h2
     exact aP (λ _=>ab ⟨j,Z⟩) (λ _=>ao _ (au (uN he _ _ _ _) Z) (ab ⟨j,Z⟩))
    ·rintro _ ⟨j,rfl⟩
     exact ab ⟨he,Z⟩
   ·refine af _ hr ?_
    rintro ⟨z1,z2⟩ ⟨hz,j,h2,h3⟩
    replace hz:z1=_:=hz; subst hz; cases h2
    have hq:(if (hd true l).fKind=6 then some (.inr z1) else some (.inl (2,(hd true l).fAt)))=some q:=hq
    by_cases k6:(hd true l).fKind=6
    ·rw [if_pos k6] at hq; cases hq
     refine af (λ t=>∃ j:Nat,t=(L,(j:Int),1,a,0,0,[])) (af _ (eQ hL hL1 h3) ?_) ?_
     ·rintro ⟨y1,y2⟩ ⟨h1,j,h2,h3,h4,h5⟩
      replace h1:y1=_:=h1; subst h1; cases h2
      exact aj k6 (ab ⟨j,Z⟩)
     ·rintro _ ⟨j,rfl⟩
      exact ab Z
    ·rw [if_neg k6] at hq; cases hq
     refine af (λ t=>∃ j:Nat,t=(L,(j:Int),1,a,2,(hd true l).fAt,[])) (af _ (eQ hL hL1 h3) ?_) ?_
     ·rintro ⟨y1,y2⟩ ⟨h1,j,h2,h3,h4,h5⟩
      replace h1:y1=_:=h1; subst h1; cases h2
      exact ai k6 (ao _ (au (gH _ _ _ _) Z) (ab ⟨j,Z⟩))
     ·rintro _ ⟨j,rfl⟩
      exact ab ⟨(by decide:(2:Int)≠0),Z⟩
 ·rw [if_pos hk] at hq; cases hq
  have:=yc s
  refine ai hk (ar (aG O O) (ab ⟨hk,Z⟩))
theorem xz {s:Bytes}{a:Int}{i fr:Nat}(text:Bytes)(parts:List ac)(opn:Bool)(ha:0≤a)(h1:a+(s.length:Int)≤1000000000)(hi:i≤s.length)(hf:fr≤i)(hp:parts.length≤2*i) :
  ee (.mk s a (i:Int) (fr:Int) text parts opn)=some (.mk s a (i:Int) (fr:Int) [] (flS (a+(fr:Int)) (a+(i:Int)) text parts) opn):=by
 unfold ee flS
 by_cases h:fr < i
 ·rw [if_pos (by show (fr:Int) < (i:Int); omega),if_pos O]
  show ((ck (inR (a+(fr:Int))) <| ck ((parts.length+1)*160≤140737488355328) <| some (parts++[yR text (a+(fr:Int))]):Option (List ac)).bind λ f6=>some (ak.mk s a (i:Int) (fr:Int) ([]:Bytes) f6 opn))=_
  rw [b8 (aG O O),b8 O]; rfl
 ·rw [if_neg (by show ¬ (fr:Int) < (i:Int); omega),if_neg O]; rfl
theorem rG {e:ac}(hb:Sz e):Ev2 (λ n _=>eR n e dOk) (·=Bo (lA (.inr e))):=by
 simp only [eR]
 refine aj Z (ao _ (xU hb) ?_)
 by_cases h:chk e=0
 ·exact aj h (ab (by unfold lA; simp only [h,if_true]; rfl))
 ·exact ai h (ab (by unfold lA; simp only [h,if_false]; rfl))
theorem DC {f:Nat}(ih:Fol f):∀ (s:Bytes) (a:Int) q,0≤a→a+(s.length:Int)≤1000000000→gX (f+1) s a=some q→Ev2 (λ n _=>eq n s a) (·=Bo q):=by
 intro s a q h0 h1 hq
 rw [gX] at hq
 refine cj ?_
 simp only [eq]
 cases hr:fq f a a [] [] false s with
 | none=>rw [hr] at hq; cases hq
 | some y =>
  rw [hr] at hq
  have hsz:=(fct f).r a a [] [] false s (2*s.length) h0 h1 (by decide) (λ y hy=>by cases hy) G y hr
  have hread:=ih.r s a 0 0 [] [] false y h0 h1 (Nat.zero_le _) (Nat.le_refl _) (by decide) (by decide) (by simpa using hr)
  rcases y with e | ⟨frm,pos,text,parts,opn⟩
  ·cases hq
   refine af (λ r=>e.1≠0∧r.1=eD e) (cj ?_) ?_
   ·simp only [de]
    refine eg (cA (bS (f:=λ n m=>bm n (aB n) m s a 0 0 [] [] false) hread) ?_)
    rintro r ⟨he,t,rfl⟩
    exact ⟨he,Z⟩
   ·rintro ⟨r1,r2⟩ ⟨he,hz⟩
    cases hz
    exact ai he (ab Z)
  ·have hq:some (lA (.inr (oc a (frm,pos,text,parts,opn))))=some q:=hq
   cases hq
   refine af (λ r=>∃ (i fr:Nat),frm=a+(fr:Int)∧pos=a+(i:Int)∧fr≤i∧i≤s.length∧parts.length≤2*i∧r=(dOk,.mk s a (i:Int) (fr:Int) text parts opn)) (cj ?_) ?_
   ·simp only [de]
    refine eg (cA (bS (f:=λ n m=>bm n (aB n) m s a 0 0 [] [] false) hread) ?_)
    rintro r ⟨i,fr,g1,g2,g3,g4,g5,rfl⟩
    exact ab ⟨i,fr,g1,g2,g3,g4,g5,Z⟩
   ·rintro _ ⟨i,fr,rfl,rfl,g3,g4,g5,rfl⟩
    have hz:Sz (oc a (a+(fr:Int),a+(i:Int),text,parts,opn)):=vT O hsz
    refine aj Z (ao _ (au Z Z) ?_)
    cases opn with
    | true =>
     refine ao (2,0,[],[],0,0,[],[],[],flS (a+(fr:Int)) (a+(i:Int)) text parts,a) (aj Z (ao _ (au (xz text parts true h0 h1 g4 g3 g5) Z) (ab Z))) ?_
     exact ao _ (rG hz) (ab Z)
    | false =>
     refine ao (1,0,[],[],3,0,text,[],[],[],a) (ai Bool.false_ne_true (ab Z)) ?_
     exact ao _ (rG hz) (ab Z)
theorem EJ {f:Nat}(ih:Fol f):∀ (s:Bytes) (a:Int) (i fr:Nat) (text:Bytes) (parts:List ac) (opn:Bool) q,0≤a→a+(s.length:Int)≤1000000000→i≤s.length→fr≤i→text.length≤4096→parts.length≤2*i→fq (f+1) (a+(fr:Int)) (a+(i:Int)) text parts opn (s.drop i)=some q →
  Ev2 (λ n m=>bm n (aB n) m s a (i:Int) (fr:Int) text parts opn) (RdO s a q):=by
 intro s a i fr text parts opn q h0 h1 hi hf ht hp hq
 refine aV ?_
 simp only [bm]
 cases hl:s.drop i with
 | nil =>
  rw [hl,fq] at hq; cases hq
  have:=CP hl
  exact ai O (ab ⟨i,fr,Z,Z,hf,hi,hp,Z⟩)
 | cons b r =>
  obtain ⟨g1,g2,g3⟩:=vw hl
  have hsub:sub s (i:Int) (s.length:Int)=b::r:=by rw [iU,Int.toNat_natCast,hl]
  have hlen:(b::r).length=s.length - i:=by rw [← hl,List.length_drop]
  rw [hl,fq] at hq
  refine aj O (ar O ?_)
  rw [hsub]
  by_cases hp3:hasPrefix (b::r) [36,36,123]=true
  ·rw [if_pos hp3] at hq
   have hpl:=jY hp3
   simp only [List.length_cons,List.length_nil] at hpl hlen
   have hlong:=Bi s a ((i:Int)+3) (fr:Int) (text++[36,123]) parts opn (aG O O)
   have htl:(text++[36,123]).length=text.length+2:=by simp
   rw [htl] at hlong
   by_cases hlg:4096 < text.length+2
   ·rw [if_pos hlg] at hq hlong; cases hq
    refine ao (3,a+(fr:Int),[],s,a,(i:Int)+3,(fr:Int),text++[36,123],parts,opn) ?_ (ai (show ¬ (3:Int)=0 by decide) (ab ⟨(by decide:(3:Int)≠0),_,Z⟩))
    exact ao true (au (fv _ _) hp3) (aj Z (ar (by simp only [List.length_cons,List.length_nil]; omega) (ar (aG O O) (ao _ (au hlong Z) (ab Z)))))
   ·rw [if_neg hlg] at hq hlong
    refine ao (0,0,[],s,a,(i:Int)+3,(fr:Int),text++[36,123],parts,opn) ?_ (aj Z ?_)
    ·exact ao true (au (fv _ _) hp3) (aj Z (ar (by simp only [List.length_cons,List.length_nil]; omega) (ar (aG O O) (ao _ (au hlong Z) (ab Z)))))
    ·have e3:s.drop (i+3)=(b::r).drop 3:=by rw [tR s i 3,hl]
     have:=ih.r s a (i+3) fr (text++[36,123]) parts opn q h0 h1 O O O O  (by
      rw [e3,show a+((i+3:Nat):Int)=a+(i:Int)+3 by omega]; exact hq)
     rw [show ((i+3:Nat):Int)=(i:Int)+3 by omega] at this
     exact this
  rw [if_neg hp3] at hq
  by_cases hp2:hasPrefix (b::r) [36,123]=true
  ·rw [if_pos hp2] at hq
   have hpl:=jY hp2
   simp only [List.length_cons,List.length_nil] at hpl hlen
   have e2:s.drop (i+2)=(b::r).drop 2:=by rw [tR s i 2,hl]
   have hfl:=xz text parts opn h0 h1 hi hf hp
   have hflen:(flS (a+(fr:Int)) (a+(i:Int)) text parts).length≤parts.length+1:=by unfold flS; split <;> simp
   cases hc:gb f 1 ((b::r).drop 2) with
   | none=>rw [hc] at hq; cases hq
   | some y =>
    rw [hc] at hq
    have hcl:=xP ((Aa (s:=s) O f).1 1 (i+2) ((i:Int)+2) 1 y O rfl (by decide) (by rw [List.length_drop]; omega) O (by rw [e2]; exact hc))
    have pre:∀ {P:ap×ak→Prop},Ev2 (λ n _=>(aB (n+1) (ak.mk s a (i:Int) (fr:Int) text parts opn))) P→Ev2 (λ n _=>(aB n (ak.mk s a (i:Int) (fr:Int) text parts opn))) P:=λ h=>cj h
    cases y with
    | none =>
     cases hq
     refine ao (40,a+(i:Int),[],s,a,(i:Int),(fr:Int),[],flS (a+(fr:Int)) (a+(i:Int)) text parts,true) ?_ (ai (show ¬ (40:Int)=0 by decide) (ab ⟨(by decide:(40:Int)≠0),_,Z⟩))
     refine ao false (au (fv _ _) (by simpa using hp3)) (ai Bool.false_ne_true (ao true (au (fv _ _) hp2) (aj Z ?_)))
     refine ao (ap.mk 40 (a+(i:Int)) [],ak.mk s a (i:Int) (fr:Int) [] (flS (a+(fr:Int)) (a+(i:Int)) text parts) true) (pre ?_) (ab Z)
     simp only [aB]
     exact ao _ (au hfl Z) (ar (aG (by show _≤(i:Int)+2; omega) (by show (i:Int)+2≤_; omega)) (ao _ hcl (aj (by show (-1:Int) < 0; decide) (ar (aG (by show _≤a+(i:Int); omega) (by show a+(i:Int)≤_; omega)) (ab Z)))))
    | some r' =>
     simp only at hq
     have hsf:=(iR f).1 _ _ _ hc
     have hsl:=hsf.2
     have hd2:((b::r).drop 2).length=s.length - (i+2):=by rw [← e2,List.length_drop]
     have hrs:r' <:+ s:=by rw [← e2] at hsf; exact hsf.1.trans (List.drop_suffix _ _)
     have hsd:=D3 hrs
     have hcp:DJ s (some r')=((s.length - r'.length - 1:Nat):Int):=by show (s.length:Int) - (r'.length:Int) - 1=_; omega
     rw [hcp] at hcl
     have hsub2:sub s ((i:Int)+2) ((s.length - r'.length - 1:Nat):Int)=((b::r).drop 2).take (((b::r).drop 2).length - r'.length - 1):=by
      rw [show (i:Int)+2=((i+2:Nat):Int) by omega,x5,List.drop_take,e2]
      congr 1; omega
     generalize hX:((b::r).drop 2).take (((b::r).drop 2).length - r'.length - 1)=X at hq hsub2
     have hXl:X.length≤((b::r).drop 2).length:=by rw [← hX,List.length_take]; omega
     cases hw:dZ f X (a+(i:Int)+2) with
     | none=>rw [hw] at hq; cases hq
     | some z =>
      rw [hw] at hq
      have hwh:=ih.w X (a+(i:Int)+2) z O O  hw
      have lead:∀ {P:ap×ak→Prop},Ev2 (λ n _=>(d5 n X (a+(i:Int)+2)).bind λ r12=>if r12.2.fKind=0 then ck (((flS (a+(fr:Int)) (a+(i:Int)) text parts).length+1)*160≤140737488355328) <| ck (inR (((s.length - r'.length - 1:Nat):Int)+1)) <| some (ap.mk 0 0 ([]:Bytes),ak.mk s a (((s.length - r'.length - 1:Nat):Int)+1) (((s.length - r'.length - 1:Nat):Int)+1) [] (flS (a+(fr:Int)) (a+(i:Int)) text parts++[r12.1]) true) else some (r12.2,ak.mk s a (i:Int) (fr:Int) [] (flS (a+(fr:Int)) (a+(i:Int)) text parts) true)) P →
        Ev2 (λ n _=>(aB n (ak.mk s a (i:Int) (fr:Int) text parts opn))) P:=by
       intro P hP
       refine pre ?_
       simp only [aB]
       refine ao _ (au hfl Z) (ar (aG (by show _≤(i:Int)+2; omega) (by show (i:Int)+2≤_; omega)) (ao _ hcl (ai O (ar (aG (by show _≤(i:Int)+2; omega) (by show (i:Int)+2≤_; omega)) (ar ⟨by show (0:Int)≤(i:Int)+2; omega,by show (i:Int)+2≤_; omega,by show _≤(s.length:Int); omega⟩ (ar (aG (by show _≤a+(i:Int); omega) (by show a+(i:Int)≤_; omega)) (ar (aG (by show _≤a+(i:Int)+2; omega) (by show a+(i:Int)+2≤_; omega)) ?_)))))))
       simp only [hsub2]
       exact hP
      rcases z with e | e
      ·cases hq
       have he:=(fct f).w X (a+(i:Int)+2) O O  _ hw
       refine ao (e.1,e.2,[],s,a,(i:Int),(fr:Int),[],flS (a+(fr:Int)) (a+(i:Int)) text parts,true) ?_ (ai he (ab ⟨he,_,Z⟩))
       refine ao false (au (fv _ _) (by simpa using hp3)) (ai Bool.false_ne_true (ao true (au (fv _ _) hp2) (aj Z ?_)))
       refine ao (eD e,ak.mk s a (i:Int) (fr:Int) [] (flS (a+(fr:Int)) (a+(i:Int)) text parts) true) (lead (af _ hwh ?_)) (ab Z)
       rintro ⟨w1,w2⟩ ⟨_,hz⟩
       cases hz
       exact ai he (ab Z)
      ·have hq:fq f (a+(i:Int)+(((b::r).length - r'.length:Nat):Int)) (a+(i:Int)+(((b::r).length - r'.length:Nat):Int)) [] (flS (a+(fr:Int)) (a+(i:Int)) text parts++[e]) true r'=some q:=hq
       have hpos:a+(i:Int)+(((b::r).length - r'.length:Nat):Int)=a+((s.length - r'.length:Nat):Int):=by
        have:=hsf.1.length_le
        simp only [List.length_cons] at hd2 ⊢; omega
       rw [hpos] at hq
       have hi2:((s.length - r'.length - 1:Nat):Int)+1=((s.length - r'.length:Nat):Int):=by omega
       refine ao (0,0,[],s,a,((s.length - r'.length:Nat):Int),((s.length - r'.length:Nat):Int),[],flS (a+(fr:Int)) (a+(i:Int)) text parts++[e],true) ?_ (aj Z ?_)
       ·refine ao false (au (fv _ _) (by simpa using hp3)) (ai Bool.false_ne_true (ao true (au (fv _ _) hp2) (aj Z ?_)))
        refine ao (dOk,ak.mk s a ((s.length - r'.length:Nat):Int) ((s.length - r'.length:Nat):Int) [] (flS (a+(fr:Int)) (a+(i:Int)) text parts++[e]) true) (lead (af _ hwh ?_)) (ab Z)
        rintro _ rfl
        refine aj Z (ar O (ar (aG O O) (ab ?_)))
        rw [hi2]; rfl
       ·exact ih.r s a (s.length - r'.length) (s.length - r'.length) [] _ true q h0 h1 O (Nat.le_refl _) (by decide) (by rw [List.length_append,List.length_singleton]; omega) (by rw [hsd]; exact hq)
  rw [if_neg hp2] at hq
  have hit:=Em (s:=s) O (a:=a) (fr:=(fr:Int)) (i:=i) h0 O O O text ht parts opn hl
  cases hi':jR (b::r) with
  | inl k =>
   rw [hi'] at hq hit; cases hq
   have hk:=yo hi'
   refine af (λ t=>t.1=k∧t.2.1=a+(i:Int)∧t.2.2.1=[]) ?_ ?_
   ·refine ao false (au (fv _ _) (by simpa using hp3)) (ai Bool.false_ne_true (ao false (au (fv _ _) (by simpa using hp2)) (ai Bool.false_ne_true ?_)))
    refine af _ hit ?_
    rintro ⟨z1,z2⟩ hz
    have hz:z1=ap.mk k (a+(i:Int)) []:=hz
    subst hz
    exact ab ⟨Z,Z,Z⟩
   ·rintro ⟨t1,t2,t3,t4⟩ ⟨k1,k2,k3⟩
    simp only at k1 k2 k3
    subst k1 k2 k3
    exact ai hk (ab ⟨hk,_,Z⟩)
  | inr tn =>
   obtain ⟨t,n⟩:=tn
   rw [hi'] at hq hit
   have hq:(if 4096 < text.length+t.length then some (.inl (3,a+(fr:Int))) else fq f (a+(fr:Int)) (a+(i:Int)+(n:Int)) (text++t) parts opn ((b::r).drop n))=some q:=hq
   have hn:=pt hi'
   by_cases hlg:4096 < text.length+t.length
   ·rw [if_pos hlg] at hq; cases hq
    refine af (λ t=>t.1=3∧t.2.1=a+(fr:Int)∧t.2.2.1=[]) ?_ ?_
    ·refine ao false (au (fv _ _) (by simpa using hp3)) (ai Bool.false_ne_true (ao false (au (fv _ _) (by simpa using hp2)) (ai Bool.false_ne_true ?_)))
     refine af _ hit ?_
     rintro ⟨z1,z2⟩ hz
     unfold ItO at hz
     simp only [if_pos hlg] at hz
     subst hz
     exact ab ⟨Z,Z,Z⟩
    ·rintro ⟨t1,t2,t3,t4⟩ ⟨k1,k2,k3⟩
     simp only at k1 k2 k3
     subst k1 k2 k3
     exact ai (show ¬ (3:Int)=0 by decide) (ab ⟨(by decide:(3:Int)≠0),_,Z⟩)
   ·rw [if_neg hlg] at hq
    refine ao (0,0,[],s,a,(i:Int)+(n:Int),(fr:Int),text++t,parts,opn) ?_ (aj Z ?_)
    ·refine ao false (au (fv _ _) (by simpa using hp3)) (ai Bool.false_ne_true (ao false (au (fv _ _) (by simpa using hp2)) (ai Bool.false_ne_true ?_)))
     refine af _ hit ?_
     rintro ⟨z1,z2⟩ hz
     unfold ItO at hz
     simp only [if_neg hlg] at hz
     cases hz
     exact ab Z
    ·have e3:s.drop (i+n)=(b::r).drop n:=by rw [tR s i n,hl]
     have:=ih.r s a (i+n) fr (text++t) parts opn q h0 h1 O O  (by rw [List.length_append]; omega) O (by
      rw [e3,show a+((i+n:Nat):Int)=a+(i:Int)+(n:Int) by omega]; exact hq)
     rw [show ((i+n:Nat):Int)=(i:Int)+(n:Int) by omega] at this
     exact this
theorem fol:∀ f,Fol f:=by
 intro f
 induction f with
 | zero =>
  constructor
  ·intro b l L base hL hlen i nest q h hq; rw [fb] at hq; cases hq
  ·intro lev li b l _ _ L base hL hlen i nest q h hq; rw [kW] at hq; cases hq
  ·intro lev li b l x r5 _ _ _ L base hL hlen i nest q h hq; rw [lN] at hq; cases hq
  ·intro b l L base hL hlen i nest q h hq; rw [unS] at hq; cases hq
  ·intro b l x r1 _ L base hL hlen i nest q h hq; rw [iA] at hq; cases hq
  ·intro b l L base hL hlen i nest q h hq; rw [jB] at hq; cases hq
  ·intro b l _ L base hL hlen i nest q h hq; rw [mY] at hq; cases hq
  ·intro b l _ L base hL hlen i nest q h hq; rw [jN] at hq; cases hq
  ·intro en l out _ _ L base hL hlen i nest q h hq; rw [ga] at hq; cases hq
  ·intro l out _ _ L base hL hlen i nest q h hq; rw [lR] at hq; cases hq
  ·intro l L base hL hlen i nest q h hq; rw [jO] at hq; cases hq
  ·intro a k l _ _ L base hL hlen i nest b q _ _ h hq; rw [iX] at hq; cases hq
  ·intro s a q _ _ hq; rw [gX] at hq; cases hq
  ·intro s a i fr text parts opn q _ _ _ _ _ _ hq; rw [fq] at hq; cases hq
  ·intro s a q _ _ hq; rw [dZ] at hq; cases hq
 | succ f ih=>exact ⟨EO ih,E9 ih,Ef ih,EK ih,DF ih,EZ ih,EN ih,EL ih,E5 ih,ES ih,EG ih,D8 ih,DC ih,EJ ih,EW ih⟩
inductive F2 {α β:Type}(P:α→β→Prop):List α→List β→Prop where
 | nil:F2 P [] []
 | cons {a:α} {b:β} {l:List α} {m:List β} (h:P a b) (t:F2 P l m):F2 P (a::l) (b::m)
theorem F2.app {α β:Type}{P:α→β→Prop}{a c:List α}{b d:List β}(h:F2 P a b)(g:F2 P c d):F2 P (a++c) (b++d):=by
 induction h with
 | nil=>exact g
 | cons p _ ih=>exact .cons p ih
theorem F2.len {α β:Type}{P:α→β→Prop}{a:List α}{b:List β}(h:F2 P a b):b.length=a.length:=by
 induction h with
 | nil=>rfl
 | cons p _ ih=>rw [List.length_cons,List.length_cons,ih]
theorem F2.zip {α β:Type}{P:α→β→Prop}{a:List α}{b:List β}(h:F2 P a b):∀ p∈a.zip b,P p.1 p.2:=by
 induction h with
 | nil=>intro p hp; cases hp
 | cons p _ ih =>
  intro q hq
  rw [List.zip_cons_cons] at hq
  rcases List.mem_cons.1 hq with rfl | hq
  ·exact p
  ·exact ih q hq
theorem F2.map {α β γ:Type}{P:β→γ→Prop}(f:α→β)(g:α→γ):∀ l:List α,(∀ a∈l,P (f a) (g a))→F2 P (l.map f) (l.map g)
 | [],_=>.nil
 | a::l,h=>.cons (h a List.mem_cons_self) (F2.map f g l λ b hb=>h b (List.mem_cons_of_mem _ hb))
theorem Aj:∀ {l:List ae},Gd l→∀ t∈l,TkB t
 | [],h,_,_=>h.elim
 | x::r,h,t,ht=>by
  rcases List.mem_cons.1 ht with rfl | ht
  ·exact h.1
  ·rcases h.2 with h2 | h2
   ·rw [h2.2] at ht; cases ht
   ·exact Aj h2.2 t ht
theorem f21 {α β:Type}{P:α→β→Prop}{a:α}{b:β}(h:P a b):F2 P [a] [b]:=.cons h .nil
section
variable {R:Int→Int→Prop}
def TR (R:Int→Int→Prop)(t t':ae):Prop:=t'.fKind=t.fKind∧t'.fText=t.fText∧R t.fAt t'.fAt
inductive RE (R:Int→Int→Prop):ac→ac→Prop where
 | mk {x y:ac} (k:y.fKind=x.fKind) (o:y.fOp=x.fOp) (n:y.fName=x.fName) (m:y.fKey=x.fKey) (v:y.fValue=x.fValue) (a:R x.fAt y.fAt) (c:x.fKids.length≤4000000000) (l:y.fKids.length=x.fKids.length) (s:∀ p∈x.fKids.zip y.fKids,RE R p.1 p.2):RE R x y
theorem RE.at {x y:ac}(h:RE R x y):R x.fAt y.fAt:=by cases h; assumption
theorem qb {k o:Int}{n m:Bytes}{v:ah}{ks ks':List ac}{a a':Int}(h:F2 (RE R) ks ks')(ha:R a a')(hc:ks.length≤4000000000):RE R (ac.mk k o n m v ks a) (ac.mk k o n m v ks' a') :=
 .mk Z Z Z Z Z ha hc h.len h.zip
theorem wK {v:ah}{a a':Int}(ha:R a a'):RE R (vO v a) (vO v a'):=qb .nil ha (Nat.zero_le _)
theorem ET {x y:ac}{a a':Int}(h:RE R x y)(ha:R a a'):RE R (ac.mk x.fKind x.fOp x.fName x.fKey x.fValue x.fKids a) (ac.mk y.fKind y.fOp y.fName y.fKey y.fValue y.fKids a'):=by
 cases h with
 | mk k o n m v b c l s=>exact .mk k o n m v ha c l s
def RQ (R:Int→Int→Prop){α β:Type}(P:α→β→Prop):PR α→PR β→Prop
 | none,none=>True
 | some (.inl e),some (.inl e')=>e'.1=e.1∧R e.2 e'.2
 | some (.inr (a,l)),some (.inr (b,m))=>P a b∧F2 (TR R) l m
 | _,_=>False
def RT (R:Int→Int→Prop){α β:Type}(P:α→β→Prop):Option (PE⊕α)→Option (PE⊕β)→Prop
 | none,none=>True
 | some (.inl e),some (.inl e')=>e'.1=e.1∧R e.2 e'.2
 | some (.inr a),some (.inr b)=>P a b
 | _,_=>False
theorem ez {α β:Type}{P:α→β→Prop}{a:α}{b:β}{l m:List ae}(h:P a b)(hl:F2 (TR R) l m):RQ R P (pok a l) (pok b m):=⟨h,hl⟩
theorem qy {α β:Type}{P:α→β→Prop}{k a a':Int}(h:R a a'):RQ R P (per k a) (per k a'):=⟨Z,h⟩
theorem dw {α β:Type}{P:α→β→Prop}{p:Prop} [Decidable p] {x y:PR α}{x' y':PR β}(h1:p→RQ R P x x')(h2:¬p→RQ R P y y'):RQ R P (if p then x else y) (if p then x' else y'):=by
 by_cases h:p
 ·rw [if_pos h,if_pos h]; exact h1 h
 ·rw [if_neg h,if_neg h]; exact h2 h
theorem qq {α β:Type}{P:α→β→Prop}{p:Prop} [Decidable p] {x y:Option (PE⊕α)}{x' y':Option (PE⊕β)}(h1:p→RT R P x x')(h2:¬p→RT R P y y'):RT R P (if p then x else y) (if p then x' else y'):=by
 by_cases h:p
 ·rw [if_pos h,if_pos h]; exact h1 h
 ·rw [if_neg h,if_neg h]; exact h2 h
theorem d9 {α β γ δ:Type}{P:α→β→Prop}{P':γ→δ→Prop}{Q:α→Prop}{l0:List ae}{x:PR α}{x':PR β}{k:α→List ae→PR γ}{k':β→List ae→PR δ}(h:RQ R P x x')(hx:fH Q l0 x)
  (hk:∀ a b l m,P a b→F2 (TR R) l m→Gl l→Q a→RQ R P' (k a l) (k' b m)):RQ R P' (pb x k) (pb x' k'):=by
 match x,x',h with
 | none,none,_=>exact trivial
 | some (.inl e),some (.inl e'),h=>exact h
 | some (.inr (a,l)),some (.inr (b,m)),h=>exact hk a b l m h.1 h.2 (hx _ Z).2.2 (hx _ Z).1
theorem nf2 (b:Bool){l m:List ae}(h:F2 (TR R) l m):F2 (TR R) (nf b l) (nf b m):=by
 cases b
 ·exact h
 ·induction h with
  | nil=>exact .nil
  | @cons x y l m p t ih =>
   show F2 (TR R) ((x::l).dropWhile nlT) ((y::m).dropWhile nlT)
   rw [List.dropWhile_cons,List.dropWhile_cons,show nlT y=nlT x by unfold nlT; rw [p.1]]
   split
   ·exact ih
   ·exact .cons p t
theorem hd2 (b:Bool){l m:List ae}(g:Gl l)(h:F2 (TR R) l m):TR R (hd b l) (hd b m)∧F2 (TR R) (tl b l) (tl b m):=by
 have h1:=nf2 b h
 have h2:=tW (mB (b:=b) g.1)
 unfold hd tl
 generalize nf b l=x at h1 h2 ⊢
 generalize nf b m=y at h1 ⊢
 cases h1 with
 | nil=>exact absurd Z h2
 | cons p t=>exact ⟨p,t⟩
theorem tl2 {b:Bool}{l m:List ae}(h:F2 (TR R) l m)(g:Gl l):F2 (TR R) (tl b l) (tl b m):=(hd2 b g h).2
theorem at2 {b:Bool}{l m:List ae}(h:F2 (TR R) l m)(g:Gl l):R (hd b l).fAt (hd b m).fAt:=(hd2 b g h).1.2.2
theorem k2' {b:Bool}{l m:List ae}(h:F2 (TR R) l m)(g:Gl l):(hd b m).fKind=(hd b l).fKind:=(hd2 b g h).1.1
theorem x2 {b:Bool}{l m:List ae}(h:F2 (TR R) l m)(g:Gl l):(hd b m).fText=(hd b l).fText:=(hd2 b g h).1.2.1
theorem sg2 {b:Bool}{l m:List ae}(h:F2 (TR R) l m)(g:Gl l)(s:Bytes):sgB b m s=sgB b l s:=by unfold sgB; rw [k2' h g,x2 h g]
theorem wd2 {b:Bool}{l m:List ae}(h:F2 (TR R) l m)(g:Gl l)(s:Bytes):wdB b m s=wdB b l s:=by unfold wdB; rw [k2' h g,x2 h g]
theorem amp2 {b:Bool}{l m:List ae}(h:F2 (TR R) l m)(g:Gl l)(v:Nat):rz b m v=rz b l v:=by
 unfold rz
 congr 1
 funext p
 exact sg2 h g p.1
theorem jj {b:Bool}{s:Bytes}{l m:List ae}(h:F2 (TR R) l m)(g:Gl l):RQ R (λ _ _=>True) (fJ b s l) (fJ b s m):=by
 unfold fJ
 rw [sg2 h g]
 exact dw (λ _=>ez trivial (tl2 h g)) (λ _=>qy (at2 h g))
theorem D6 {b:Bool}{s:Bytes}{l m:List ae}(h:F2 (TR R) l m)(g:Gl l):RQ R (λ _ _=>True) (uP b s l) (uP b s m):=by
 unfold uP
 rw [wd2 h g]
 exact dw (λ _=>ez trivial (tl2 h g)) (λ _=>qy (at2 h g))
theorem AD {b:Bool}{l m:List ae}(h:F2 (TR R) l m)(g:Gl l):RQ R Eq (sS b l) (sS b m):=by
 unfold sS
 rw [k2' h g,x2 h g]
 exact dw (λ _=>ez Z (tl2 h g)) (λ _=>qy (at2 h g))
theorem shp2 {x y:ac}(k:y.fKind=x.fKind)(o:y.fOp=x.fOp)(n:y.fName=x.fName)(m:y.fKey=x.fKey)(v:y.fValue=x.fValue)(l:y.fKids.length=x.fKids.length):td y=td x:=by
 unfold td
 simp only [gf,ia,k,o,n,m,v,l]
theorem EC {x y:ac}(k:y.fKind=x.fKind)(o:y.fOp=x.fOp)(n:y.fName=x.fName)(m:y.fKey=x.fKey)(v:y.fValue=x.fValue)(l:y.fKids.length=x.fKids.length):pg y=pg x:=by
 unfold pg
 simp only [shp2 k o n m v l,k,n,m,v]
theorem vis2 {x y:ac}(h:RE R x y):∀ c lv,nN c lv y=nN c lv x:=by
 induction h with
 | @mk x y k o n m v a c l s ih =>
  have hl:∀ (xs ys:List ac),ys.length=xs.length→(∀ p∈xs.zip ys,∀ c lv,nN c lv p.2=nN c lv p.1)→∀ c lv,nT c lv ys=nT c lv xs:=by
   intro xs
   induction xs with
   | nil =>
    intro ys hl _ c lv
    rw [List.length_eq_zero_iff.1 hl]
   | cons p xs ihx =>
    intro ys hl hp c lv
    cases ys with
    | nil=>cases hl
    | cons q ys =>
     rw [List.zip_cons_cons] at hp
     have h1:=hp _ List.mem_cons_self
     rw [qn,qn,h1 c lv]
     split
     ·exact ihx ys (Nat.succ.inj hl) (λ p hq=>hp p (List.mem_cons_of_mem _ hq)) _ _
     ·rfl
  intro c lv
  rw [uO,uO,EC k o n m v l,hl x.fKids y.fKids l ih]
theorem chk2 {x y:ac}(h:RE R x y):chk y=chk x:=by unfold chk; rw [vis2 h]
theorem Ex {x y:ac}(h:RE R x y):RT R (RE R) (some (lA (.inr x))) (some (lA (.inr y))):=by
 unfold lA
 simp only [chk2 h]
 split
 ·exact h
 ·exact ⟨Z,h.at⟩
theorem fl2 {frm frm' pos pos':Int}{text:Bytes}{p q:List ac}(hf:R frm frm')(hd:pos' - frm'=pos - frm)(h:F2 (RE R) p q):F2 (RE R) (flS frm pos text p) (flS frm' pos' text q):=by
 unfold flS
 by_cases hlt:frm < pos
 ·rw [if_pos hlt,if_pos O]; exact h.app (f21 (wK hf))
 ·rw [if_neg hlt,if_neg O]; exact h
def RZ (R:Int→Int→Prop)(z z':Int×Int×Bytes×List ac×Bool):Prop:=R z.1 z'.1∧z'.2.1 - z'.1=z.2.1 - z.1∧z'.2.2.1=z.2.2.1∧F2 (RE R) z.2.2.2.1 z'.2.2.2.1∧z'.2.2.2.2=z.2.2.2.2
theorem Ei {a a':Int}(ha:R a a'):∀ {z z':Int×Int×Bytes×List ac×Bool},z.2.2.2.1.length≤2000000000→RZ R z z'→RE R (oc a z) (oc a' z')
 | (f,p,t,ps,o),(f',p',t',ps',o'),hc,⟨h1,h2,h3,h4,h5⟩=>by
  replace hc:ps.length≤2000000000:=hc
  replace h1:R f f':=h1
  replace h2:p' - f'=p - f:=h2
  replace h3:t'=t:=h3
  replace h4:F2 (RE R) ps ps':=h4
  replace h5:o'=o:=h5
  subst h3 h5
  unfold oc
  cases o'
  ·exact wK ha
  ·refine qb (fl2 h1 h2 h4) ha ?_
   unfold flS
   split
   ·rw [List.length_append,List.length_singleton]; omega
   ·omega
structure Al (R:Int→Int→Prop)(f:Nat):Prop where
 e:∀ b {l m},F2 (TR R) l m→Gl l→RQ R (RE R) (fb f b l) (fb f b m)
 b:∀ v b {l m},F2 (TR R) l m→Gl l→RQ R (RE R) (kW f v b l) (kW f v b m)
 bl:∀ v b {x y l m},RE R x y→F2 (TR R) l m→Gl l→RQ R (RE R) (lN f v b x l) (lN f v b y m)
 u:∀ b {l m},F2 (TR R) l m→Gl l→RQ R (RE R) (unS f b l) (unS f b m)
 pl:∀ b {x y l m},RE R x y→F2 (TR R) l m→Gl l→RQ R (RE R) (iA f b x l) (iA f b y m)
 p:∀ b {l m},F2 (TR R) l m→Gl l→RQ R (RE R) (jB f b l) (jB f b m)
 s:∀ b {l m},F2 (TR R) l m→Gl l→(hd b l).fKind=3→RQ R (RE R) (mY f b l) (mY f b m)
 n:∀ b {l m},F2 (TR R) l m→Gl l→(hd b l).fKind=1→RQ R (RE R) (jN f b l) (jN f b m)
 i:∀ en {l m},F2 (TR R) l m→Gl l→RQ R (F2 (RE R)) (ga f en l) (ga f en m)
 t:∀ {l m},F2 (TR R) l m→Gl l→RQ R (F2 (RE R)) (lR f l) (lR f m)
 k:∀ {l m},F2 (TR R) l m→Gl l→RQ R (RE R) (jO f l) (jO f m)
 lo:∀ {a a'} k {l m},R a a'→F2 (TR R) l m→Gl l→RQ R (RE R) (iX f a k l) (iX f a' k m)
 tm:∀ (s:Bytes) {a a':Int},R a a'→0≤a→a+(s.length:Int)≤1000000000→RT R (RE R) (gX f s a) (gX f s a')
 r:∀ {frm frm' pos pos':Int} (text:Bytes) {p q:List ac} (o:Bool) (s:Bytes),R frm frm'→R pos pos'→pos' - frm'=pos - frm→F2 (RE R) p q→0≤pos→pos+(s.length:Int)≤1000000000→RT R (RZ R) (fq f frm pos text p o s) (fq f frm' pos' text q o s)
 w:∀ (s:Bytes) {a a':Int},R a a'→0≤a→a+(s.length:Int)≤1000000000→RT R (RE R) (dZ f s a) (dZ f s a')
theorem alk (hR:∀ a a' d,0≤a+d→a+d≤1000000000→R a a'→R (a+d) (a'+d)):∀ f,Al R f:=by
 intro f
 induction f with
 | zero =>
  constructor
  ·intro b l m _ _; rw [fb,fb]; exact trivial
  ·intro v b l m _ _; rw [kW,kW]; exact trivial
  ·intro v b x y l m _ _ _; rw [lN,lN]; exact trivial
  ·intro b l m _ _; rw [unS,unS]; exact trivial
  ·intro b x y l m _ _ _; rw [iA,iA]; exact trivial
  ·intro b l m _ _; rw [jB,jB]; exact trivial
  ·intro b l m _ _ _; rw [mY,mY]; exact trivial
  ·intro b l m _ _ _; rw [jN,jN]; exact trivial
  ·intro en l m _ _; rw [ga,ga]; exact trivial
  ·intro l m _ _; rw [lR,lR]; exact trivial
  ·intro l m _ _; rw [jO,jO]; exact trivial
  ·intro a a' k l m _ _ _; rw [iX,iX]; exact trivial
  ·intro s a a' _ _ _; rw [gX,gX]; exact trivial
  ·intro a a' b b' t p q o s _ _ _ _ _ _; rw [fq,fq]; exact trivial
  ·intro s a a' _ _ _; rw [dZ,dZ]; exact trivial
 | succ f ih =>
  constructor
  ·intro b l m h g
   rw [fb,fb]
   refine d9 (ih.b 0 b h g) ((fct f).b 0 b l g) λ c c' l1 m1' zc h1 g1 q=>?_
   simp only [sg2 h1 g1]
   refine dw (λ hs=>?_) (λ _=>ez zc h1)
   exact d9 (ih.e b (tl2 h1 g1) (glt g1 hs)) ((fct f).e b _ (glt g1 hs)) λ a a' l2 m2' za h2 g2 q=>d9 (jj h2 g2) (cD g2) λ _ _ l3 m3' _ h3 g3 q=>d9 (ih.e b h3 g3) ((fct f).e b _ g3) λ d d' l4 m4 zd h4 _ q=>ez (qb (.cons zc (.cons za (f21 zd))) zc.at G) h4
  ·intro v b l m h g
   rw [kW,kW]
   exact dw (λ _=>ih.u b h g) (λ _=>d9 (ih.b _ b h g) ((fct f).b _ b l g) λ e e' l1 m1' z1 h1 g1 q=>ih.bl v b z1 h1 g1)
  ·intro v b x y l m zx h g
   rw [lN,lN,amp2 h g]
   cases ha:rz b l v with
   | none=>exact ez zx h
   | some p =>
    have hs:sgB b l p.1=true:=List.find?_some (p:=λ p:Bytes×Int=>sgB b l p.1) ha
    exact d9 (ih.b _ b (tl2 h g) (glt g hs)) ((fct f).b _ b _ (glt g hs)) λ y' y'' l1 m1' z1 h1 g1 q=>ih.bl v b (qb (.cons zx (f21 z1)) zx.at G) h1 g1
  ·intro b l m h g
   rw [unS,unS]
   simp only [sg2 h g]
   refine dw (λ hs=>d9 (ih.u b (tl2 h g) (glt g hs)) ((fct f).u b _ (glt g hs)) λ e e' l1 m1' z1 h1 _ q=>ez (qb (f21 z1) (at2 h g) G) h1) (λ _=>dw (λ hs=>d9 (ih.u b (tl2 h g) (glt g hs)) ((fct f).u b _ (glt g hs)) λ e e' l1 m1' z1 h1 _ q=>ez (qb (f21 z1) (at2 h g) G) h1) (λ _=>?_))
   exact d9 (ih.p b h g) ((fct f).p b l g) λ e e' l1 m1' z1 h1 g1 q=>ih.pl b z1 h1 g1
  ·intro b x y l m zx h g
   rw [iA,iA]
   simp only [sg2 h g]
   refine dw (λ hs=>?_) (λ _=>dw (λ hs=>?_) (λ _=>ez zx h))
   ·have g1:=glt g hs
    have h1:=tl2 (b:=b) h g
    simp only [k2' h1 g1,x2 h1 g1]
    exact dw (λ hk=>ih.pl b (qb (f21 zx) zx.at G) (tl2 h1 g1) (glk g1 hk (by decide))) (λ _=>qy (at2 h1 g1))
   ·exact d9 (ih.e true (tl2 h g) (glt g hs)) ((fct f).e true _ (glt g hs)) λ y y' l1 m1' z1 h1 g1 q=>d9 (jj h1 g1) (cD g1) λ _ _ l2 m2' _ h2 g2 q=>ih.pl b (qb (.cons zx (f21 z1)) zx.at G) h2 g2
  ·intro b l m h g
   rw [jB,jB]
   simp only [sg2 h g,k2' h g,x2 h g]
   refine dw (λ hk=>dw (λ _=>ez (wK (at2 h g)) (tl2 h g)) (λ _=>qy (at2 h g))) (λ _=>dw (λ hk=>ih.s b h g hk) (λ _=>dw (λ hk=>ih.n b h g hk) (λ _=>?_)))
   refine dw (λ hs=>d9 (ih.e true (tl2 h g) (glt g hs)) ((fct f).e true _ (glt g hs)) λ e e' l1 m1' z1 h1 g1 q=>d9 (jj h1 g1) (cD g1) λ _ _ l2 m2' _ h2 _ q=>ez z1 h2) (λ _=>dw (λ hs=>?_) (λ _=>dw (λ hs=>?_) (λ _=>qy (at2 h g))))
   ·have g1:=glt g hs
    have h1:=tl2 (b:=b) h g
    simp only [wd2 h1 g1]
    exact dw (λ hw=>ih.lo _ (at2 h g) (tl2 h1 g1) (glw g1 hw)) (λ _=>d9 (ih.i _ h1 g1) ((fct f).i _ _ g1) λ ks ks' l1 m1' z1 h2 _ q=>ez (qb z1 (at2 h g) (by have:=q.2; have:=g1.2; omega)) h2)
   ·have g1:=glt g hs
    have h1:=tl2 (b:=b) h g
    simp only [wd2 h1 g1]
    exact dw (λ hw=>ih.lo _ (at2 h g) (tl2 h1 g1) (glw g1 hw)) (λ _=>d9 (ih.t h1 g1) ((fct f).t _ g1) λ ks ks' l1 m1' z1 h2 _ q=>ez (qb z1 (at2 h g) (by have:=q.2; have:=g1.2; omega)) h2)
  ·intro b l m h g hk
   rw [mY,mY,x2 h g]
   have hb:=sG (mB (b:=b) g.1)
   have ht':=ih.tm (hd b l).fText (hR _ _ 1 (by have:=hb.1; omega) (by have:=hb.2.2.1 hk; omega) (at2 (b:=b) h g)) (by have:=hb.1; omega) (by have:=hb.2.2.1 hk; omega)
   generalize gX f (hd b l).fText ((hd b l).fAt+1)=u at ht' ⊢
   generalize gX f (hd b l).fText ((hd b m).fAt+1)=v at ht' ⊢
   match u,v,ht' with
   | none,none,_=>exact trivial
   | some (.inl e),some (.inl e'),h'=>exact h'
   | some (.inr e),some (.inr e'),h'=>exact ez (ET h' (at2 h g)) (tl2 h g)
  ·intro b l m h g hk
   have g1:=glk g hk (by decide)
   have h1:=tl2 (b:=b) h g
   rw [jN,jN]
   simp only [x2 h g,sg2 h1 g1]
   refine dw (λ _=>ez (wK (at2 h g)) h1) (λ _=>dw (λ _=>ez (wK (at2 h g)) h1) (λ _=>dw (λ _=>ez (wK (at2 h g)) h1) (λ _=>dw (λ _=>qy (at2 h g)) (λ _=>?_))))
   exact dw (λ hs=>d9 (ih.i _ (tl2 h1 g1) (glt g1 hs)) ((fct f).i _ _ (glt g1 hs)) λ ks ks' l1 m1' z1 h2 _ q=>ez (qb z1 (at2 h g) (by have:=q.2; have:=(glt g1 hs).2; omega)) h2) (λ _=>ez (qb .nil (at2 h g) (Nat.zero_le _)) h1)
  ·intro en l m h g
   rw [ga,ga]
   simp only [sg2 h g]
   refine dw (λ hs=>ez .nil (tl2 h g)) (λ _=>d9 (ih.e true h g) ((fct f).e true l g) λ x x' l1 m1' zx h1 g1 q=>?_)
   simp only [sg2 h1 g1]
   exact dw (λ hs=>d9 (ih.i _ (tl2 h1 g1) (glt g1 hs)) ((fct f).i _ _ (glt g1 hs)) λ ks ks' l2 m2' z2 h2 _ q=>ez (.cons zx z2) h2) (λ _=>d9 (jj h1 g1) (cD g1) λ _ _ l2 m2' _ h2 _ q=>ez (f21 zx) h2)
  ·intro l m h g
   rw [lR,lR]
   simp only [sg2 h g]
   refine dw (λ hs=>ez .nil (tl2 h g)) (λ _=>d9 (ih.k h g) ((fct f).k l g) λ k k' l1 m1' zk h1 g1 q=>d9 (jj h1 g1) (cD g1) λ _ _ l2 m2' _ h2 g2 q=>d9 (ih.e true h2 g2) ((fct f).e true _ g2) λ x x' l3 m3' zx h3 g3 q=>?_)
   simp only [sg2 h3 g3]
   exact dw (λ hs=>d9 (ih.t (tl2 h3 g3) (glt g3 hs)) ((fct f).t _ (glt g3 hs)) λ ks ks' l4 m4 z4 h4 _ q=>ez (.cons zk (.cons zx z4)) h4) (λ _=>d9 (jj h3 g3) (cD g3) λ _ _ l4 m4 _ h4 _ q=>ez (.cons zk (f21 zx)) h4)
  ·intro l m h g
   rw [jO,jO]
   simp only [sg2 h g,k2' h g,x2 h g]
   refine dw (λ hk=>ez (wK (at2 h g)) (tl2 h g)) (λ _=>dw (λ hk=>ih.s true h g hk) (λ _=>dw (λ hs=>?_) (λ _=>qy (at2 h g))))
   exact d9 (ih.e true (tl2 h g) (glt g hs)) ((fct f).e true _ (glt g hs)) λ e e' l1 m1' z1 h1 g1 q=>d9 (jj h1 g1) (cD g1) λ _ _ l2 m2' _ h2 _ q=>ez z1 h2
  ·intro a a' k l m ha h g
   rw [iX,iX]
   refine d9 (AD h g) (mK g) λ v v' l1 m1' hv h1 g1 q=>?_
   subst hv
   simp only [sg2 h1 g1]
   refine d9 (P:=Eq) (Q:=Tr) (l0:=l1) (dw (λ hs=>d9 (AD (tl2 h1 g1) (glt g1 hs)) (mK (glt g1 hs)) λ w w' l2 m2' hw h2 _ q=>by subst hw; exact ez Z h2) (λ _=>ez Z h1)) (cK (λ hs=>dm (mK (glt g1 hs)) (t1 (tlS true l1)) λ w l2 z2 s2 g2=>dz trivial s2 g2) (λ _=>dz trivial (sfx _) g1)) λ nk nk' l2 m2' hnk h2 g2 q=>?_
   subst hnk
   refine d9 (D6 h2 g2) (wP g2) λ _ _ l3 m3' _ h3 g3 q=>d9 (ih.e true h3 g3) ((fct f).e true _ g3) λ x x' l4 m4 z4 h4 g4 q=>d9 (jj h4 g4) (cD g4) λ _ _ l5 m5 _ h5 g5 q=>d9 (ih.e true h5 g5) ((fct f).e true _ g5) λ c c' l6 m6 z6 h6 g6 q=>?_
   refine d9 (P:=F2 (RE R)) (Q:=λ ks=>ks.length≤3) (l0:=l6) (dw (λ _=>d9 (jj h6 g6) (cD g6) λ _ _ l7 m7 _ h7 g7 q=>d9 (ih.e true h7 g7) ((fct f).e true _ g7) λ d d' l8 m8 z8 h8 _ q=>ez (.cons z4 (.cons z6 (f21 z8))) h8) (λ _=>ez (.cons z4 (f21 z6)) h6)) (cK (λ _=>dm (cD g6) (tlS true l6) λ _ l7 _ s7 g7=>dm ((fct f).e true l7 g7) (t1 s7) λ d l8 z8 s8 g8=>dz G s8 g8) (λ _=>dz G (sfx _) g6)) λ ks ks' l7 m7 z7 h7 g7 q7=>?_
   simp only [wd2 h7 g7]
   refine d9 (P:=F2 (RE R)) (Q:=λ ks=>ks.length≤4) (l0:=l7) (dw (λ hw=>d9 (ih.e true (tl2 h7 g7) (glw g7 hw)) ((fct f).e true _ (glw g7 hw)) λ e e' l8 m8 z8 h8 _ q=>ez (z7.app (f21 z8)) h8) (λ _=>ez z7 h7)) (cK (λ hw=>dm ((fct f).e true _ (glw g7 hw)) (t1 (tlS true l7)) λ e l8 z8 s8 g8=>dz (by rw [List.length_append,List.length_singleton]; omega) s8 g8) (λ _=>dz (Nat.le_succ_of_le q7) (sfx _) g7)) λ ks ks' l8 m8 z8 h8 g8 q8=>?_
   exact d9 (jj h8 g8) (cD g8) λ _ _ l9 m9 _ h9 _ q=>ez (qb z8 ha O) h9
  ·intro s a a' ha h0 h1
   rw [gX,gX]
   have hc:=(fct f).r a a [] [] false s (2*s.length) h0 h1 (by decide) (λ y hy=>by cases hy) G
   have hr:=ih.r (p:=[]) (q:=[]) [] false s ha ha O .nil h0 h1
   generalize fq f a a [] [] false s=u at hr hc ⊢
   generalize fq f a' a' [] [] false s=v at hr ⊢
   match u,v,hr with
   | none,none,_=>exact trivial
   | some (.inl e),some (.inl e'),h'=>exact h'
   | some (.inr z),some (.inr z'),h'=>exact Ex (Ei ha (by have:=(hc _ Z).2.2; omega) h')
  ·intro frm frm' pos pos' text p q o s hf hp hd hpq h0 h1
   cases s with
   | nil=>rw [fq,fq]; exact ⟨hf,hd,rfl,hpq,rfl⟩
   | cons c r =>
    have hcl:(c::r).length=r.length+1:=rfl
    rw [fq,fq]
    refine qq (λ hx=>qq (λ _=>⟨Z,hf⟩) (λ hl=>ih.r _ _ _ hf (hR _ _ 3 O ?_ hp) O hpq O ?_)) (λ _=>qq (λ hx=>?_) (λ _=>?_))
    ·have:=jY hx
     simp only [List.length_cons,List.length_nil] at this h1 ⊢; omega
    ·have:=jY hx
     rw [List.length_drop]; simp only [List.length_cons,List.length_nil] at this h1 ⊢; omega
    ·cases hc:gb f 1 ((c::r).drop 2) with
     | none=>exact trivial
     | some y =>
      cases y with
      | none=>exact ⟨Z,hp⟩
      | some r' =>
       simp only []
       have hr:=(iR f).1 _ _ _ hc
       have hr2:=hr.2
       have hr1:=hr.1.length_le
       have hx:=jY hx
       rw [List.length_drop] at hr1 hr2
       simp only [List.length_cons,List.length_nil] at hr1 hr2 h1 hx
       have hw':=ih.w (((c::r).drop 2).take (((c::r).drop 2).length - r'.length - 1)) (hR _ _ 2 O O  hp) O (by simp only [List.length_take,List.length_drop,List.length_cons]; omega)
       generalize dZ f (((c::r).drop 2).take (((c::r).drop 2).length - r'.length - 1)) (pos+2)=u at hw' ⊢
       generalize dZ f (((c::r).drop 2).take (((c::r).drop 2).length - r'.length - 1)) (pos'+2)=v at hw' ⊢
       match u,v,hw' with
       | none,none,_=>exact trivial
       | some (.inl e),some (.inl e'),h'=>exact h'
       | some (.inr e),some (.inr e'),h'=>exact ih.r _ _ _ (hR _ _ _ O (by simp only [List.length_cons]; omega) hp) (hR _ _ _ O (by simp only [List.length_cons]; omega) hp) O ((fl2 hf hd hpq).app (f21 h')) O (by simp only [List.length_cons]; omega)
    ·cases hi:jR (c::r) with
     | inl k=>exact ⟨Z,hp⟩
     | inr tn =>
      have:=pt hi
      exact qq (λ _=>⟨Z,hf⟩) (λ hl=>ih.r _ _ _ hf (hR _ _ _ O O  hp) O hpq O (by rw [List.length_drop]; omega))
  ·intro s a a' ha h0 h1
   rw [dZ,dZ]
   refine qq (λ h=>⟨Z,by have:=yc s; exact hR _ _ _ O O  ha⟩) (λ hk=>?_)
   have hk:(eJ s).2.fKind=0:=Classical.not_not.1 hk
   have hg:=rh h0 h1 hk
   have hx':=(fct f).e true _ hg
   have hx:=ih.e true (l:=(eJ s).1.map (mvT a)) (m:=(eJ s).1.map (mvT a')) (F2.map _ _ _ (λ t ht=>⟨Z,Z,by have hb:=Aj hg.1 (mvT a t) (List.mem_map_of_mem ht); have hb1:0≤t.fAt+a:=hb.1; have hb2:t.fAt+a+(t.fText.length:Int)≤1000000000:=hb.2.1; have:=hR a a' t.fAt O O  ha; rwa [Int.add_comm a,Int.add_comm a'] at this⟩)) hg
   generalize fb f true ((eJ s).1.map (mvT a))=u at hx hx' ⊢
   generalize fb f true ((eJ s).1.map (mvT a'))=v at hx ⊢
   match u,v,hx with
   | none,none,_=>exact trivial
   | some (.inl e),some (.inl e'),h'=>exact h'
   | some (.inr (e,l)),some (.inr (e',m)),h' =>
    have gl:=(hx' _ Z).2.2
    simp only [k2' h'.2 gl]
    exact qq (λ _=>h'.1) (λ _=>⟨Z,at2 h'.2 gl⟩)
end
end Go.Ab.R06
end
section
namespace Go.Ab.R06
open Go.Ab Go.Ab.RB Go.Lib
section
variable {L:List ae}
def rO (L:List ae)(i:Nat)(nest:Int)(b:Bool)(l:List ae):Prop :=
 i < L.length∧0≤nest∧nest+((L.length - i:Nat):Int)≤1000000000∧b=decide (0 < nest)∧nf b (L.drop i)=nf b l
def RAt (L:List ae)(i:Nat)(nest:Int)(b:Bool)(l:List ae):Prop:=rO L i nest b l∧L.drop i=nf b l
theorem uY:∀ {L:List ae} {i:Nat},Gd L→i < L.length→Gd (L.drop i)
 | [],_,h,_=>h.elim
 | t::r,0,h,_=>h
 | t::r,i+1,h,hi=>by
  rcases h.2 with h2 | h2
  ·have:=h2.2
   subst this; simp at hi
  ·exact uY (L:=r) (i:=i) h2.2 (by simpa using hi)
theorem rO.gd {i:Nat}{nest:Int}{b:Bool}{l:List ae}(hL:Gd L)(h:rO L i nest b l):Gd (nf b l):=by
 rw [← h.2.2.2.2]; exact mB (uY hL h.1)
theorem rO.ext {i j:Nat}{nest:Int}{b:Bool}{l:List ae}(h:rO L i nest b l)(h1:i≤j)(h2:j < L.length)(h3:L.drop j=nf b (L.drop i)):RAt L j nest b l:=by
 obtain ⟨q1,q2,q3,q4,q5⟩:=h
 refine ⟨⟨h2,q2,by omega,q4,?_⟩,?_⟩
 ·rw [h3,A8,q5]
 ·rw [h3,q5]
theorem RAt.next {j:Nat}{nest:Int}{b:Bool}{l:List ae}(hL:Gd L)(h:RAt L j nest b l)(h6:(hd b l).fKind≠6) :
  rO L (j+1) nest b (tl b l)∧L.drop (j+1)=tl b l:=by
 have hg:Gd (nf b l):=h.1.gd hL
 have e:L.drop (j+1)=tl b l:=by
  have:=h.2
  rw [oB h.1.1,o0 hg] at this
  exact (List.cons.inj this).2
 have hne:=tW (xO hg h6)
 have:j+1 < L.length:=by
  rw [← e] at hne
  rcases Nat.lt_or_ge (j+1) L.length with q | q
  ·exact q
  ·rw [List.drop_eq_nil_of_le q] at hne; exact absurd rfl hne
 obtain ⟨⟨q1,q2,q3,q4,q5⟩,_⟩:=h
 exact ⟨⟨this,q2,by omega,q4,by rw [e]⟩,e⟩
theorem RAt.inn {j:Nat}{nest:Int}{b:Bool}{l:List ae}(hL:Gd L)(h:RAt L j nest b l)(h6:(hd b l).fKind≠6):rO L (j+1) (nest+1) true (tl b l):=by
 obtain ⟨⟨q1,q2,q3,q4,q5⟩,e⟩:=h.next hL h6
 have:=h.1.2.2.1
 have:=h.1.1
 refine ⟨q1,by omega,by omega,?_,by rw [e]⟩
 symm; rw [decide_eq_true_eq]; omega
theorem rO.out {j:Nat}{nest:Int}{b:Bool}{l l':List ae}(h:rO L j (nest+1) true l)(h0:0≤nest)(hb:b=decide (0 < nest))(he:L.drop j=l'):rO L j nest b l':=by
 obtain ⟨q1,q2,q3,q4,q5⟩:=h
 exact ⟨q1,h0,by omega,hb,by rw [he]⟩
def RFl (L:List ae)(nest:Int)(N:Nat)(e:PE)(z:cI):Prop:=e.1≠0∧∃ I:Int,z=.mk L I nest (eD e)∧0≤I∧I≤1000000000+(N:Int)
end
end Go.Ab.R06
end
section
namespace Go.Ab.R06
open Go.Ab Go.Ab.RB Go.Lib
def Dr {α:Type}(L:List ae)(nest:Int)(b:Bool)(N:Nat)(q:PE⊕(α×List ae))(z:α×cI):Prop:=match q with
 | .inl e=>RFl L nest N e z.2
 | .inr (x,l)=>z.1=x∧∃ j:Nat,z.2=.mk L (j:Int) nest dOk∧rO L j nest b l
theorem Dr.up {α:Type}{L:List ae}{nest:Int}{b:Bool}{N M:Nat}{q:PE⊕(α×List ae)}{z:α×cI}(h:Dr L nest b N q z)(hNM:N≤M):Dr L nest b M q z:=by
 rcases q with e | ⟨x,l⟩
 ·obtain ⟨he,I,h1,h2,h3⟩:=h
  exact ⟨he,I,h1,h2,by omega⟩
 ·exact h
def wF (a:Int)(i:Nat)(parts:List ac)(opn:Bool):Prop:=opn=false→(i=0∧parts=[])∨∃ t,parts=[yR t a]
def Tot {α:Type}(F:Nat→Option α):Prop:=Ev2 (λ n _=>F n) (λ _=>True)
theorem d6 {α β:Type}{x:Nat→PR α}{k:Nat→α→List ae→PR β}{P:α→Prop}{l0:List ae}(h:Tot x)(hx:∀ n,fH P l0 (x n))(hk:∀ a l',P a→l' <:+ l0→Gl l'→Tot (λ n=>k n a l')):Tot (λ n=>pb (x n) (k n)):=by
 obtain ⟨r,_,N,hN⟩:=h
 have hr:=hx N r (hN N N (Nat.le_refl _) (Nat.le_refl _))
 rcases r with e | ⟨a,l'⟩
 ·exact ⟨.inl e,trivial,N,λ n m hn hm=>by show pb (x n) (k n)=_; rw [show x n=_ from hN n m hn hm]; rfl⟩
 ·obtain ⟨r2,_,N2,hN2⟩:=hk a l' hr.1 hr.2.1 hr.2.2
  refine ⟨r2,trivial,max N N2,λ n m hn hm=>?_⟩
  show pb (x n) (k n)=_
  rw [show x n=_ from hN n m O O]
  exact hN2 n m O O
theorem fw {α:Type}{r:α}:Tot (λ _=>some r):=ab trivial
theorem Aq {α:Type}{x:Option α}(h:∃ r,x=some r):Tot (λ _=>x):=by
 obtain ⟨r,rfl⟩:=h
 exact fw
theorem kR {b:Bool}{s:Bytes}{l:List ae}:Tot (λ _=>fJ b s l):=Aq (by unfold fJ; split <;> exact ⟨_,Z⟩)
theorem EM {b:Bool}{s:Bytes}{l:List ae}:Tot (λ _=>uP b s l):=Aq (by unfold uP; split <;> exact ⟨_,Z⟩)
theorem Di {b:Bool}{l:List ae}:Tot (λ _=>sS b l):=Aq (by unfold sS; split <;> exact ⟨_,Z⟩)
theorem dy {α:Type}{p:Prop} [Decidable p] {f g:Nat→Option α}(h1:p→Tot f)(h2:¬p→Tot g):Tot (λ n=>if p then f n else g n):=aP h1 h2
theorem fG {α:Type}{f:Nat→Option α}(h:Tot (λ n=>f (n+1))):Tot f:=cj h
theorem vt {α:Type}{x:Nat→Option α}(h:Tot x):∃ r N,∀ n,N≤n→x n=some r:=by
 obtain ⟨r,_,N,hN⟩:=h
 exact ⟨r,N,λ n hn=>hN n n hn hn⟩
theorem uF {α:Type}{x:Nat→Option α}(r:α)(N:Nat)(h:∀ n,N≤n→x n=some r):Tot x:=⟨r,trivial,N,λ n _ hn _=>h n hn⟩
def CV (M:Nat)(l:List ae):Prop:=∀ t∈l,t.fKind=3→t.fText.length < M
theorem alS {M:Nat}{l l':List ae}(h:CV M l)(hs:l' <:+ l):CV M l':=λ t ht=>h t (hs.subset ht)
theorem D9 {b:Bool}{l:List ae}(g:Gl l):hd b l∈l:=by
 have h1:=o0 (mB (b:=b) g.1)
 have h2:nf b l <:+ l:=by
  unfold nf
  cases b
  ·exact List.suffix_refl _
  ·exact List.dropWhile_suffix _
 exact h2.subset (by rw [h1]; exact List.mem_cons_self)
structure TA (l:List ae):Prop where
 e:∀ b,Tot (λ n=>fb n b l)
 b:∀ lev b,Tot (λ n=>kW n lev b l)
 bl:∀ lev b x,Sz x→Tot (λ n=>lN n lev b x l)
 u:∀ b,Tot (λ n=>unS n b l)
 pl:∀ b x,Sz x→Tot (λ n=>iA n b x l)
 i:∀ en,Tot (λ n=>ga n en l)
 t:Tot (λ n=>lR n l)
 lo:∀ a k,Tot (λ n=>iX n a k l)
theorem EX {K:Nat}(hK:∀ (s:Bytes) (a:Int),s.length < K→0≤a→a+(s.length:Int)≤1000000000→Tot (λ n=>gX n s a)):∀ (N:Nat) (l:List ae),l.length≤N→Gl l→CV K l→TA l:=by
 intro N
 induction N with
 | zero =>
  intro l hl g _
  have:=tW g.1
  exact absurd (List.length_eq_zero_iff.1 O) this
 | succ N ih =>
  intro l hl g hA
  have step:∀ {l':List ae} {b:Bool},l' <:+ tl b l→Gl l'→TA l':=λ {l' b} hs gl=>ih l' (by have:=hs.length_le; have:=gll (b:=b) g; omega) gl (alS hA (hs.trans (tlS b l)))
  have stepT:∀ {b:Bool},Gl (tl b l)→TA (tl b l):=λ {b} gl=>step (sfx _) gl
  have hs:∀ b,(hd b l).fKind=3→Tot (λ n=>mY n b l):=by
   intro b k3
   refine fG ?_
   simp only [mY]
   have tk:=sG (mB (b:=b) g.1)
   have h1:=tk.1
   have h2:=tk.2.2.1 k3
   obtain ⟨r,M,hM⟩:=vt (hK (hd b l).fText ((hd b l).fAt+1) (hA _ (D9 g) k3) O O)
   rcases r with e | e
   ·exact uF (.inl e) M λ n hn=>by simp only [hM n hn]
   ·exact uF (.inr (ac.mk e.fKind e.fOp e.fName e.fKey e.fValue e.fKids (hd b l).fAt,tl b l)) M λ n hn=>by simp only [hM n hn]; rfl
  have hn:∀ b,(hd b l).fKind=1→Tot (λ n=>jN n b l):=by
   intro b k1
   have g1:=glk g k1 (by decide)
   refine fG ?_
   simp only [jN]
   refine dy (λ _=>fw) (λ _=>dy (λ _=>fw) (λ _=>dy (λ _=>fw) (λ _=>dy (λ _=>fw) (λ _=>dy (λ hs=>?_) (λ _=>fw)))))
   have g2:=glt g1 hs
   exact d6 ((step (b:=b) (tlS b _) g2).i _) (λ n=>(fct n).i _ _ g2) (λ _ _ _ _ _=>fw)
  have hp:∀ b,Tot (λ n=>jB n b l):=by
   intro b
   refine fG ?_
   simp only [jB]
   refine dy (λ _=>dy (λ _=>fw) (λ _=>fw)) (λ _=>dy (λ k3=>hs b k3) (λ _=>dy (λ k1=>hn b k1) (λ _=>?_)))
   refine dy (λ hs=>?_) (λ _=>?_)
   ·have g1:=glt g hs
    exact d6 ((stepT g1).e true) (λ n=>(fct n).e true _ g1) (λ _ l2 _ _ g2=>d6 kR (λ _=>cD g2) (λ _ _ _ _ _=>fw))
   refine dy (λ hs=>dy (λ hw=>?_) (λ _=>?_)) (λ _=>dy (λ hs=>dy (λ hw=>?_) (λ _=>?_)) (λ _=>fw))
   ·exact (step (b:=b) (tlS true _) (glw (glt g hs) hw)).lo _ _
   ·exact d6 ((stepT (glt g hs)).i _) (λ n=>(fct n).i _ _ (glt g hs)) (λ _ _ _ _ _=>fw)
   ·exact (step (b:=b) (tlS true _) (glw (glt g hs) hw)).lo _ _
   ·exact d6 (stepT (glt g hs)).t (λ n=>(fct n).t _ (glt g hs)) (λ _ _ _ _ _=>fw)
  have hpl:∀ b x,Sz x→Tot (λ n=>iA n b x l):=by
   intro b x zx
   refine fG ?_
   simp only [iA]
   refine dy (λ hs=>dy (λ hk=>?_) (λ _=>fw)) (λ _=>dy (λ hs=>?_) (λ _=>fw))
   ·exact (step (b:=b) (tlS b _) (glk (glt g hs) hk (by decide))).pl b _ (ot (gln (glt g hs)) (by decide) G (m1 zx))
   ·have g1:=glt g hs
    exact d6 ((stepT g1).e true) (λ n=>(fct n).e true _ g1) (λ y l2 zy s2 g2=>d6 kR (λ _=>cD g2) (λ _ l3 _ s3 g3=>(step (b:=b) (s3.trans ((tlS true l2).trans (s2.trans (tlS true _)))) g3).pl b _ (ot (by decide) (by decide) G (m2 zx zy))))
  have hu:∀ b,Tot (λ n=>unS n b l):=by
   intro b
   refine fG ?_
   simp only [unS]
   refine dy (λ hs=>?_) (λ _=>dy (λ hs=>?_) (λ _=>?_))
   ·exact d6 ((stepT (glt g hs)).u b) (λ n=>(fct n).u b _ (glt g hs)) (λ _ _ _ _ _=>fw)
   ·exact d6 ((stepT (glt g hs)).u b) (λ n=>(fct n).u b _ (glt g hs)) (λ _ _ _ _ _=>fw)
   ·exact d6 (hp b) (λ n=>(fct n).p b l g) (λ x l1 zx s1 g1=>(step s1 g1).pl b x zx)
  have hbl:∀ lev b x,Sz x→Tot (λ n=>lN n lev b x l):=by
   intro lev b x zx
   refine fG ?_
   simp only [lN]
   cases ha:rz b l lev with
   | none=>exact fw
   | some p =>
    have hs:sgB b l p.1=true:=List.find?_some (p:=λ p:Bytes×Int=>sgB b l p.1) ha
    exact d6 ((stepT (glt g hs)).b _ b) (λ n=>(fct n).b _ b _ (glt g hs)) (λ y l1 zy s1 g1=>(step (b:=b) (s1.trans (tlS b _)) g1).bl lev b _ (ot (by decide) (by decide) G (m2 zx zy)))
  have hb:∀ (k lev:Nat) b,6≤lev+k→Tot (λ n=>kW n lev b l):=by
   intro k
   induction k with
   | zero =>
    intro lev b hk
    refine fG ?_
    simp only [kW]
    exact dy (λ _=>hu b) (λ h=>absurd O h)
   | succ k ihk =>
    intro lev b hk
    refine fG ?_
    simp only [kW]
    exact dy (λ _=>hu b) (λ _=>d6 (ihk (lev+1) b O) (λ n=>(fct n).b _ b l g) (λ x l1 zx s1 g1=>(step s1 g1).bl lev b x zx))
  have he:∀ b,Tot (λ n=>fb n b l):=by
   intro b
   refine fG ?_
   simp only [fb]
   refine d6 (hb 6 0 b (by decide)) (λ n=>(fct n).b 0 b l g) (λ c l1 zc s1 g1=>dy (λ hs=>?_) (λ _=>fw))
   have g2:=glt g1 hs
   exact d6 ((step (b:=b) ((tlS b l1).trans s1) g2).e b) (λ n=>(fct n).e b _ g2) (λ a l3 _ s3 g3=>d6 kR (λ _=>cD g3) (λ _ l4 _ s4 g4=>d6 ((step (b:=b) (s4.trans ((tlS b l3).trans (s3.trans ((tlS b _).trans ((tlS b l1).trans s1))))) g4).e b) (λ n=>(fct n).e b _ g4) (λ _ _ _ _ _=>fw)))
  have hk:Tot (λ n=>jO n l):=by
   refine fG ?_
   simp only [jO]
   refine dy (λ _=>fw) (λ _=>dy (λ k3=>hs true k3) (λ _=>dy (λ hs=>?_) (λ _=>fw)))
   have g1:=glt g hs
   exact d6 ((stepT g1).e true) (λ n=>(fct n).e true _ g1) (λ _ l2 _ _ g2=>d6 kR (λ _=>cD g2) (λ _ _ _ _ _=>fw))
  have hi:∀ en,Tot (λ n=>ga n en l):=by
   intro en
   refine fG ?_
   simp only [ga]
   refine dy (λ _=>fw) (λ _=>d6 (he true) (λ n=>(fct n).e true l g) (λ x l1 _ s1 g1=>dy (λ hs=>?_) (λ _=>d6 kR (λ _=>cD g1) (λ _ _ _ _ _=>fw))))
   have g2:=glt g1 hs
   exact d6 ((step (b:=true) ((tlS true l1).trans s1) g2).i en) (λ n=>(fct n).i _ _ g2) (λ _ _ _ _ _=>fw)
  have ht:Tot (λ n=>lR n l):=by
   refine fG ?_
   simp only [lR]
   refine dy (λ _=>fw) (λ _=>d6 hk (λ n=>(fct n).k l g) (λ x l1 _ s1 g1=>d6 kR (λ _=>cD g1) (λ _ l2 _ s2 g2=>?_)))
   have s2':=s2.trans ((tlS true l1).trans s1)
   refine d6 ((step (b:=true) s2' g2).e true) (λ n=>(fct n).e true _ g2) (λ y l3 _ s3 g3=>dy (λ hs=>?_) (λ _=>d6 kR (λ _=>cD g3) (λ _ _ _ _ _=>fw)))
   have g4:=glt g3 hs
   exact d6 (step (b:=true) ((tlS true l3).trans (s3.trans ((tlS true l2).trans s2'))) g4).t (λ n=>(fct n).t _ g4) (λ _ _ _ _ _=>fw)
  have hlo:∀ a k,Tot (λ n=>iX n a k l):=by
   intro a k
   refine fG ?_
   simp only [iX]
   refine d6 Di (λ _=>mK g) (λ v l1 _ s1 g1=>?_)
   refine d6 (P:=Tr) (l0:=l1) (dy (λ hs=>d6 Di (λ _=>mK (glt g1 hs)) (λ _ _ _ _ _=>fw)) (λ _=>fw)) (λ _=>cK (λ hs=>dm (mK (glt g1 hs)) (t1 (tlS true l1)) λ w l2 _ s2 g2=>dz trivial s2 g2) (λ _=>dz trivial (sfx _) g1)) (λ nk l2 _ s2 g2=>?_)
   have q2:=s2.trans s1
   refine d6 EM (λ _=>wP g2) (λ _ l3 _ s3 g3=>?_)
   have q3:=s3.trans ((tlS true l2).trans q2)
   refine d6 ((step (b:=true) q3 g3).e true) (λ n=>(fct n).e true _ g3) (λ x l4 _ s4 g4=>?_)
   have q4:=s4.trans ((tlS true l3).trans q3)
   refine d6 kR (λ _=>cD g4) (λ _ l5 _ s5 g5=>?_)
   have q5:=s5.trans ((tlS true l4).trans q4)
   refine d6 ((step (b:=true) q5 g5).e true) (λ n=>(fct n).e true _ g5) (λ c l6 _ s6 g6=>?_)
   have q6:=s6.trans ((tlS true l5).trans q5)
   refine d6 (P:=Tr) (l0:=l6) (dy (λ _=>d6 kR (λ _=>cD g6) (λ _ l7 _ s7 g7=>d6 ((step (b:=true) (s7.trans ((tlS true l6).trans q6)) g7).e true) (λ n=>(fct n).e true _ g7) (λ _ _ _ _ _=>fw))) (λ _=>fw)) (λ n=>cK (λ _=>dm (cD g6) (tlS true l6) λ _ l7 _ s7 g7=>dm ((fct n).e true l7 g7) (t1 s7) λ d l8 _ s8 g8=>dz trivial s8 g8) (λ _=>dz trivial (sfx _) g6)) (λ ks l7 _ s7 g7=>?_)
   have q7:=s7.trans q6
   refine d6 (P:=Tr) (l0:=l7) (dy (λ hw=>d6 ((step (b:=true) ((tlS true l7).trans q7) (glw g7 hw)).e true) (λ n=>(fct n).e true _ (glw g7 hw)) (λ _ _ _ _ _=>fw)) (λ _=>fw)) (λ n=>cK (λ hw=>dm ((fct n).e true _ (glw g7 hw)) (t1 (tlS true l7)) λ e l8 _ s8 g8=>dz trivial s8 g8) (λ _=>dz trivial (sfx _) g7)) (λ ks l8 _ s8 g8=>?_)
   exact d6 kR (λ _=>cD g8) (λ _ _ _ _ _=>fw)
  exact ⟨he,λ lev b=>hb 6 lev b O,hbl,hu,hpl,hi,ht,hlo⟩
theorem tS:∀ (k:Nat) (l:Bytes),l.length < k→(∀ d,Tot (λ n=>gb n d l))∧Tot (λ n=>iz n l)
 | 0,_,h=>absurd h (Nat.not_lt_zero _)
 | k+1,[],_=>⟨λ d=>fG (by simp only [gb]; exact fw),fG (by simp only [iz]; exact fw)⟩
 | k+1,b::r,h=>by
  have hl:(b::r).length=r.length+1:=rfl
  have ih:=λ (l:Bytes) (hl':l.length≤r.length)=>tS k l O
  constructor
  ·intro d
   refine fG ?_
   simp only [gb]
   refine dy (λ _=>(ih r (Nat.le_refl _)).1 _) (λ _=>dy (λ _=>dy (λ _=>fw) (λ _=>(ih r (Nat.le_refl _)).1 _)) (λ _=>dy (λ _=>?_) (λ _=>(ih r (Nat.le_refl _)).1 _)))
   obtain ⟨q,_,N,hN⟩:=(ih r (Nat.le_refl _)).2
   have hq:=hN N N (Nat.le_refl _) (Nat.le_refl _)
   cases q with
   | none=>exact ⟨none,trivial,N,λ n m hn hm=>by simp only [show iz n r=_ from hN n m hn hm]⟩
   | some r' =>
    have hsf:=(iR N).2 _ _ hq
    obtain ⟨q2,_,N2,hN2⟩:=(ih r' O).1 d
    refine ⟨q2,trivial,max N N2,λ n m hn hm=>?_⟩
    simp only [show iz n r=_ from hN n m O O]
    exact hN2 n m O O
  ·refine fG ?_
   simp only [iz]
   refine dy (λ _=>fw) (λ _=>dy (λ _=>(ih _ (by rw [List.length_drop]; omega)).2) (λ _=>dy (λ _=>(ih _ (by rw [List.length_drop]; omega)).2) (λ _=>dy (λ _=>?_) (λ _=>(ih r (Nat.le_refl _)).2))))
   obtain ⟨q,_,N,hN⟩:=(ih ((b::r).drop 2) (by rw [List.length_drop]; omega)).1 1
   have hq:=hN N N (Nat.le_refl _) (Nat.le_refl _)
   cases q with
   | none=>exact ⟨none,trivial,N,λ n m hn hm=>by simp only [show gb n 1 ((b::r).drop 2)=_ from hN n m hn hm]⟩
   | some r' =>
    have hsf:=(iR N).1 _ _ _ hq
    have h2:=hsf.2
    rw [List.length_drop] at h2
    obtain ⟨q2,_,N2,hN2⟩:=(ih r' O).2
    refine ⟨q2,trivial,max N N2,λ n m hn hm=>?_⟩
    simp only [show gb n 1 ((b::r).drop 2)=_ from hN n m O O]
    exact hN2 n m O O
theorem xA {M:Nat}(hW:∀ (s:Bytes) (a:Int),s.length < M→0≤a→a+(s.length:Int)≤1000000000→Tot (λ n=>dZ n s a)):∀ (k:Nat) (s:Bytes) (frm pos:Int) (text:Bytes) (parts:List ac) (opn:Bool),s.length < k→s.length≤M→0≤pos→pos+(s.length:Int)≤1000000000→Tot (λ n=>fq n frm pos text parts opn s)
 | 0,_,_,_,_,_,_,h,_,_,_=>absurd h (Nat.not_lt_zero _)
 | k+1,[],_,_,_,_,_,_,_,_,_=>fG (by simp only [fq]; exact fw)
 | k+1,c::r,frm,pos,text,parts,opn,h,hM,h0,h1=>by
  have hl:(c::r).length=r.length+1:=rfl
  refine fG ?_
  simp only [fq]
  refine dy (λ hx=>dy (λ _=>fw) (λ _=>?_)) (λ _=>dy (λ hx=>?_) (λ _=>?_))
  ·have:=jY hx
   simp only [List.length_cons,List.length_nil] at this
   exact xA hW k _ _ _ _ _ _ (by rw [List.length_drop]; omega) (by rw [List.length_drop]; omega) O (by rw [List.length_drop]; omega)
  ·have hpl:=jY hx
   simp only [List.length_cons,List.length_nil] at hpl
   obtain ⟨q,_,N,hN⟩:=(tS ((c::r).length+1) ((c::r).drop 2) (by rw [List.length_drop]; omega)).1 1
   have hq:=hN N N (Nat.le_refl _) (Nat.le_refl _)
   cases q with
   | none=>exact ⟨.inl (40,pos),trivial,N,λ n m hn hm=>by simp only [show gb n 1 ((c::r).drop 2)=_ from hN n m hn hm]⟩
   | some r' =>
    have hsf:=(iR N).1 _ _ _ hq
    have h2:=hsf.2
    rw [List.length_drop] at h2
    have hw:=hW (((c::r).drop 2).take (((c::r).drop 2).length - r'.length - 1)) (pos+2) (by rw [List.length_take,List.length_drop]; omega) O (by rw [List.length_take,List.length_drop]; omega)
    obtain ⟨z,N1,hN1⟩:=vt hw
    rcases z with e | e
    ·exact uF (.inl e) (max N N1) λ n hn=>by simp only [show gb n 1 ((c::r).drop 2)=_ from hN n n O O,hN1 n O]
    ·obtain ⟨q2,N2,hN2⟩:=vt (xA hW k r' (pos+(((c::r).length - r'.length:Nat):Int)) (pos+(((c::r).length - r'.length:Nat):Int)) [] (flS frm pos text parts++[e]) true O O O O)
     refine uF q2 (max N (max N1 N2)) λ n hn=>?_
     simp only [show gb n 1 ((c::r).drop 2)=_ from hN n n O O,hN1 n O]
     exact hN2 n O
  ·cases hi:jR (c::r) with
   | inl k=>exact fw
   | inr tn =>
    obtain ⟨t,n'⟩:=tn
    have:=pt hi
    exact dy (λ _=>fw) (λ _=>xA hW k _ _ _ _ _ _ (by rw [List.length_drop]; omega) (by rw [List.length_drop]; omega) O (by rw [List.length_drop]; omega))
theorem Dc {K:Nat}(hK:∀ (s:Bytes) (a:Int),s.length < K→0≤a→a+(s.length:Int)≤1000000000→Tot (λ n=>gX n s a))(s:Bytes)(a:Int)(hs:s.length < K+2)(h0:0≤a)(h1:a+(s.length:Int)≤1000000000):Tot (λ n=>dZ n s a):=by
 refine fG ?_
 simp only [dZ]
 refine dy (λ _=>fw) (λ hk=>?_)
 have hk:(eJ s).2.fKind=0:=Classical.not_not.1 hk
 have hg:=rh h0 h1 hk
 have hA:CV K ((eJ s).1.map (mvT a)):=by
  intro t ht h3
  obtain ⟨y,hy,rfl⟩:=List.mem_map.1 ht
  have:=(ra h0 h1 hk).2.1 y hy h3
  show y.fText.length < K
  omega
 obtain ⟨z,N,hN⟩:=vt ((EX hK _ _ (Nat.le_refl _) hg hA).e true)
 rcases z with e | ⟨x,l⟩
 ·exact uF (.inl e) N λ n hn=>by simp only [hN n hn]
 ·by_cases h6:(hd true l).fKind=6
  ·exact uF (.inr x) N λ n hn=>by simp only [hN n hn,if_pos h6]
  ·exact uF (.inl (2,(hd true l).fAt)) N λ n hn=>by simp only [hN n hn,if_neg h6]
theorem AY:∀ (K:Nat) (s:Bytes) (a:Int),s.length < K→0≤a→a+(s.length:Int)≤1000000000→Tot (λ n=>gX n s a)
 | 0,_,_,h,_,_=>absurd h (Nat.not_lt_zero _)
 | K+1,s,a,h,h0,h1=>by
  refine fG ?_
  simp only [gX]
  have hr:=xA (M:=s.length) (λ s' a' hs' h0' h1'=>Dc (K:=K) (λ s'' a''=>AY K s'' a'') s' a' O h0' h1') (s.length+1) s a a [] [] false O (Nat.le_refl _) h0 h1
  obtain ⟨z,N,hN⟩:=vt hr
  rcases z with e | z
  ·exact uF (.inl e) N λ n hn=>by simp only [hN n hn]
  ·exact uF (lA (.inr (oc a z))) N λ n hn=>by simp only [hN n hn]
theorem yO (s:Bytes)(a:Int)(h0:0≤a)(h1:a+(s.length:Int)≤1000000000):∃ n q,dZ n s a=some q:=by
 obtain ⟨q,_,N,hN⟩:=Dc (K:=s.length) (λ s' a'=>AY s.length s' a') s a O h0 h1
 exact ⟨N,q,hN N N (Nat.le_refl _) (Nat.le_refl _)⟩
end Go.Ab.R06
end
section
namespace Go.Ab.R06
open Go.Proofs Go.Ab Go.Ab.RB
attribute [local irreducible] awp ge bq aK aW AV.sub M dc
def d8 (r_law14_alike:ac→ac→Option Bool)(a_0:ac)(b_1:ac):Nat→Int→Option (Unit⊕Bool)
 | 0,_=>none
 | m+1,i18 =>
 if i18 < (a_0.fKids.length:Int) then
  ck ((0:Int)≤i18∧i18 < (a_0.fKids.length:Int)) <|
  ck ((0:Int)≤i18∧i18 < (b_1.fKids.length:Int)) <|
  (r_law14_alike (lat a_0.fKids i18) (lat b_1.fKids i18)).bind λ r22 =>
  if (!r22)=true then
   some (.inr false)
  else
   ck (inR (i18+1)) <|
   d8 r_law14_alike a_0 b_1 m (i18+1)
 else
  some (.inl ())
def ff:Nat→ac→ac→Option Bool
 | 0,_,_=>none
 | n+1,a_0,b_1 =>
 (
   if a_0.fKind=b_1.fKind then
    if a_0.fOp=b_1.fOp then
     if a_0.fName=b_1.fName then
      if a_0.fKey=b_1.fKey then
       (fg n a_0.fValue b_1.fValue).bind λ r5 =>
       if (!r5)=true then
        some true
       else
        some (!decide ((a_0.fKids.length:Int)=(b_1.fKids.length:Int)))
      else
       some true
     else
      some true
    else
     some true
   else
    some true
  : Option Bool).bind λ t8 =>
 if t8=true then
  some false
 else
  jn (d8 (ff n) a_0 b_1 n 0) λ q28 =>
  some true
theorem ru (n:Nat):∀ (a_0:ac) (b_1:ac) (r:Bool),ff n a_0 b_1=some r→aK Tryz.prog 23 [.agg (ac.cs a_0),.agg (ac.cs b_1)] (·=.p (eB r)):=by
 induction n with
 | zero=>intro a_0 b_1 r h0; cases h0
 | succ n ih =>
 have ih_law14_alike_ok:=ih
 intro a_0 b_1 r h0
 rw [ff] at h0
 refine cB good Tryz.func23 Z Z Z λ w0=>mP (λ v:Bool=>.p (eB v)) ?_
 refine nx 8 Z (bd h0 λ o29 h1 h0=>?_)
 refine kN o29 (λ v30=>⟨[(2,.ptr 2 0),(3,.ptr 3 0),(48,.p (eB v30))],[(2,(ac.cs a_0).map .p),(3,(ac.cs b_1).map .p)]⟩) ?_ ?_
 ·refine nx 1 Z (fB [48] h0 Z (λ c9 h0=>?_) λ c9 h0=>?_)
  ·exact nx 6 Z (mQ (oi h0) Z (sr))
  refine nx 8 Z ?_
  obtain ⟨o31,h1,hL0,hR0⟩:=dk h0
  refine kEx 0 (λ v32:Unit=>o31=.inl v32) (λ v32=>⟨[],[]⟩) (λ v32 hv=>?_) ?_
  ·have h0:=hL0 _ hv
   exact nx 6 Z (mQ (oi h0) Z (sr))
  refine lG (λ (q33:Int)=>⟨[(2,.ptr 2 0),(3,.ptr 3 0),(5,.p (eI q33))],[(2,(ac.cs a_0).map .p),(3,(ac.cs b_1).map .p)]⟩) (λ m (q33:Int)=>d8 (ff n) a_0 b_1 m q33) Y 0 h1 (gE Z Z) ?_
  rintro m i18 h1
  replace h1:d8 (ff n) a_0 b_1 (m+1) i18=some o31:=h1
  rw [d8] at h1
  refine nx 6 Z (oLl (f:=ag) Z Z ?_)
  refine nx 2 Z (fD [53] h1 Z (λ c19 h1=>?_) λ c19 h1=>?_)
  ·refine nx 5 Z (cc' h1 λ hk20 h1=>?_)
   refine cc' h1 λ hk21 h1=>bd h1 λ r22 e23 h1=>mD [(2,.ptr 2 0),(3,.ptr 3 0),(5,.p (eI i18))] Z ⟨Z,Z,Z,trivial⟩ Z (dR 3 Z ?_)
   refine dq (.rptr (ac.cs (lat a_0.fKids i18))) [57,58] Z (λ _ e _ q=>am Z (kB (f:=ag) (l:=a_0.fKids) ac.cs Z Z Z Z Z Z (e _ _ Z) Z (e _ _ Z) hk20 ac.cells_eq Y q)) Z (dR 4 Z ?_)
   refine dq (.rptr (ac.cs (lat b_1.fKids i18))) [62,63] Z (λ _ e _ q=>am Z (kB (f:=ag) (l:=b_1.fKids) ac.cs Z Z Z Z Z Z (e _ _ Z) Z (e _ _ Z) hk21 ac.cells_eq Y q)) Z (dR 1 Z ?_)
   refine dq (.p (eB r22)) [60,65] Z (λ _ e _ q=>am Z (cG (ih_law14_alike_ok (lat a_0.fKids i18) (lat b_1.fKids i18) _ e23) Z Z Z (aE (e _ _ Z) (aE (e _ _ Z) bK)) ⟨sr,sr,trivial⟩ Tryz.call23 Z q)) Z (dR 1 Z ?_)
   refine dE Z (nx 1 Z ?_)
   refine fB [67] h1 Z (λ c24 h1=>?_) λ c24 h1=>?_
   ·exact nx 6 Z (mQ (hR0 _ (oi h1).symm) Z (sr))
   refine nx 4 Z (oA h1 Z Z λ hk25 h1=>?_)
   exact nx 2 Z (eX (i18+1) h1 (gE Z Z))
  exact nx 2 Z (eXi _ (oi h1).symm (gE Z Z))
 refine nx 7 Z (fN [10,11] h1 Z (λ c1 h1=>?_) λ c1 h1=>?_)
 ·refine nx 7 Z (fN [16,17,18] h1 Z (λ c2 h1=>?_) λ c2 h1=>?_)
  ·refine nx 4 Z (oS Z Z ?_)
   refine nx 2 Z (fN [23,24,25] h1 Z (λ c3 h1=>?_) λ c3 h1=>?_)
   ·refine nx 4 Z (oS Z Z ?_)
    refine nx 2 Z (fN [30,31,32] h1 Z (λ c4 h1=>?_) λ c4 h1=>?_)
    ·refine nx 4 Z (bd h1 λ r5 e6 h1=>?_)
     refine oK (rr _ a_0.fValue b_1.fValue _ e6) Z ⟨sr,sr,trivial⟩ Tryz.call50 Z (nx 3 Z ?_)
     refine fB [38,39,40] h1 Z (λ c7 h1=>?_) λ c7 h1=>?_
     ·exact nx 9 Z (eX _ (oi h1).symm (gE Z Z))
     refine nx 2 Z (oLl (f:=ag) Z Z ?_)
     refine nx 2 Z (oLl (f:=ag) Z Z ?_)
     exact nx 3 Z (eX _ (oi h1).symm (gE Z Z))
    exact nx 17 Z (eX _ (oi h1).symm (gE Z Z))
   exact nx 24 Z (eX _ (oi h1).symm (gE Z Z))
  exact nx 31 Z (eX _ (oi h1).symm (gE Z Z))
 exact nx 38 Z (eX _ (oi h1).symm (gE Z Z))
def dv (r_law14_offsets:ac→ac→Option Bool)(a_0:ac)(b_1:ac):Nat→Int→Option (Unit⊕Bool)
 | 0,_=>none
 | m+1,i12 =>
 (
   if i12 < (a_0.fKids.length:Int) then
    some (decide (i12 < (b_1.fKids.length:Int)))
   else
    some false
  : Option Bool).bind λ t14 =>
 if t14=true then
  ck ((0:Int)≤i12∧i12 < (a_0.fKids.length:Int)) <|
  ck ((0:Int)≤i12∧i12 < (b_1.fKids.length:Int)) <|
  (r_law14_offsets (lat a_0.fKids i12) (lat b_1.fKids i12)).bind λ r18 =>
  if (!r18)=true then
   some (.inr false)
  else
   ck (inR (i12+1)) <|
   dv r_law14_offsets a_0 b_1 m (i12+1)
 else
  some (.inl ())
def d3:Nat→ac→ac→Option Bool
 | 0,_,_=>none
 | n+1,a_0,b_1 =>
 if a_0.fAt=b_1.fAt then
  jn (dv (d3 n) a_0 b_1 n 0) λ q23 =>
  some true
 else
  some false
theorem qc (n:Nat):∀ (a_0:ac) (b_1:ac) (r:Bool),d3 n a_0 b_1=some r→aK Tryz.prog 37 [.agg (ac.cs a_0),.agg (ac.cs b_1)] (·=.p (eB r)):=by
 induction n with
 | zero=>intro a_0 b_1 r h0; cases h0
 | succ n ih =>
 have ih_law14_offsets_ok:=ih
 intro a_0 b_1 r h0
 rw [d3] at h0
 refine cB good Tryz.func37 Z Z Z λ w0=>mP (λ v:Bool=>.p (eB v)) ?_
 refine nx 15 Z (fN [10] h0 Z (λ c1 h0=>?_) λ c1 h0=>?_)
 ·refine nx 8 Z ?_
  obtain ⟨o25,h1,hL0,hR0⟩:=dk h0
  refine kEx 0 (λ v26:Unit=>o25=.inl v26) (λ v26=>⟨[],[]⟩) (λ v26 hv=>?_) ?_
  ·have h0:=hL0 _ hv
   exact nx 6 Z (mQ (oi h0) Z (sr))
  refine lG (λ (q27:Int)=>⟨[(2,.ptr 2 0),(3,.ptr 3 0),(5,.p (eI q27))],[(2,(ac.cs a_0).map .p),(3,(ac.cs b_1).map .p)]⟩) (λ m (q27:Int)=>dv (d3 n) a_0 b_1 m q27) Y 0 h1 (gE Z Z) ?_
  rintro m i12 h1
  replace h1:dv (d3 n) a_0 b_1 (m+1) i12=some o25:=h1
  rw [dv] at h1
  refine nx 2 Z (bd h1 λ o28 h2 h1=>?_)
  refine kN o28 (λ v29=>⟨[(2,.ptr 2 0),(3,.ptr 3 0),(5,.p (eI i12)),(22,.p (eB v29))],[(2,(ac.cs a_0).map .p),(3,(ac.cs b_1).map .p)]⟩) ?_ ?_
  ·refine nx 1 Z (fB [22] h1 Z (λ c15 h1=>?_) λ c15 h1=>?_)
   ·refine nx 5 Z (cc' h1 λ hk16 h1=>?_)
    refine cc' h1 λ hk17 h1=>bd h1 λ r18 e19 h1=>mD [(2,.ptr 2 0),(3,.ptr 3 0),(5,.p (eI i12))] Z ⟨Z,Z,Z,trivial⟩ Z (dR 3 Z ?_)
    refine dq (.rptr (ac.cs (lat a_0.fKids i12))) [26,27] Z (λ _ e _ q=>am Z (kB (f:=ag) (l:=a_0.fKids) ac.cs Z Z Z Z Z Z (e _ _ Z) Z (e _ _ Z) hk16 ac.cells_eq Y q)) Z (dR 4 Z ?_)
    refine dq (.rptr (ac.cs (lat b_1.fKids i12))) [31,32] Z (λ _ e _ q=>am Z (kB (f:=ag) (l:=b_1.fKids) ac.cs Z Z Z Z Z Z (e _ _ Z) Z (e _ _ Z) hk17 ac.cells_eq Y q)) Z (dR 1 Z ?_)
    refine dq (.p (eB r18)) [29,34] Z (λ _ e _ q=>am Z (cG (ih_law14_offsets_ok (lat a_0.fKids i12) (lat b_1.fKids i12) _ e19) Z Z Z (aE (e _ _ Z) (aE (e _ _ Z) bK)) ⟨sr,sr,trivial⟩ Tryz.call37 Z q)) Z (dR 1 Z ?_)
    refine dE Z (nx 1 Z ?_)
    refine fB [36] h1 Z (λ c20 h1=>?_) λ c20 h1=>?_
    ·exact nx 6 Z (mQ (hR0 _ (oi h1).symm) Z (sr))
    refine nx 4 Z (oA h1 Z Z λ hk21 h1=>?_)
    exact nx 2 Z (eX (i12+1) h1 (gE Z Z))
   exact nx 2 Z (eXi _ (oi h1).symm (gE Z Z))
  refine nx 4 Z (oLl (f:=ag) Z Z ?_)
  refine nx 2 Z (fD [15,16] h2 Z (λ c13 h2=>?_) λ c13 h2=>?_)
  ·refine nx 3 Z (oLl (f:=ag) Z Z ?_)
   exact nx 3 Z (eX _ (oi h2).symm (gE Z Z))
  exact nx 7 Z (eX _ (oi h2).symm (gE Z Z))
 exact nx 6 Z (mQ (oi h0) Z (sr))
def ju (n:Nat)(a_0:ac)(b_1:ac):Option Bool :=
 (
   (ff n a_0 b_1).bind λ r1 =>
   if r1=true then
    (d3 n a_0 b_1).bind λ r4 =>
    some r4
   else
    some false
  : Option Bool).bind λ t6 =>
 some t6
theorem mX (n:Nat)(a_0:ac)(b_1:ac)(r:Bool)(h0:ju n a_0 b_1=some r):aK Tryz.prog 18 [.agg (ac.cs a_0),.agg (ac.cs b_1)] (·=.p (eB r)):=by
 unfold ju at h0
 refine cB good Tryz.func18 Z Z Z λ w0=>mP (λ v:Bool=>.p (eB v)) ?_
 refine nx 7 Z (bd h0 λ o8 h1 h0=>?_)
 refine kN o8 (λ v9=>⟨[(4,.p (eB v9))],[]⟩) ?_ ?_
 ·exact nx 2 Z (mQ (oi h0) Z (sr))
 refine nx 3 Z (bd h1 λ r1 e2 h1=>?_)
 refine oK (ru _ a_0 b_1 _ e2) Z ⟨sr,sr,trivial⟩ Tryz.call23 Z (nx 1 Z ?_)
 refine fB [7,8] h1 Z (λ c3 h1=>?_) λ c3 h1=>?_
 ·refine nx 2 Z (bd h1 λ r4 e5 h1=>?_)
  refine oK (qc _ a_0 b_1 _ e5) Z ⟨sr,sr,trivial⟩ Tryz.call37 Z (nx 3 Z ?_)
  exact eX _ (oi h1).symm (gE Z Z)
 exact nx 6 Z (eX _ (oi h1).symm (gE Z Z))
end Go.Ab.R06
end
section
namespace Go.Ab.R06
open Go.Proofs Go.Ab Go.Ab.RB
theorem u0 {v:ah}(hb:VSz v):Ev2 (λ n _=>fg n v v) (·=true):=by
 induction hb with
 | @mk x hv hs ih =>
  have l1:∀ k i:Nat,i+k=x.fKeys.length→Ev2 (λ _ m=>ea x x m i) (·=.inl ()):=by
   intro k
   induction k with
   | zero=>intro i hi; exact aV (by simp only [ea]; exact ai O (ab rfl))
   | succ k ihk =>
    intro i hi
    refine aV ?_
    simp only [ea]
    exact aj O (ar O (ar O (aj (by trivial) (ar (aG O O) (ihk (i+1) O)))))
  have l2:∀ k i:Nat,i+k=x.fItems.length→Ev2 (λ n m=>ed (fg n) x x m i) (·=.inl ()):=by
   intro k
   induction k with
   | zero=>intro i hi; exact aV (by simp only [ed]; exact ai O (ab rfl))
   | succ k ihk =>
    intro i hi
    refine aV ?_
    simp only [ed]
    exact aj O (ar O (ar O (ao _ (ih _ (rp O)) (ai (by decide) (ar (aG O O) (ihk (i+1) O))))))
  refine cj ?_
  simp only [fg]
  refine ao false (aj (by trivial) (aj (by trivial) (aj (by trivial) (aj (by trivial) (ab G))))) (ai (by decide) ?_)
  exact fE () (bS (f:=λ n m=>ea x x m 0) (l1 x.fKeys.length 0 O)) (fE () (bS (f:=λ n m=>ed (fg n) x x m 0) (l2 x.fItems.length 0 O)) (ab Z))
theorem alike_refl {e:ac}(hb:Sz e):Ev2 (λ n _=>ff n e e) (·=true):=by
 induction hb with
 | @mk x hn hk hw hc hs ih =>
  have l1:∀ k i:Nat,i+k=x.fKids.length→Ev2 (λ n m=>d8 (ff n) x x m i) (·=.inl ()):=by
   intro k
   induction k with
   | zero=>intro i hi; exact aV (by simp only [d8]; exact ai O (ab rfl))
   | succ k ihk =>
    intro i hi
    refine aV ?_
    simp only [d8]
    exact aj O (ar O (ar O (ao _ (ih _ (rp O)) (ai (by decide) (ar (aG O O) (ihk (i+1) O))))))
  refine cj ?_
  simp only [ff]
  refine ao false (aj (by trivial) (aj (by trivial) (aj (by trivial) (aj (by trivial) (ao _ (u0 hw) (ai (by decide) (ab G))))))) (ai (by decide) ?_)
  exact fE () (bS (f:=λ n m=>d8 (ff n) x x m 0) (l1 x.fKids.length 0 O)) (ab Z)
theorem uD {e:ac}(hb:Sz e):Ev2 (λ n _=>d3 n e e) (·=true):=by
 induction hb with
 | @mk x hn hk hw hc hs ih =>
  have l1:∀ k i:Nat,i+k=x.fKids.length→Ev2 (λ n m=>dv (d3 n) x x m i) (·=.inl ()):=by
   intro k
   induction k with
   | zero=>intro i hi; exact aV (by simp only [dv]; exact ao false (ai O (ab rfl)) (ai (by decide) (ab rfl)))
   | succ k ihk =>
    intro i hi
    refine aV ?_
    simp only [dv]
    exact ao true (aj O (ab (by simp; omega))) (aj (by trivial) (ar O (ar O (ao _ (ih _ (rp O)) (ai (by decide) (ar (aG O O) (ihk (i+1) O)))))))
  refine cj ?_
  simp only [d3]
  exact aj (by trivial) (fE () (bS (f:=λ n m=>dv (d3 n) x x m 0) (l1 x.fKids.length 0 O)) (ab Z))
theorem xc {e:ac}(hb:Sz e):Ev2 (λ n _=>ju n e e) (·=true):=by
 simp only [ju]
 exact ao true (ao _ (alike_refl hb) (aj (by trivial) (ao _ (uD hb) (ab Z)))) (ab Z)
theorem x4 {s:Bytes}{f:Nat}{q:PE⊕ac}(hs:(s.length:Int)≤1000000)(hq:dZ f s 0=some q):Ev2 (λ n _=>ei n s) (·=Bo (lA q)):=by
 have hz:=(fct f).w s 0 O O  q hq
 have h1:=(fol f).w s 0 q O O  hq
 simp only [ei]
 refine af _ h1 λ r hr=>?_
 cases q with
 | inl e =>
  obtain ⟨he,hr⟩:=hr
  refine ao (Bo (lA (.inl e))) ?_ (ab Z)
  simp only [eR]
  rw [hr]
  exact ai he (ab Z)
 | inr x =>
  replace hr:r=(x,dOk):=hr
  subst hr
  exact ao _ (rG hz) (ab Z)
end Go.Ab.R06
end
section
namespace Go.Ab.R06
open Go.Proofs Go.Ab Go.Ab.RB
attribute [local irreducible] awp ge bq aK aW AV.sub M dc
def ec (r_law14_moved:ac→Int→Option ac)(e_0:ac)(n_1:Int):Nat→Int→(List ac)→Option (List ac)
 | 0,_,_=>none
 | m+1,i10,f11 =>
 if i10 < (e_0.fKids.length:Int) then
  ck ((0:Int)≤i10∧i10 < (e_0.fKids.length:Int)) <|
  (r_law14_moved (lat e_0.fKids i10) n_1).bind λ r14 =>
  ck ((f11.length+[r14].length)*160≤140737488355328) <|
  ck (inR (i10+1)) <|
  ec r_law14_moved e_0 n_1 m (i10+1) (f11++[r14])
 else
  some f11
def fc:Nat→ac→Int→Option ac
 | 0,_,_=>none
 | n+1,e_0,n_1 =>
 ck (inR (e_0.fAt+n_1)) <|
 (ec (fc n) e_0 n_1 n 0 []).bind λ f20 =>
 some (ac.mk e_0.fKind e_0.fOp e_0.fName e_0.fKey e_0.fValue f20 (e_0.fAt+n_1))
theorem nc (n:Nat):∀ (e_0:ac) (n_1:Int) (r:ac),fc n e_0 n_1=some r→aK Tryz.prog 24 [.agg (ac.cs e_0),eI n_1] (·=.p (.agg (ac.cs r))):=by
 induction n with
 | zero=>intro e_0 n_1 r h0; cases h0
 | succ n ih =>
 have ih_law14_moved_ok:=ih
 intro e_0 n_1 r h0
 rw [fc] at h0
 refine cB good Tryz.func24 Z Z Z λ w0=>mP (λ v:ac=>.p (.agg (ac.cs v))) ?_
 refine nx 16 Z (oA h0 Z Z λ hk1 h0=>?_)
 refine nx 14 Z (bd h0 λ o22 h1 h0=>?_)
 refine kE 0 o22 (λ v23=>⟨[(4,.ptr 4 0),(5,.ptr 5 0)],[(4,[.p (eI 0),.p (eI 0),.p (eS ([]:Bytes)),.p (eS ([]:Bytes)),.p (eI 0),.p (eI 0),.p (eS ([]:Bytes)),.p (.val (.slice none 0 0)),.p (.val (.slice none 0 0)),.p (.val (.slice none 0 0)),.p (eI 0)]),(5,[.p (eI e_0.fKind),.p (eI e_0.fOp),.p (eS e_0.fName),.p (eS e_0.fKey),.p (eI e_0.fValue.fKind),.p (eI e_0.fValue.fNum),.p (eS e_0.fValue.fStr),.p (eL cC e_0.fValue.fItems),.p (eL eS e_0.fValue.fKeys),.vec 31 11 0 (v23.map ag),.p (eI (e_0.fAt+n_1))])]⟩) ?_ ?_
 ·exact nx 7 Z (mQ (oi h0) Z (uX ⟨sr,sr,sr,sr,sr,sr,sr,sr,sr,AV.sub_vec _ _ _ _,sr,trivial⟩))
 refine lG (λ (q24:Int×(List ac))=>⟨[(1,.p (eI n_1)),(2,.ptr 2 0),(4,.ptr 4 0),(5,.ptr 5 0),(6,.p (eI q24.1))],[(2,(ac.cs e_0).map .p),(4,[.p (eI 0),.p (eI 0),.p (eS ([]:Bytes)),.p (eS ([]:Bytes)),.p (eI 0),.p (eI 0),.p (eS ([]:Bytes)),.p (.val (.slice none 0 0)),.p (.val (.slice none 0 0)),.p (.val (.slice none 0 0)),.p (eI 0)]),(5,[.p (eI e_0.fKind),.p (eI e_0.fOp),.p (eS e_0.fName),.p (eS e_0.fKey),.p (eI e_0.fValue.fKind),.p (eI e_0.fValue.fNum),.p (eS e_0.fValue.fStr),.p (eL cC e_0.fValue.fItems),.p (eL eS e_0.fValue.fKeys),.vec 31 11 0 (q24.2.map ag),.p (eI (e_0.fAt+n_1))])]⟩) (λ m (q24:Int×(List ac))=>ec (fc n) e_0 n_1 m q24.1 q24.2) Y (0,[]) h1 (fZ (nY ⟨er Z,er Z,er Z,er Z,er Z,trivial⟩ ⟨⟨_,Z,⟨sr,sr,sr,sr,sr,sr,sr,sr,sr,sr,sr,trivial⟩⟩,⟨_,Z,⟨sr,sr,sr,sr,sr,sr,sr,sr,sr,sr,sr,trivial⟩⟩,⟨_,Z,⟨sr,sr,sr,sr,sr,sr,sr,sr,sr,AV.sub_nilvec _ _ _,sr,trivial⟩⟩,trivial⟩)) ?_
 rintro m ⟨i10,f11⟩ h1
 replace h1:ec (fc n) e_0 n_1 (m+1) i10 f11=some o22:=h1
 rw [ec] at h1
 refine nx 6 Z (oLl (f:=ag) Z Z ?_)
 refine nx 2 Z (fD [18] h1 Z (λ c12 h1=>?_) λ c12 h1=>?_)
 ·refine nx 4 Z (cc' h1 λ hk13 h1=>?_)
  refine bd h1 λ r14 e15 h1=>cc' h1 λ hk16 h1=>mG (gE (t:=⟨[(1,.p (eI n_1)),(2,.ptr 2 0),(4,.ptr 4 0),(5,.ptr 5 0),(6,.p (eI i10))],[(2,(ac.cs e_0).map .p),(4,[.p (eI 0),.p (eI 0),.p (eS ([]:Bytes)),.p (eS ([]:Bytes)),.p (eI 0),.p (eI 0),.p (eS ([]:Bytes)),.p (.val (.slice none 0 0)),.p (.val (.slice none 0 0)),.p (.val (.slice none 0 0)),.p (eI 0)]),(5,[.p (eI e_0.fKind),.p (eI e_0.fOp),.p (eS e_0.fName),.p (eS e_0.fKey),.p (eI e_0.fValue.fKind),.p (eI e_0.fValue.fNum),.p (eS e_0.fValue.fStr),.p (eL cC e_0.fValue.fItems),.p (eL eS e_0.fValue.fKeys),.vec 31 11 0 (f11.map ag),.p (eI (e_0.fAt+n_1))])]⟩) Z Z) (mS ⟨2,[10,12],(by3 (.some λ i=>Nat.beq i 31||Nat.beq i 31) .none .none),(λ _=>[(1,.p (eI n_1)),(2,.ptr 2 0),(4,.ptr 4 0),(5,.ptr 5 0),(6,.p (eI i10))]),(by3 ([(2,[.p (eI e_0.fKind),.p (eI e_0.fOp),.p (eS e_0.fName),.p (eS e_0.fKey),.p (eI e_0.fValue.fKind),.p (eI e_0.fValue.fNum),.p (eS e_0.fValue.fStr),.p (eL cC e_0.fValue.fItems),.p (eL eS e_0.fValue.fKeys),.p (eL ag e_0.fKids),.p (eI e_0.fAt)]),(4,[.p (eI 0),.p (eI 0),.p (eS ([]:Bytes)),.p (eS ([]:Bytes)),.p (eI 0),.p (eI 0),.p (eS ([]:Bytes)),.p (.val (.slice none 0 0)),.p (.val (.slice none 0 0)),.p (.val (.slice none 0 0)),.p (eI 0)]),(5,[.p (eI e_0.fKind),.p (eI e_0.fOp),.p (eS e_0.fName),.p (eS e_0.fKey),.p (eI e_0.fValue.fKind),.p (eI e_0.fValue.fNum),.p (eS e_0.fValue.fStr),.p (eL cC e_0.fValue.fItems),.p (eL eS e_0.fValue.fKeys),.vec 31 11 0 (f11.map ag),.p (eI (e_0.fAt+n_1))])]) ([(2,[.p (eI e_0.fKind),.p (eI e_0.fOp),.p (eS e_0.fName),.p (eS e_0.fKey),.p (eI e_0.fValue.fKind),.p (eI e_0.fValue.fNum),.p (eS e_0.fValue.fStr),.p (eL cC e_0.fValue.fItems),.p (eL eS e_0.fValue.fKeys),.p (eL ag e_0.fKids),.p (eI e_0.fAt)]),(4,[.p (eI 0),.p (eI 0),.p (eS ([]:Bytes)),.p (eS ([]:Bytes)),.p (eI 0),.p (eI 0),.p (eS ([]:Bytes)),.p (.val (.slice none 0 0)),.p (.val (.slice none 0 0)),.p (.val (.slice none 0 0)),.p (eI 0)]),(5,[.p (eI e_0.fKind),.p (eI e_0.fOp),.p (eS e_0.fName),.p (eS e_0.fKey),.p (eI e_0.fValue.fKind),.p (eI e_0.fValue.fNum),.p (eS e_0.fValue.fStr),.p (eL cC e_0.fValue.fItems),.p (eL eS e_0.fValue.fKeys),.p (eL ag f11),.p (eI (e_0.fAt+n_1))])]) ([(5,[.p (eI e_0.fKind),.p (eI e_0.fOp),.p (eS e_0.fName),.p (eS e_0.fKey),.p (eI e_0.fValue.fKind),.p (eI e_0.fValue.fNum),.p (eS e_0.fValue.fStr),.p (eL cC e_0.fValue.fItems),.p (eL eS e_0.fValue.fKeys),.vec 31 11 0 ((f11++[r14]).map ag),.p (eI (e_0.fAt+n_1))]),(2,[.p (eI e_0.fKind),.p (eI e_0.fOp),.p (eS e_0.fName),.p (eS e_0.fKey),.p (eI e_0.fValue.fKind),.p (eI e_0.fValue.fNum),.p (eS e_0.fValue.fStr),.p (eL cC e_0.fValue.fItems),.p (eL eS e_0.fValue.fKeys),.p (eL ag e_0.fKids),.p (eI e_0.fAt)]),(4,[.p (eI 0),.p (eI 0),.p (eS ([]:Bytes)),.p (eS ([]:Bytes)),.p (eI 0),.p (eI 0),.p (eS ([]:Bytes)),.p (.val (.slice none 0 0)),.p (.val (.slice none 0 0)),.p (.val (.slice none 0 0)),.p (eI 0)]),(5,[.p (eI e_0.fKind),.p (eI e_0.fOp),.p (eS e_0.fName),.p (eS e_0.fKey),.p (eI e_0.fValue.fKind),.p (eI e_0.fValue.fNum),.p (eS e_0.fValue.fStr),.p (eL cC e_0.fValue.fItems),.p (eL eS e_0.fValue.fKeys),.p (eL ag f11),.p (eI (e_0.fAt+n_1))])]))⟩ Z Z Z ⟨Z,Z,Z,Z,Z,trivial⟩ (lt2 ⟨Z,Z,Z,Z,Z,trivial⟩ ⟨Z,Z,Z,Z,Z,trivial⟩) Z Z Z Z ?_)
  refine aN (λ _=>.ptr 5 9) Z Z Z (jz Z Z Y) (lt2 Z Z) (az Z (ay [(5,_)] ⟨.inl Z,trivial⟩ (λ sl hsl K hK=>am Z (fF Z Z Z Z Z Z Z Z (hsl _ _ Z) hK)) (ay [(5,_)] ⟨.inl Z,trivial⟩ (λ sl hsl K hK=>am Z (fF Z Z Z Z Z Z Z Z (hsl _ _ Z) hK)) aO))) (aN (by3 (.vec 31 11 0 (f11.map ag)) (.p (eL ag f11)) (.p (eL ag f11))) Z Z Z (jz Z Z Y) (lt2 Z Z) (az Z (az Z (ay [(21,_)] ⟨.inr ⟨0,_,Z,Z,Z⟩,trivial⟩ (λ sl hsl K hK=>am Z (j2 Z Z Z Z Z (hsl _ _ Z) Z Z hK)) aO))) ?_)
  refine aN (λ _=>.ptr 2 9) Z Z Z (jz Z Z Y) (lt2 Z Z) (az Z (ay [(2,_)] ⟨.inl Z,trivial⟩ (λ sl hsl K hK=>am Z (fF Z Z Z Z Z Z Z Z (hsl _ _ Z) hK)) (ay [(2,_)] ⟨.inl Z,trivial⟩ (λ sl hsl K hK=>am Z (fF Z Z Z Z Z Z Z Z (hsl _ _ Z) hK)) aO))) (aN (λ _=>.p (eL ag e_0.fKids)) Z Z Z (jz Z Z Y) (lt2 Z Z) (az Z (ay [(23,_)] ⟨.inr ⟨2,_,Z,Z,Z⟩,trivial⟩ (λ sl hsl K hK=>am Z (j2 Z Z Z Z Z (hsl _ _ Z) Z Z hK)) (ay [(23,_)] ⟨.inr ⟨2,_,Z,Z,Z⟩,trivial⟩ (λ sl hsl K hK=>am Z (j2 Z Z Z Z Z (hsl _ _ Z) Z Z hK)) aO))) ?_)
  refine aN (λ _=>.p (eI i10)) Z Z Z (jz Z Z Y) (lt2 Z Z) (az Z (ay [(6,_)] ⟨.inl Z,trivial⟩ (λ sl hsl K hK=>am Z (nu Z Z Z (hsl _ _ Z) hK)) (ay [(6,_)] ⟨.inl Z,trivial⟩ (λ sl hsl K hK=>am Z (nu Z Z Z (hsl _ _ Z) hK)) aO))) (aN (λ _=>.rptr (ac.cs (lat e_0.fKids i10))) Z Z Z (jz Z Z Y) (lt2 Z Z) (az Z (ay [(24,_),(25,_)] ⟨.inr ⟨3,_,Z,Z,Z⟩,.inr ⟨4,_,Z,Z,Z⟩,trivial⟩ (λ sl hsl K hK=>am Z (kB (f:=ag) (l:=e_0.fKids) ac.cs Z Z Z Z Z Z (hsl _ _ Z) Z (hsl _ _ Z) hk13 ac.cells_eq Y hK)) (ay [(24,_),(25,_)] ⟨.inr ⟨3,_,Z,Z,Z⟩,.inr ⟨4,_,Z,Z,Z⟩,trivial⟩ (λ sl hsl K hK=>am Z (kB (f:=ag) (l:=e_0.fKids) ac.cs Z Z Z Z Z Z (hsl _ _ Z) Z (hsl _ _ Z) hk13 ac.cells_eq Y hK)) aO))) ?_)
  refine aN (λ _=>.p (.agg (ac.cs (lat e_0.fKids i10)))) Z Z Z (jz Z Z Y) (lt2 Z Z) (az Z (ay [(26,_)] ⟨.inr ⟨5,_,Z,Z,Z⟩,trivial⟩ (λ sl hsl K hK=>am Z (qh Z Z Z Z Z (hsl _ _ Z) Z hK)) (ay [(26,_)] ⟨.inr ⟨5,_,Z,Z,Z⟩,trivial⟩ (λ sl hsl K hK=>am Z (qh Z Z Z Z Z (hsl _ _ Z) Z hK)) aO))) (aN (λ _=>.p (eI n_1)) Z Z Z (jz Z Z Y) (lt2 Z Z) (az Z (ay [(1,_)] ⟨.inl Z,trivial⟩ (λ sl hsl K hK=>am Z (nu Z Z Z (hsl _ _ Z) hK)) (ay [(1,_)] ⟨.inl Z,trivial⟩ (λ sl hsl K hK=>am Z (nu Z Z Z (hsl _ _ Z) hK)) aO))) ?_)
  refine aN (λ _=>.p (.agg (ac.cs r14))) Z Z Z (jz Z Z Y) (lt2 Z Z) (az Z (az Z (ay [(27,_),(28,_)] ⟨.inr ⟨6,_,Z,Z,Z⟩,.inr ⟨7,_,Z,Z,Z⟩,trivial⟩ (λ sl hsl K hK=>am Z (cG (ih_law14_moved_ok (lat e_0.fKids i10) n_1 _ e15) Z Z Z (aE (hsl _ _ Z) (aE (hsl _ _ Z) bK)) ⟨sr,sr,trivial⟩ Tryz.call24 Z hK)) aO))) (aN (λ _=>.p (eL ag [r14])) Z Z Z (jz Z Z Y) (lt2 Z Z) (az Z (az Z (ay [(29,_)] ⟨.inr ⟨8,_,Z,Z,Z⟩,trivial⟩ (λ sl hsl K hK=>am Z (bQ ag [r14] Z Z Z Z Z Z (eA (hsl _ _ Z) Z fY) Z Z Z Z Z Z (by first | rfl | (simp only [List.map_cons,List.map_nil,ac.agg_eq]; done) | (simp only [List.map_cons,List.map_nil,ac.agg_eq]; rfl)) hK)) aO))) ?_)
  refine eC (λ _=>.vec 31 11 0 ((f11++[r14]).map ag)) [(22,_),(30,_)] Z ⟨.inr ⟨1,_,Z,Z,Z⟩,.inr ⟨9,_,Z,Z,Z⟩,trivial⟩ Z Z (gx Z Y) (lt2 (λ h=>absurd h (by decide)) Y) (λ sl hsl K hK=>am Z (gD ag f11 [r14] Z Z Z Z Z Z Z Z (hsl _ _ Z) Z Z (hsl _ _ Z) Z (λ x=>congrArg List.length (ac.cells_eq x)) Z Z Z Z hk16 hK)) (aN (λ _=>.ptr 5 9) Z Z Z (jz Z Z Y) (lt2 Z Z) (az Z (ay [(5,_)] ⟨.inl Z,trivial⟩ (λ sl hsl K hK=>am Z (fF Z Z Z Z Z Z Z Z (hsl _ _ Z) hK)) (az Z aO))) ?_)
  refine iJ [(31,_),(32,_)] Z ⟨.inr ⟨10,_,Z,Z,Z⟩,.inr ⟨11,_,Z,Z,Z⟩,trivial⟩ Z (λ sl hsl K hK=>am Z (kb Z Z Z (hsl _ _ Z) (hsl _ _ Z) Z Z Z (Nat.le_of_ble_eq_true Z) hK)) (dJ ?_)
  refine nx 3 Z (oA h1 Z Z λ hk17 h1=>?_)
  exact nx 2 Z (eX (i10+1,f11++[r14]) h1 (gE Z Z))
 exact nx 2 Z (eXi _ (oi h1).symm (gE Z Z))
def b6 (n_1:Int):Nat→Bytes→Int→Option Bytes
 | 0,_,_=>none
 | m+1,front11,i12 =>
 ck (inR (n_1)) <|
 ck ((16:Int)≠0) <|
 if i12 < n_1.tmod 16 then
  ck (front11.length+([32]:Bytes).length≤9223372036854775807) <|
  ck (inR (i12+1)) <|
  b6 n_1 m (front11++([32]:Bytes)) (i12+1)
 else
  some front11
def gB (n:Nat)(s_0:Bytes)(n_1:Int):Option Bool :=
 if 1500 < (s_0.length:Int) then
  (eT n).bind λ r2 =>
  some r2
 else
  (b6 n_1 n ([]:Bytes) 0).bind λ front20 =>
  (ei n s_0).bind λ r21 =>
  ck (front20.length+s_0.length≤9223372036854775807) <|
  (ei n (front20++s_0)).bind λ r24 =>
  if r21.2.fKind=r24.2.fKind then
   if r21.2.fKind=0 then
    (
      (gk n r21.1).bind λ r33 =>
      if r33=0 then
       (fc n r21.1 (front20.length:Int)).bind λ r36 =>
       (ju n r36 r24.1).bind λ r38 =>
       if r38=true then
        (eT n).bind λ r41 =>
        some r41
       else
        some false
      else
       some false
     : Option Bool).bind λ t43 =>
    some t43
   else
    (
      ck (inR (r21.2.fAt+(front20.length:Int))) <|
      if r24.2.fAt=r21.2.fAt+(front20.length:Int) then
       (eT n).bind λ r30 =>
       some r30
      else
       some false
     : Option Bool).bind λ t32 =>
    some t32
  else
   some false
theorem ni (n:Nat)(s_0:Bytes)(n_1:Int)(r:Bool)(h0:gB n s_0 n_1=some r):aK Tryz.prog 7 [eS s_0,eK .u8 n_1] (·=.p (eB r)):=by
 unfold gB at h0
 refine cB good Tryz.func7 Z Z Z λ w0=>mP (λ v:Bool=>.p (eB v)) ?_
 refine nx 8 Z (oLs Z ?_)
 refine nx 2 Z (fD [13] h0 Z (λ c1 h0=>?_) λ c1 h0=>?_)
 ·refine nx 3 Z (bd h0 λ r2 e3 h0=>?_)
  refine oK (j5 _  _ e3) Z trivial Tryz.call11 Z (nx 3 Z ?_)
  exact mQ (oi h0) Z (sr)
 refine nx 12 Z (bd h0 λ o47 h1 h0=>?_)
 refine kE 0 o47 (λ v48=>⟨[(0,.p (eS s_0)),(5,.p (eS v48))],[]⟩) ?_ ?_
 ·refine nx 4 Z (bd h0 λ r21 e22 h0=>?_)
  refine oK (gu _ s_0 _ e22) Z ⟨sr,trivial⟩ Tryz.call16 Z (nx 12 Z ?_)
  refine oC h0 Z λ hk23 h0=>bd h0 λ r24 e25 h0=>oK (gu _ (o47++s_0) _ e25) Z ⟨sr,trivial⟩ Tryz.call16 Z (nx 17 Z ?_)
  refine fN [40] h0 Z (λ c26 h0=>?_) λ c26 h0=>?_
  ·refine nx 9 Z (fN [43] h0 Z (λ c27 h0=>?_) λ c27 h0=>?_)
   ·refine nx 3 Z (bd h0 λ o49 h1 h0=>?_)
    refine kN o49 (λ v50=>⟨[(4,.p (eB v50))],[]⟩) ?_ ?_
    ·exact nx 2 Z (mQ (oi h0) Z (sr))
    refine bd h1 λ r33 e34 h1=>fD (p:=r33=0) [] h1 Z (λ c35 h1=>?_) λ c35 h1=>?_
    ·refine bd h1 λ r36 e37 h1=>bd h1 λ r38 e39 h1=>fB (p:=r38) [] h1 Z (λ c40 h1=>?_) λ c40 h1=>?_
     ·refine bd h1 λ r41 e42 h1=>mD [(5,.p (eS o47)),(7,.ptr 7 0),(9,.ptr 9 0)] Z ⟨Z,Z,Z,trivial⟩ Z (dR 1 Z ?_)
      refine dq (.p (eI r33)) [55] Z (λ _ e _ q=>am Z (cG (jl _ r21.1 _ e34) Z Z Z (aE (e _ _ Z) bK) ⟨sr,trivial⟩ Tryz.call12 Z q)) Z (dL (dt c35) Z ?_)
      refine dR 3 Z (dq (.p (eI (o47.length:Int))) [58,60] Z (λ _ e _ q=>em (lS Z Z Z Z Z (e _ _ Z) q) Z Z (e _ _ Z) (rfl)) Z ?_)
      refine dq (.p (.agg (ac.cs r36))) [58,59,61] Z (λ _ e _ q=>em (cG (nc _ r21.1 (o47.length:Int) _ e37) Z Z Z (aE (e _ _ Z) (aE (e _ _ Z) bK)) ⟨sr,sr,trivial⟩ Tryz.call24 Z q) Z Z (e _ _ Z) (rfl)) Z (dR 1 Z ?_)
      refine dq (.p (eB r38)) [58,62,63] Z (λ _ e _ q=>em (cG (mX _ r36 r24.1 _ e39) Z Z Z (aE (e _ _ Z) (aE (e _ _ Z) bK)) ⟨sr,sr,trivial⟩ Tryz.call18 Z q) Z Z (e _ _ Z) (rfl)) Z (dL (c40) Z ?_)
      refine dR 1 Z (dq (.p (eB r41)) [66] Z (λ _ e _ q=>em (cG (j5 _  _ e42) Z Z Z bK trivial Tryz.call11 Z q) Z Z (e _ _ Z) (rfl)) Z ?_)
      refine dR 2 Z (dE Z ?_)
      exact nx 1 Z (eX _ (oi h1).symm (gE Z Z))
     refine mD [(5,.p (eS o47)),(7,.ptr 7 0),(9,.ptr 9 0)] Z ⟨Z,Z,Z,trivial⟩ Z (dR 1 Z ?_)
     refine dq (.p (eI r33)) [55] Z (λ _ e _ q=>am Z (cG (jl _ r21.1 _ e34) Z Z Z (aE (e _ _ Z) bK) ⟨sr,trivial⟩ Tryz.call12 Z q)) Z (dL (dt c35) Z ?_)
     refine dR 3 Z (dq (.p (eI (o47.length:Int))) [58,60] Z (λ _ e _ q=>em (lS Z Z Z Z Z (e _ _ Z) q) Z Z (e _ _ Z) (rfl)) Z ?_)
     refine dq (.p (.agg (ac.cs r36))) [58,59,61] Z (λ _ e _ q=>em (cG (nc _ r21.1 (o47.length:Int) _ e37) Z Z Z (aE (e _ _ Z) (aE (e _ _ Z) bK)) ⟨sr,sr,trivial⟩ Tryz.call24 Z q) Z Z (e _ _ Z) (rfl)) Z (dR 1 Z ?_)
     refine dq (.p (eB r38)) [58,62,63] Z (λ _ e _ q=>em (cG (mX _ r36 r24.1 _ e39) Z Z Z (aE (e _ _ Z) (aE (e _ _ Z) bK)) ⟨sr,sr,trivial⟩ Tryz.call18 Z q) Z Z (e _ _ Z) (rfl)) Z (dL (c40) Z ?_)
     refine dR 4 Z (dE Z ?_)
     exact nx 1 Z (eX _ (oi h1).symm (gE Z Z))
    refine mD [(5,.p (eS o47)),(7,.ptr 7 0),(9,.ptr 9 0)] Z ⟨Z,Z,Z,trivial⟩ Z (dR 1 Z ?_)
    refine dq (.p (eI r33)) [55] Z (λ _ e _ q=>am Z (cG (jl _ r21.1 _ e34) Z Z Z (aE (e _ _ Z) bK) ⟨sr,trivial⟩ Tryz.call12 Z q)) Z (dL (df c35) Z ?_)
    refine dR 12 Z (dE Z ?_)
    exact nx 1 Z (eX _ (oi h1).symm (gE Z Z))
   refine nx 2 Z (bd h0 λ o51 h1 h0=>?_)
   refine kN o51 (λ v52=>⟨[(4,.p (eB v52))],[]⟩) ?_ ?_
   ·exact nx 2 Z (mQ (oi h0) Z (sr))
   refine nx 6 Z (oLs Z ?_)
   refine oA h1 Z Z λ hk28 h1=>nx 2 Z (fD [51,52] h1 Z (λ c29 h1=>?_) λ c29 h1=>?_)
   ·refine bd h1 λ r30 e31 h1=>oK (j5 _  _ e31) Z trivial Tryz.call11 Z (nx 3 Z ?_)
    exact eX _ (oi h1).symm (gE Z Z)
   exact nx 4 Z (eX _ (oi h1).symm (gE Z Z))
  exact nx 6 Z (mQ (oi h0) Z (sr))
 refine lG (λ (q53:Bytes×Int)=>⟨[(0,.p (eS s_0)),(1,.p (eK .u8 n_1)),(5,.p (eS q53.1)),(6,.p (eI q53.2))],[]⟩) (λ m (q53:Bytes×Int)=>b6 n_1 m q53.1 q53.2) Y (([]:Bytes),0) h1 (gE Z Z) ?_
 rintro m ⟨front11,i12⟩ h1
 replace h1:b6 n_1 (m+1) front11 i12=some o47:=h1
 rw [b6] at h1
 refine nx 5 Z (cc' h1 λ hk13 h1=>?_)
 refine mO Z (wQ Z Z Z Z Z Z Z Z (CJ hk13) ?_)
 refine cc' h1 λ hk14 h1=>mO Z (Ak Z Z Z Z Z Z hk14 ?_)
 refine nx 2 Z (fD [19] h1 Z (λ c15 h1=>?_) λ c15 h1=>?_)
 ·refine nx 6 Z (oC h1 Z λ hk16 h1=>?_)
  refine nx 4 Z (oA h1 Z Z λ hk17 h1=>?_)
  exact nx 2 Z (eX (front11++([32]:Bytes),i12+1) h1 (gE Z Z))
 exact nx 2 Z (eXi _ (oi h1).symm (gE Z Z))
end Go.Ab.R06
end
