/- The statement ExprOffsets is proved, and its tied card: for all inputs that are Go values of the law's parameters' types, the law returns true and never panics. No further condition. -/
import Derived.Test.YtihghalcmfpnaaaGreatDoorCards
import Derived.Test.YtihghalcmfpnaaaGreatDoorTie
import Derived.WalkKit
import Derived.SizedLaws
import Derived.ProofKit
import Derived.OpenShut
import Derived.ShutString
import Derived.LaidMore
import Derived.Stop.Joined
import Derived.Deep.DeepHandedRow
import Derived.Deep.DeepWitnessRowRef
import Derived.Test.YtihghalcmfpnaaaGreatDoorZ14Oa
import Derived.Test.YtihghalcmfpnaaaGreatDoorZ14Ob
import Derived.Test.YtihghalcmfpnaaaGreatDoorZ14Oc
import Derived.Test.YtihghalcmfpnaaaGreatDoorZ14Od
import Derived.Test.YtihghalcmfpnaaaGreatDoorZ14Oe
import Derived.Test.YtihghalcmfpnaaaGreatDoorZ14Of
set_option maxHeartbeats 4000000
section
namespace Go.Ab.R06
open Go.Proofs Go.Ab Go.Ab.RB Go.Lib
theorem wL (c:Bool)(s:Bytes)(K:Nat):fm c (List.replicate K 32++s)=fm c s:=by
 have h:(List.replicate K 32++s).dropWhile ke=s.dropWhile ke:=by
  induction K with
  | zero=>rfl
  | succ K ih=>rw [List.replicate_succ,List.cons_append,List.dropWhile_cons,if_pos (by decide),ih]
 unfold fm
 rw [h]
theorem BJ {α:Type}{F:Nat→Nat→Option α}{x y:α}(h1:Ev2 F (·=x))(h2:Ev2 F (·=y)):x=y:=by
 obtain ⟨r,rfl,N,hN⟩:=h1
 obtain ⟨r',rfl,M,hM⟩:=h2
 have e1:=hN (max N M) (max N M) O O
 have e2:=hM (max N M) (max N M) O O
 exact Option.some.inj (e1.symm.trans e2)
theorem wq {K:Nat}{s:Bytes}(h:K+s.length≤65536):eJ (List.replicate K 32++s)=qG (List.replicate K 32++s) [] (gA (s.length+1) 0 s):=by
 have hl:(List.replicate K (32:UInt8)++s).length=K+s.length:=by rw [List.length_append,List.length_replicate]
 have h1:=re (s:=List.replicate K 32++s) O (d:=ap.mk 0 0 []) ((List.replicate K (32:UInt8)++s).length+1) s [] G (List.suffix_append _ _) O
 have h2:=re (s:=List.replicate K 32++s) O (d:=ap.mk 0 0 []) (s.length+1) s [] G (List.suffix_append _ _) O
 unfold eJ
 rw [if_neg O,show gA ((List.replicate K (32:UInt8)++s).length+1) 0 (List.replicate K 32++s)=gA ((List.replicate K (32:UInt8)++s).length+1) 0 s by rw [iq,iq,wL]]
 exact Sum.inr.inj (BJ h1 h2)
theorem wl:∀ (f c:Nat) (l:Bytes) (e:SE),l.length < f→gA f c l=.inl e→∃ n,e.2=some n
 | 0,c,l,e,hl,h=>absurd hl (Nat.not_lt_zero _)
 | f+1,c,l,e,hl,h=>by
  rw [iq] at h
  have hk:=oT true l
  cases hsk:fm true l with
  | nil =>
   rw [hsk,lB] at h
   split at h
   ·cases h; exact ⟨_,rfl⟩
   ·cases h
  | cons b r =>
   rw [hsk] at hk
   rw [hsk,ka] at h
   split at h
   ·cases h; exact ⟨_,rfl⟩
   split at h
   ·cases h; exact ⟨_,rfl⟩
   cases ht:jv (fK f 0) (b::r) with
   | inl e'=>rw [ht] at h; cases h; exact ⟨_,rfl⟩
   | inr z =>
    obtain ⟨k,t,l'⟩:=z
    have h1:=(ki (λ x y _ hxy=>(ii f 0).1 x y hxy) ht).2
    rw [ht,lq] at h
    cases hs:gA f (c+1) l' with
    | inl e' =>
     rw [hs] at h; cases h
     exact wl f (c+1) l' e O hs
    | inr ts'=>rw [hs] at h; cases h
theorem wm {K:Nat}{s:Bytes}(h:K+s.length≤65536)(f:Nat):dZ f (List.replicate K 32++s) 0=dZ f s (K:Int):=by
 have hl:(List.replicate K (32:UInt8)++s).length=K+s.length:=by rw [List.length_append,List.length_replicate]
 cases f with
 | zero=>rw [dZ,dZ]
 | succ f =>
  have h0:eJ s=qG s [] (gA (s.length+1) 0 s):=by unfold eJ; rw [if_neg O]
  rw [dZ,dZ,wq h,h0]
  cases hq:gA (s.length+1) 0 s with
  | inl e =>
   obtain ⟨n,hn⟩:=wl _ _ _ _ (Nat.lt_succ_self _) hq
   have e1:(0:Int)+(qG (List.replicate K 32++s) [] (.inl e)).2.fAt=(K:Int)+(qG s [] (.inl e)).2.fAt:=by
    show (0:Int)+(qY _ 0 e).fAt=(K:Int)+(qY s 0 e).fAt
    unfold qY
    rw [hn]
    show (0:Int)+(((List.replicate K (32:UInt8)++s).length:Int) - (n:Int))=(K:Int)+((s.length:Int) - (n:Int))
    omega
   rw [e1]
   rfl
  | inr ts =>
   have e1:(qG (List.replicate K 32++s) [] (.inr ts)).1.map (mvT 0)=(qG s [] (.inr ts)).1.map (mvT (K:Int)):=by
    show (ts.map (tkS _)).map (mvT 0)=(ts.map (tkS s)).map (mvT (K:Int))
    rw [List.map_map,List.map_map]
    refine List.map_congr_left λ z _=>?_
    show ae.mk z.1 z.2.1 (((List.replicate K (32:UInt8)++s).length:Int) - (z.2.2:Int)+0)=ae.mk z.1 z.2.1 ((s.length:Int) - (z.2.2:Int)+(K:Int))
    congr 1
    omega
   rw [e1]
   rfl
def Rk (K:Nat)(a a':Int):Prop:=a'=a+(K:Int)∧0≤a∧a≤1000000000
theorem E0 (K:Nat):∀ a a' d,0≤a+d→a+d≤1000000000→Rk K a a'→Rk K (a+d) (a'+d):=λ a a' d h1 h2 h=>⟨by have:=h.1; omega,h1,h2⟩
theorem Bu {K:Nat}(hK:K≤16){x y:ac}(h:RE (Rk K) x y):Ev2 (λ n _=>fc n x (K:Int)) (·=y):=by
 induction h with
 | @mk x y k o n m v a c l s ih =>
  have hl:∀ k i:Nat,i+k=x.fKids.length→Ev2 (λ n m=>ec (fc n) x (K:Int) m i (y.fKids.take i)) (·=y.fKids):=by
   intro k
   induction k with
   | zero=>intro i hi; exact aV (by simp only [ec]; exact ai O (ab (List.take_of_length_le O)))
   | succ k ihk =>
    intro i hi
    have hx:i < x.fKids.length:=by omega
    have hy:i < y.fKids.length:=by omega
    have ex:lat x.fKids (i:Int)=x.fKids[i]:=by rw [uw,List.getD_eq_getElem?_getD,List.getElem?_eq_getElem hx]; rfl
    have ey:lat y.fKids (i:Int)=y.fKids[i]:=by rw [uw,List.getD_eq_getElem?_getD,List.getElem?_eq_getElem hy]; rfl
    have hm:(x.fKids[i],y.fKids[i])∈x.fKids.zip y.fKids:=by
     have hz:i < (x.fKids.zip y.fKids).length:=by rw [List.length_zip]; omega
     have:=List.getElem_mem hz
     rwa [List.getElem_zip] at this
    refine aV ?_
    simp only [ec]
    refine aj O (ar O (ao y.fKids[i] (by rw [ex]; exact ih _ hm) (ar (by simp only [List.length_take,List.length_singleton]; omega) (ar (aG O O) ?_))))
    have:=ihk (i+1) O
    rwa [List.take_succ_eq_append_getElem hy] at this
  refine cj ?_
  simp only [fc]
  have ha:=a.1
  have ha1:=a.2.1
  have ha2:=a.2.2
  refine ar (aG O O) (ao y.fKids (bS (f:=λ n m=>ec (fc n) x (K:Int) m 0 []) (hl x.fKids.length 0 O)) (ab ?_))
  rw [← k,← o,← n,← m,← v,← ha]
  cases y; rfl
theorem zM {N:Nat}(hN:N≤255):Ev2 (λ n _=>b6 (N:Int) n [] 0) (·=List.replicate (N % 16) 32):=by
 have ht:(N:Int).tmod 16=((N % 16:Nat):Int):=by rw [Int.tmod_eq_emod_of_nonneg O]; omega
 have hl:∀ k i:Nat,i+k=N % 16→Ev2 (λ _ m=>b6 (N:Int) m (List.replicate i 32) i) (·=List.replicate (N % 16) 32):=by
  intro k
  induction k with
  | zero =>
   intro i hi
   refine aV ?_
   simp only [b6]
   exact ar (aG O O) (ar (by decide) (ai (by rw [ht]; omega) (ab (by rw [show i=N % 16 by omega]))))
  | succ k ihk =>
   intro i hi
   refine aV ?_
   simp only [b6]
   refine ar (aG O O) (ar (by decide) (aj (by rw [ht]; omega) (ar (by simp only [List.length_replicate,List.length_singleton]; omega) (ar (aG O O) ?_))))
   have:=ihk (i+1) O
   rwa [List.replicate_succ'] at this
 exact bS (f:=λ _ m=>b6 (N:Int) m [] 0) (hl (N % 16) 0 O)
theorem vZ (s:Bytes){N:Nat}(hN:N≤255):Ev2 (λ n _=>gB n s (N:Int)) (·=true):=by
 simp only [gB]
 refine aP (λ _=>af _ oJ (λ t ht=>ab ht)) (λ h=>?_)
 have hK:N % 16≤15:=by omega
 refine ao _ (zM hN) ?_
 generalize N % 16=K at hK ⊢
 have hl:(List.replicate K (32:UInt8)++s).length=K+s.length:=by rw [List.length_append,List.length_replicate]
 have hr:(List.replicate K (32:UInt8)).length=K:=List.length_replicate
 obtain ⟨f,q,hq⟩:=yO s 0 O O
 have hz:=(fct f).w s 0 O O  q hq
 refine ao _ (x4 O hq) (ar O ?_)
 have hrel:=(alk (E0 K) f).w s (a:=0) (a':=K) ⟨by omega,by omega,by omega⟩ O O
 rw [hq] at hrel
 cases hq':dZ f s (K:Int) with
 | none=>rw [hq'] at hrel; cases q <;> exact hrel.elim
 | some q' =>
  rw [hq'] at hrel
  have hp:=(wm (K:=K) (s:=s) O f).trans hq'
  have hz':=(fct f).w _ 0 O O  q' hp
  refine ao _ (x4 O hp) ?_
  match q,q',hrel,hz,hz' with
  | .inl e,.inl e',hrel,hz,_ =>
   obtain ⟨h1,h2,h3,h4⟩:=hrel
   replace hz:e.1≠0:=hz
   refine aj h1.symm (ai hz (af (·=true) (ar (aG ?_ ?_) (aj ?_ (af _ oJ (λ t ht=>ab ht)))) (λ t ht=>ab ht)))
   ·show _≤e.2+_; omega
   ·show e.2+_≤_; omega
   ·show e'.2=e.2+_; omega
  | .inr x,.inr y,hrel,zx,zy =>
   replace hrel:RE (Rk K) x y:=hrel
   have hc:=chk2 hrel
   have hat:=hrel.at
   by_cases h0:chk x=0
   ·have e1:lA (.inr x)=.inr x:=by unfold lA; simp only [h0,if_true]
    have e2:lA (.inr y)=.inr y:=by unfold lA; simp only [hc,h0,if_true]
    rw [e1,e2]
    refine aj Z (aj Z (af (·=true) (ao _ (xU zx) (aj h0 (ao y ?_ (ao _ (xc zy) (aj Z (af _ oJ (λ t ht=>ab ht))))))) (λ t ht=>ab ht)))
    rw [hr]
    exact Bu O hrel
   ·have e1:lA (.inr x)=.inl (chk x,x.fAt):=by unfold lA; simp only [h0,if_false]
    have e2:lA (.inr y)=.inl (chk x,y.fAt):=by unfold lA; simp only [hc,h0,if_false]
    rw [e1,e2]
    obtain ⟨h2,h3,h4⟩:=hat
    refine aj Z (ai h0 (af (·=true) (ar (aG ?_ ?_) (aj ?_ (af _ oJ (λ t ht=>ab ht)))) (λ t ht=>ab ht)))
    ·show _≤x.fAt+_; omega
    ·show x.fAt+_≤_; omega
    ·show y.fAt=x.fAt+_; omega
theorem vB (qs:List PV)(h:WTa tt [9,5] qs):aK Tryz.prog 7 qs (·=.p (.val (.bool true))):=by
 match qs,h with
 | [a,b],⟨⟨n,h1,h2⟩,⟨m,k1,k2⟩,_⟩ =>
  cases n with
  | zero=>exact h1.elim
  | succ n =>
  cases m with
  | zero=>exact k1.elim
  | succ m =>
   obtain ⟨s,e1,_⟩:=Go.Ab.oG rfl h1
   obtain rfl:=A4 e1 h2
   obtain ⟨x,e2,hw⟩:=BK (k:=.u8) rfl k1
   obtain rfl:=A4 e2 k2
   have hx:0≤x∧x < 256:=by
    have e1:IntKind.u8.min=0:=rfl
    have e2:IntKind.u8.max=255:=rfl
    simp [Lit.wf] at hw; omega
   obtain ⟨B,rfl⟩:∃ B:Nat,x=B:=⟨x.toNat,by omega⟩
   obtain ⟨n,r,hr,rfl⟩:=El (vZ s (N:=B) O)
   exact ni n s B true hr
end Go.Ab.R06
end
section
namespace Go.Proofs.YtihghalcmfpnaaaGreatDoor.exprOffsets
open Go.ChangeShapes Go.WideShapes Go.ChangeAt Go.RowKit
theorem own:ownKnob Tryz.prog.godebug=none:=by kernel_rfl
theorem laid:laidOutB Tryz.prog=true:=by kernel_rfl
theorem mapped:mapsRowed Tryz.prog=true:=by kernel_rfl
theorem full:((List.range Tryz.prog.types.size).all λ t=>match Tryz.prog.underlying t with | some (.slice e)=>decide (0 < Tryz.prog.cellsOf e) | _=>true)=true:=by kernel_rfl
theorem rowed:(([9,5]:List Nat).all λ t=>decide (t < Tryz.prog.types.size))=true:=by kernel_rfl
theorem plain:([9,5]:List Nat).all (Go.Ab.j6 Go.Ab.tt [9,5])=true:=by kernel_rfl
theorem globs:Go.Ab.xT Tryz.prog Rows.exprOffsetsRow.laid=true:=by kernel_rfl
noncomputable def laidW0 (os:Os):World :=
  { World.doorLaid Tryz.prog 72 os with heap:=(World.doorLaid Tryz.prog 72 os).heap.modify 0 fun
      | .cells _ t frozen=>.cells (Go.Ab.zr.map Go.Ab.GC.val).toArray t frozen
      | o=>o }
noncomputable def laidW (os:Os):World:=laidW0 os
theorem laid_met (os:Os):laidMetH Tryz.prog Rows.exprOffsetsRow.laid ((laidW os).forCall (λ _ _=>0) ⟨#[],#[.string ByteArray.empty,.int .u8 0],[]⟩).memory :=
  laidMetH_of_parts3 (fuel:=8) (laidMet_of_run' 8 (by kernel_rfl) (by kernel_rfl)) (by kernel_rfl) (by kernel_rfl)
theorem reads (os:Os){H:Type}(enc:TypeId×Value→H):(DataW.whole enc Tryz.prog ((laidW os).forCall (λ _ _=>0) ⟨#[],#[.string ByteArray.empty,.int .u8 0],[]⟩).memory Tryz.f7.params.toList Rows.exprOffsetsSpec.vars false #[.string ByteArray.empty,.int .u8 0].toList 8).isSome=true:=by kernel_rfl
set_option maxRecDepth 100000 in
theorem lifted (os:Os)(started:os.Started)(H:Type)(enc:TypeId×Value→H)(F:Stop.Interp) :
    ReturnsInHanded {} Tryz.checked os 7 .any ((OpenSpec.ofChange Rows.exprOffsetsSpec).preRow enc Tryz.prog Tryz.f7 Rows.exprOffsetsRow.domain false Rows.exprOffsetsRow.laid) (((OpenSpec.ofChange Rows.exprOffsetsSpec).at F).post enc Tryz.prog Tryz.f7 false true false false):=by
  obtain ⟨x,hx⟩:=Option.isSome_iff_exists.1 (reads os enc)
  refine returnsInHanded_of_row (C:=Tryz.checked) (s:=OpenSpec.ofChange Rows.exprOffsetsSpec) own started (by kernel_rfl) Tryz.func7
    (witness_row_atRef (enc:=enc) (C:=Tryz.checked) false (laidW os) #[.string ByteArray.empty,.int .u8 0] Z (by kernel_rfl) (by kernel_rfl) (by kernel_rfl)
      (OpenSpec.preRow_of_cond 8 hx rfl (λ k hk=>by cases hk) (by kernel_rfl) (laid_met os))) ?_
  intro W base args ds gs before hval0 hW _ _ hsz0 hL hsh _
  rw [MakeChecks.laidMetH_plain _ _ _ (by kernel_rfl)] at hL
  have hgl:=Go.Ab.CQ globs hL hsh
  have hval:∀ (j:Nat) t v,Tryz.f7.params[j]? = some t→args[j]? = some v→Value.okWide Tryz.prog W .any base t v:=hval0
  have hW':=hW
  obtain ⟨p,q,hA0,hV,rfl,hfz,hnd⟩:=hW
  have hA:DataW.TrodAll enc Tryz.prog W 0 (λ _=>true) true Tryz.f7.params.toList args.toList ds p:=hA0
  have hsz:(DataW.weightsEach Tryz.prog (Tryz.f7.params.toList++Rows.exprOffsetsSpec.plain.varTypes Tryz.prog) (ds++gs)).all (·≤reachBytes)=true:=hsz0
  rw [Tryz.params7] at hA hval hsz
  obtain ⟨rfl,rfl⟩:=trodVars_none hV
  clear hA0 hval0 hV hsz0
  rw [List.append_nil] at hsz
  have hA2:DataW.TrodAll enc Tryz.prog W 0 (λ _=>true) true [9,5] args.toList ds p:=hA
  have hlt:∀ x∈p,x.block < W.heap.size:=λ x hx=>hW'.lt x (List.mem_append_left _ hx)
  obtain ⟨qs,g1,g2,g3⟩:=Go.Ab.tE Go.Ab.good plain (by decide) (λ j t v hj hv=>hval j t v (by simpa using hj) (by simpa using hv)) hA2 (λ w hw=>of_decide_eq_true (List.all_eq_true.1 hsz w hw))
  have hds:∃ d0 d1,ds=[d0,d1]:=by
    obtain ⟨v0,vs0,d0,ds0,p0,q0,_,e0,_,_,r0⟩:=trodAll_cons hA2
    obtain ⟨v1,vs1,d1,ds1,p1,q1,_,e1,_,_,r1⟩:=trodAll_cons r0
    obtain ⟨_,z,_⟩:=trodAll_nil r1
    exact ⟨d0,d1,by rw [e0,e1,z]⟩
  obtain ⟨d0,d1,rfl⟩:=hds
  refine (Go.Ab.grown_of (Go.Ab.R06.vB qs g3) W hgl (by simpa using g1.symm) (λ i c v hc hv=>g2 i c v hc (by simpa using hv))).mono λ e W' ⟨he,hg⟩=>?_
  subst he
  exact ⟨_,Z,Go.Ab.yy (pa:=p) (pv:=[]) hW' (λ _ _ _=>(trodAll_cons_mk (shut_bool Tryz.underlying4 _) trodAll_mk0)) (λ sp hsp=>Go.Ab.zf laid mapped full hg rowed hlt hA2 sp (λ x hx=>hsp x (List.mem_append_left _ hx))) (λ _ _=>rfl) Z
    hg (ok_one (by kernel_rfl) Z (okWide_bool_mk Tryz.underlying4 _))⟩
theorem said:Rows.ExprOffsetsSaid :=
  OpenClaim.holds_of_cond 7 Tryz.f7 Z Z Z Z Z Z Z ⟨Z,Z,Z,Z,Z⟩ Z Z Z Z Z (by kernel_rfl) Tryz.func7 (by kernel_rfl)
    (of_decide_eq_true (by kernel_rfl)) (by unfold Func.isWrapper; first | (rw [if_pos (by decide +kernel)]; kernel_rfl) | (rw [if_neg (by decide +kernel)]; exact ⟨Z,Z⟩))
    (λ os started H enc _ F=>by rw [OpenClaim.pre_eq_preRow]; exact lifted os started H enc F)
theorem plainly (f:FuncId)(fn:Func)(hf:Tryz.pinned.checked.prog.funcNamed "provision/provisionlaw14.ExprOffsets" = some f) (hfn:Tryz.pinned.checked.prog.funcs[f]? = some fn) :
    true=Tryz.pinned.checked.prog.looks []∧∀ (j:Nat) t,fn.params[j]? = some t→Tryz.pinned.checked.prog.wantsStandIn t=false:=by
  obtain rfl:f=7:=Option.some.inj ((show Tryz.prog.funcNamed "provision/provisionlaw14.ExprOffsets" = some 7 by kernel_rfl).symm.trans hf) |>.symm
  obtain rfl:fn=Tryz.f7:=(Option.some.inj (Tryz.func7.symm.trans hfn)).symm
  refine ⟨by kernel_rfl,λ j t ht=>?_⟩
  rw [Tryz.params7] at ht
  have hm:t∈([9,5]:List Nat):=by have:=Array.mem_of_getElem? ht; first | (simp at this ⊢; omega) | simpa using this
  have hall:(([9,5]:List Nat).all λ u=>!Tryz.prog.wantsStandIn u)=true:=by kernel_rfl
  exact (show Tryz.prog.wantsStandIn t=false by simpa using List.all_eq_true.1 hall t hm)
theorem proved:Rows.ExprOffsetsCardSaid :=
  Claim7.holds_tied_plain_at .later [] _ _ _ _ said (λ _ h=>by cases h) (by kernel_rfl) (λ _ h=>by cases h) exprOffsets_row_tie rfl ⟨rfl,rfl⟩ (by kernel_rfl) rfl plainly (by kernel_rfl)
#print axioms proved
end Go.Proofs.YtihghalcmfpnaaaGreatDoor.exprOffsets
end
