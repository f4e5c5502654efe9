/- The statement ExprPrecedence is proved, and its tied card: for all inputs that are Go values of the law's parameters' types, the law returns true and never panics. No further condition. -/
import Derived.Test.YtihghalcmfpnaaaGreatDoorCards
import Derived.Test.YtihghalcmfpnaaaGreatDoorTie
import Derived.WalkKit
import Derived.SizedLaws
import Derived.ProofKit
import Derived.OpenShut
import Derived.ShutString
import Derived.LaidMore
import Derived.Stop.Joined
import Derived.Deep.DeepHandedRow
import Derived.Deep.DeepWitnessRowRef
import Derived.Test.YtihghalcmfpnaaaGreatDoorZ14Qa
import Derived.Test.YtihghalcmfpnaaaGreatDoorZ14Qb
import Derived.Test.YtihghalcmfpnaaaGreatDoorZ14Qc
import Derived.Test.YtihghalcmfpnaaaGreatDoorZ14Qd
import Derived.Test.YtihghalcmfpnaaaGreatDoorZ14Qe
import Derived.Test.YtihghalcmfpnaaaGreatDoorZ14Qf
set_option maxHeartbeats 4000000
section
namespace Go.Ab.R06
open Go.Proofs Go.Ab Go.Ab.RB
theorem Bm {e:aa}(hb:aa.Bd e):Ev2 (λ n _=>kz n e) (λ r=>r=true->dG e<=200/\chk e=0):=by
 simp only [kz];refine ao (λ r=>r=true->dG e<=200/\chk e=0) ?_ (λ t ht=>ab ht);refine ao _ (Ek hb 200 (by decide) (by decide)) (λ r hr=>?_);refine ay (λ h=>?_) (λ h=>ab (λ q=>by cases q));exact ai _ (KG (Dp hb)) (ab (λ q=>⟨by have:=hr h; omega,of_decide_eq_true q⟩))
theorem Hh {e:aa}(hb:aa.Bd e):Ev2 (λ n _=>fM n e) (·=true):=by
 simp only [fM];refine ao _ (Bm hb) (λ r hr=>?_);refine ay (λ _=>ao _ qP (λ t ht=>ab ht)) (λ h=>?_);obtain ⟨hn,hc⟩:=hr kK;have hv:=M8 hb 0 1 O O  hc;refine ai _ (B4 true 1 e hv O).1 (ai _ (B4 false 1 e hv O).1 ?_);refine ai (decide (20000 < (az true e).length\/20000 < (az false e).length)) ?_ ?_
 ·refine ay (λ h1=>ab ?_) (λ h1=>ab ?_)
  ·symm; rw [decide_eq_true_eq]; omega
  ·rw [decide_eq_decide]; omega
 refine ay (λ _=>ao _ qP (λ t ht=>ab ht)) (λ h2=>?_);have h2:¬ (20000 < (az true e).length\/20000 < (az false e).length):=λ q=>h2 (decide_eq_true q);obtain ⟨x,x1,x2⟩:=yG true hb hc hn O;obtain ⟨y,y1,y2⟩:=yG false hb hc hn O;refine ai _ x2 (ai _ y2 ?_);refine ao (·=true) ?_ (λ t ht=>ab ht);refine aj rfl (aj rfl (ai _ (vE (Dp hb) x x1) (aj rfl (ai _ (vE (Dp hb) y y1) (aj rfl ?_)))));exact ao _ qP (λ t ht=>ab ht)
theorem G9 (qs:List PV)(h:WTa tt [31] qs):bv Tryz.prog 6 qs (·=.p (.val (.bool true))):=by
 match qs,h with
 | [a],⟨⟨n,h1,h2⟩,_⟩ =>
  obtain ⟨x,e1,b1⟩:=aa.dec n _ h1;obtain rfl:=qX e1 h2;obtain ⟨n,r,hr,rfl⟩:=Nb (Hh b1);exact HP.c hr
end Go.Ab.R06
end
section
namespace Go.Proofs.YtihghalcmfpnaaaGreatDoor.exprPrecedence
open Go.ChangeShapes Go.WideShapes Go.ChangeAt Go.RowKit
theorem own:ownKnob Tryz.prog.godebug=none:=by kernel_rfl
theorem laid:laidOutB Tryz.prog=true:=by kernel_rfl
theorem mapped:mapsRowed Tryz.prog=true:=by kernel_rfl
theorem full:((List.range Tryz.prog.types.size).all λ t=>match Tryz.prog.underlying t with | some (.slice e)=>decide (0 < Tryz.prog.cellsOf e) | _=>true)=true:=by kernel_rfl
theorem rowed:(([31]:List Nat).all λ t=>decide (t < Tryz.prog.types.size))=true:=by kernel_rfl
theorem plain:([31,22,23,9,28,24,3,25,26,29]:List Nat).all (Go.Ab.ma Go.Ab.tt [31,22,23,9,28,24,3,25,26,29])=true:=by kernel_rfl
theorem globs:Go.Ab.Cd Tryz.prog Rows.exprPrecedenceRow.laid=true:=by kernel_rfl
noncomputable def laidW0 (os:Os):World :=
  { World.doorLaid Tryz.prog 72 os with heap:=(World.doorLaid Tryz.prog 72 os).heap.modify 0 fun
      | .cells _ t frozen=>.cells (Go.Ab.HF.map Go.Ab.GC.val).toArray t frozen
      | o=>o }
noncomputable def laidW (os:Os):World:=laidW0 os
theorem laid_met (os:Os):laidMetH Tryz.prog Rows.exprPrecedenceRow.laid ((laidW os).forCall (λ _ _=>0) ⟨#[],#[.agg #[.int .i64 0,.int .i64 0,.string ByteArray.empty,.string ByteArray.empty,.int .i64 0,.int .i64 0,.string ByteArray.empty,.slice none 0 0,.slice none 0 0,.slice none 0 0,.int .i64 0]],[]⟩).memory :=
  laidMetH_of_parts3 (fuel:=8) (laidMet_of_run' 8 (by kernel_rfl) (by kernel_rfl)) (by kernel_rfl) (by kernel_rfl)
theorem reads (os:Os){H:Type}(enc:TypeId×Value->H):(DataW.whole enc Tryz.prog ((laidW os).forCall (λ _ _=>0) ⟨#[],#[.agg #[.int .i64 0,.int .i64 0,.string ByteArray.empty,.string ByteArray.empty,.int .i64 0,.int .i64 0,.string ByteArray.empty,.slice none 0 0,.slice none 0 0,.slice none 0 0,.int .i64 0]],[]⟩).memory Tryz.f6.params.toList Rows.exprPrecedenceSpec.vars false #[.agg #[.int .i64 0,.int .i64 0,.string ByteArray.empty,.string ByteArray.empty,.int .i64 0,.int .i64 0,.string ByteArray.empty,.slice none 0 0,.slice none 0 0,.slice none 0 0,.int .i64 0]].toList 8).isSome=true:=by kernel_rfl
set_option maxRecDepth 100000 in
theorem lifted (os:Os)(started:os.Started)(H:Type)(enc:TypeId×Value->H)(F:Stop.Interp) :
    ReturnsInHanded {} Tryz.checked os 6 .any ((OpenSpec.ofChange Rows.exprPrecedenceSpec).preRow enc Tryz.prog Tryz.f6 Rows.exprPrecedenceRow.domain false Rows.exprPrecedenceRow.laid) (((OpenSpec.ofChange Rows.exprPrecedenceSpec).at F).post enc Tryz.prog Tryz.f6 false true false false):=by
  obtain ⟨x,hx⟩:=Option.isSome_iff_exists.1 (reads os enc)
  refine returnsInHanded_of_row (C:=Tryz.checked) (s:=OpenSpec.ofChange Rows.exprPrecedenceSpec) own started (by kernel_rfl) Tryz.func6
    (witness_row_atRef (enc:=enc) (C:=Tryz.checked) false (laidW os) #[.agg #[.int .i64 0,.int .i64 0,.string ByteArray.empty,.string ByteArray.empty,.int .i64 0,.int .i64 0,.string ByteArray.empty,.slice none 0 0,.slice none 0 0,.slice none 0 0,.int .i64 0]] Z (by kernel_rfl) (by kernel_rfl) (by kernel_rfl)
      (OpenSpec.preRow_of_cond 8 hx rfl (λ k hk=>by cases hk) (by kernel_rfl) (laid_met os))) ?_
  intro W base args ds gs before hval0 hW _ _ hsz0 hL hsh _;rw [MakeChecks.laidMetH_plain _ _ _ (by kernel_rfl)] at hL;have hgl:=Go.Ab.Lt globs hL hsh;have hval:∀ (j:Nat) t v,Tryz.f6.params[j]? = some t->args[j]? = some v->Value.okWide Tryz.prog W .any base t v:=hval0;have hW':=hW;obtain ⟨p,q,hA0,hV,rfl,hfz,hnd⟩:=hW;have hA:DataW.TrodAll enc Tryz.prog W 0 (λ _=>true) true Tryz.f6.params.toList args.toList ds p:=hA0;have RA:(DataW.weightsEach Tryz.prog (Tryz.f6.params.toList++Rows.exprPrecedenceSpec.plain.varTypes Tryz.prog) (ds++gs)).all (·<=reachBytes)=true:=hsz0;rw [Tryz.params6] at hA hval RA;obtain ⟨rfl,rfl⟩:=trodVars_none hV
  clear hA0 hval0 hV hsz0
  rw [List.append_nil] at RA;have hA2:DataW.TrodAll enc Tryz.prog W 0 (λ _=>true) true [31] args.toList ds p:=hA;have hlt:∀ x∈p,x.block < W.heap.size:=λ x hx=>hW'.lt x (List.mem_append_left _ hx);obtain ⟨qs,g1,g2,g3⟩:=Go.Ab.vB Go.Ab.good plain (by decide) (λ j t v hj hv=>hval j t v (by simpa using hj) (by simpa using hv)) hA2 (λ w hw=>of_decide_eq_true (th.1 RA w hw))
  have hds:∃ d0,ds=[d0]:=by
    obtain ⟨v0,vs0,d0,ds0,p0,q0,_,e0,_,_,r0⟩:=trodAll_cons hA2;obtain ⟨_,z,_⟩:=trodAll_nil r0;exact ⟨d0,by rw [e0,z]⟩
  obtain ⟨d0,rfl⟩:=hds;refine (Go.Ab.grown_of (Go.Ab.R06.G9 qs g3) W hgl (by simpa using g1.symm) (λ i c v hc hv=>g2 i c v hc (by simpa using hv))).mono λ e W' ⟨he,hg⟩=>?_;subst he
  exact ⟨_,Z,Go.Ab.Ed (pa:=p) (pv:=[]) hW' (λ _ _ _=>(trodAll_cons_mk (shut_bool Tryz.underlying4 _) trodAll_mk0)) (λ sp hsp=>Go.Ab.D1 laid mapped full hg rowed hlt hA2 sp (λ x hx=>hsp x (List.mem_append_left _ hx))) (λ _ _=>rfl) Z
    hg (ok_one (by kernel_rfl) Z (okWide_bool_mk Tryz.underlying4 _))⟩
theorem said:Rows.ExprPrecedenceSaid :=
  OpenClaim.holds_of_cond 6 Tryz.f6 Z Z Z Z Z Z Z ⟨Z,Z,Z,Z,Z⟩ Z Z Z Z Z (by kernel_rfl) Tryz.func6 (by kernel_rfl)
    (of_decide_eq_true (by kernel_rfl)) (by unfold Func.isWrapper; first | (rw [if_pos (by decide +kernel)]; kernel_rfl) | (rw [if_neg (by decide +kernel)]; exact ⟨Z,Z⟩))
    (λ os started H enc _ F=>by rw [OpenClaim.pre_eq_preRow]; exact lifted os started H enc F)
theorem plainly (f:FuncId)(fn:Func)(hf:Tryz.pinned.checked.prog.funcNamed "provision/provisionlaw14.ExprPrecedence" = some f) (hfn:Tryz.pinned.checked.prog.funcs[f]? = some fn) :
    true=Tryz.pinned.checked.prog.looks []/\∀ (j:Nat) t,fn.params[j]? = some t->Tryz.pinned.checked.prog.wantsStandIn t=false:=by
  obtain rfl:f=6:=Option.some.inj ((show Tryz.prog.funcNamed "provision/provisionlaw14.ExprPrecedence" = some 6 by kernel_rfl).symm.trans hf) |>.symm;obtain rfl:fn=Tryz.f6:=(Option.some.inj (Tryz.func6.symm.trans hfn)).symm;refine ⟨by kernel_rfl,λ j t ht=>?_⟩;rw [Tryz.params6] at ht;have hm:t∈([31]:List Nat):=by have:=Array.mem_of_getElem? ht; first | (simp at this ⊢; omega) | simpa using this
  have hall:(([31]:List Nat).all λ u=>!Tryz.prog.wantsStandIn u)=true:=by kernel_rfl
  exact (show Tryz.prog.wantsStandIn t=false by simpa using th.1 hall t hm)
theorem proved:Rows.ExprPrecedenceCardSaid :=
  Claim7.holds_tied_plain_at .later [] _ _ _ _ said (λ _ h=>by cases h) (by kernel_rfl) (λ _ h=>by cases h) exprPrecedence_row_tie rfl ⟨rfl,rfl⟩ (by kernel_rfl) rfl plainly (by kernel_rfl)
#print axioms proved
end Go.Proofs.YtihghalcmfpnaaaGreatDoor.exprPrecedence
end
