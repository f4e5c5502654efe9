/- A layer of abstract values over the model's worlds, part Df: a function that defers a call of a closure. It holds for every program. -/
import Derived.Defers
import Derived.Test.YtapfhipodpbflaaGreatDoorAbAr
set_option linter.unusedVariables false
set_option linter.unusedSimpArgs false
set_option linter.unnecessarySimpa false
namespace Go.Ab

/-- What code that is handed objects may count on. -/
structure PreO (w : World) (g : Gh) : Prop where
  ok : Ok0 w g.st
  own : ∀ i b, g.ow i = some b → b < w.heap.size ∧ i < 2 * M1
  inj : ∀ i j b, g.ow i = some b → g.ow j = some b → i = j
  nst : ∀ i b, M1 ≤ i → g.ow i = some b → ∀ o, ¬ g.st b o
/-- What it leaves. -/
def PostO (w : World) (g : Gh) (R : AV → List (Nat × List AV) → Prop) (v : Value) (w' : World) : Prop :=
  ∃ r obs' g', R r obs' ∧ ARep w' g' r v ∧ (∀ p ∈ obs', ObRep w' g' p.1 p.2) ∧ AfterO w g w' g'

/-- As OCalls, for a call that was deferred. -/
def DCalls (P : Program) (f : FuncId) (args : List AV) (obs : List (Nat × List AV)) (R : AV → List (Nat × List AV) → Prop) : Prop :=
  ∀ (w : World) (g : Gh) (vs : Array Value) (u : FrameMode), PreO w g → vs.size = args.length → (∀ (i : Nat) c v, args[i]? = some c → vs[i]? = some v → ARep w g c v) → (∀ id cs, look obs id = some cs → ObRep w g id cs) →
    CallsD P f vs u w fun e u' w' => u' = u ∧ ∃ v, e = .returned v ∧ PostO w g R v w'

theorem dbodyG {P : Program} {tt : List (Nat × TI)} (good : TyGood P tt) {f : FuncId} {fn : Func} {c : Code} {args : List AV} {obs rob : List (Nat × List AV)} {r : AV} (ts ids : List Nat) (hf : P.funcs[f]? = some fn) (hb : fn.body = some c)
    (hn : Nat.ble args.length fn.ntmps = true) (hnl : Nat.ble fn.ntmps M1 = true) (hts : ts.all (fun i => Nat.blt i M1) = true) (hnd : nodupB ts = true)
    (h : ∀ w0 F, awp ⟨P, tt, good, fn.ntmps, hnl, w0, F⟩ c (retG ⟨P, tt, good, fn.ntmps, hnl, w0, F⟩ tt fn ts ids r rob) ⟨argSlotsA args, obs⟩) : DCalls P f args obs (fun x y => x.sub r ∧ leO y rob) :=
  fun _ _ _ _ hp h1 h2 h3 => (callsD_of_wp hf hb (owp_of_bodyA good ts ids (Nat.le_of_ble_eq_true hn) hnl hts hnd (fun w0 F => awp_gh (h w0 F)) hp.ok hp.own hp.inj hp.nst h1 h2 h3)).mono
    fun _ _ _ ⟨hu, v, r, obs', g', he, hR, e1, e2, e3⟩ => ⟨hu, v, he, r, obs', g', hR, e1, e2, e3⟩

/-- The second half of a body. -/
def codeB : Option Code → Code
  | some (.seq _ (.seq _ B)) => B
  | _ => .skip
/-- The rest of a body, begun in its middle. -/
def BRuns (P : Program) (fn : Func) (B : Code) (sl : List (Nat × AV)) (obs : List (Nat × List AV)) (R : AV → List (Nat × List AV) → Prop) : Prop :=
  ∀ (w : World) (g : Gh) (a : Act), PreO w g → a.tmps.size = fn.ntmps → (∀ i, ARep w g ((⟨sl, obs⟩ : AS).get i) (a.tmps.getD i Go.undef)) → (∀ id cs, look obs id = some cs → ObRep w g id cs) →
    B.wp P (fun e a' w' => (e = .normal ∨ e = .ret) ∧ a'.defers = a.defers ∧ ∃ v, (∀ w2, (results fn a'.tmps).run P w2 = .ok v w2) ∧ PostO w g R v w') a w

theorem bruns_of {P : Program} {tt : List (Nat × TI)} (good : TyGood P tt) {fn : Func} {B : Code} {t : Nat} {sl : List (Nat × AV)} {obs rob : List (Nat × List AV)} {r : AV} (ids : List Nat) (hres : fn.results.toList = [.tmp t]) (hnl : Nat.ble fn.ntmps M1 = true)
    (h : ∀ w0 F, awp ⟨P, tt, good, fn.ntmps, hnl, w0, F⟩ B (retG ⟨P, tt, good, fn.ntmps, hnl, w0, F⟩ tt fn [] ids r rob) ⟨sl, obs⟩) : BRuns P fn B sl obs (fun x y => x.sub r ∧ leO y rob) := by
  intro w g a hp hsz hsl hobs
  have hs : St fn.ntmps ⟨w, g.st, g.ow, hp.ok.gl, (fun i b h => Nat.lt_of_lt_of_le (hp.own i b h).2 M1_MZ), a.defers⟩ (fun b => b < w.heap.size ∧ ∀ i, g.ow i ≠ some b) g ⟨sl, obs⟩ a w :=
    ⟨rfl, hsz, hsl, hobs, hp.inj, fun i b hi => ⟨(hp.own i b hi).1, fun h => h.2 i hi⟩, hp.ok.lt, fun b h => h.1, fun b h => rfl, rfl, rfl, rfl, Nat.le_refl _, fun b _ o => Iff.rfl, fun _ _ _ => rfl, ShapesH.refl _ _, fun i b hi h => hp.nst i b hi h, Ev.refl _ _⟩
  refine wp_mono (awp_gh (h _ _) g a w hs) ?_
  rintro e a' w' ⟨g1, s', h3, he, l, r1, obs1, obs', hl, hr, hpk, hm, hR⟩
  obtain ⟨v, hv, hvr⟩ := resultsA_run good h3 fn l hl
  have hrun : ∀ w2, (results fn a'.tmps).run P w2 = .ok (a'.tmps.getD t Go.undef) w2 := fun w2 => by
    rw [results_eq, Array.mapM_eq_mapM_toList, hres]
    simp [resF]
  obtain ⟨g', e1, e2, e3⟩ := owp_end [] ids rfl rfl hp.own h3 hvr hr hpk hm
  have : v = a'.tmps.getD t Go.undef := by
    have := (hrun w').symm.trans hv
    injection this with h1 _
    exact h1.symm
  exact ⟨he, h3.nd, v, fun w2 => by rw [this]; exact hrun w2, _, _, g', hR, e1, e2, e3⟩

theorem zip_look : ∀ {js : List Nat} {q : List AV} {i : Nat} {c : AV}, look (js.zip q) i = some c → ∃ k : Nat, js[k]? = some i ∧ q[k]? = some c
  | [], _, _, _, h => by simp [look] at h
  | _ :: _, [], _, _, h => by simp [look] at h
  | j :: js, x :: q, i, c, h => by
    rw [List.zip_cons_cons, look_cons] at h
    by_cases e : j = i
    · rw [if_pos e] at h; cases h; exact ⟨0, by simp [e], rfl⟩
    · rw [if_neg e] at h
      obtain ⟨k, h1, h2⟩ := zip_look h
      exact ⟨k + 1, by simpa using h1, by simpa using h2⟩

theorem subsA_rfl : ∀ l : List AV, subsA l l
  | [] => trivial
  | x :: r => ⟨AV.sub_refl x, subsA_rfl r⟩

/-- The rest of a body is run, as a call is. -/
theorem bphase {C : Cx} {fn : Func} {B : Code} {sl : List (Nat × AV)} {ob : List (Nat × List AV)} (ids vids : List Nat) (NB NE : Nat) (js : List Nat) {l l' : List AV} {obs qo rob ob' : List (Nat × List AV)} {r r' : AV} (hnt : C.n = fn.ntmps)
    (hB : BRuns C.P fn B (js.zip l') qo (fun x y => x.sub r ∧ leO y rob)) (hl : argsA sl (js.map .tmp) = some l) (hl' : AV.mapA.go (passV ids vids) l = some l') (hpk : pickO ob ids = some obs) (hmo : mapO (passV ids vids) obs = some qo) (hqq : leO qo qo)
    (hnd : nodupB ids = true) (hids : ids.all (fun i => Nat.blt i (2 * M1)) = true) (hil : Nat.ble ids.length M1 = true) (hdl : Nat.ble NE M1 = true) (hdis : ids.all (fun i => !(dropV vids NB NE i)) = true)
    (hvd : nodupB vids = true) (hvl : vids.all (fun i => Nat.blt i M1) = true) (hvn : Nat.ble vids.length 100000 = true) (hr : r.mapA (backM ids NB NE) = some r') (hro : mapO (backM ids NB NE) rob = some ob')
    {g : Gh} {a a2 : Act} {w : World} (hs : St C.n C.w0 C.F g ⟨sl, ob⟩ a w) (ht : a2.tmps = a.tmps) :
    B.wp C.P (fun e a' w' => (e = .normal ∨ e = .ret) ∧ a'.defers = a2.defers ∧ ∃ v, (∀ w2, (results fn a'.tmps).run C.P w2 = .ok v w2) ∧ ∃ g2, St C.n C.w0 C.F g2 ⟨(demS (dropV vids NB NE) ⟨sl, ob⟩).sl, ob' ++ (demS (dropV vids NB NE) ⟨sl, ob.filter fun p => !(ids.any (Nat.beq p.1))⟩).ob⟩ a w' ∧ ARep w' g2 r' v) a2 w := by
  obtain ⟨a1, a1'⟩ := argsA_spec hs _ l hl
  have hlen : (js.map fun j => a.eval (.tmp j)).length = l.length := by simpa using a1.symm
  obtain ⟨gc, ⟨k1, k2, k3, k4, k5, k6, k7⟩, hpost⟩ := callV_core ids vids NB NE hl' (subsA_rfl l') hpk hmo hqq hnd hids hil hdl hdis hvd hvl hvn hs (avs := (js.map fun j => a.eval (.tmp j)).toArray) (by simpa using hlen)
    (fun i c v hc hv => a1' i c v hc (by simpa using hv))
  refine wp_mono (hB w gc a2 ⟨k1, k2, k3, k4⟩ (by rw [ht, hs.sz, hnt]) (fun i => ?_) k7) ?_
  · unfold AS.get
    cases hq : look (js.zip l') i with
    | none => exact .undef _
    | some c =>
      obtain ⟨k, h1, h2⟩ := zip_look hq
      simp only [Option.getD_some]
      refine k6 k c _ h2 ?_
      have : a2.tmps.getD i Go.undef = a.eval (.tmp i) := by rw [ht]; rfl
      rw [this]
      simp [h1]
  · rintro e a' w' ⟨he, hd, v, hv, x, y, g', ⟨hx, hy⟩, e1, e2, e3⟩
    obtain ⟨g2, f1, f2⟩ := hpost w' v r r' rob ob' g' (hx _ _ _ e1) (fun p hp => by
      obtain ⟨ds, m1, m2⟩ := leO_mem hy p hp
      exact obrep_sub (e2 (p.1, ds) (look_mem m1)) m2) e3 hr hro
    exact ⟨he, hd, v, hv, g2, f1, f2⟩

/-- The deferred call. -/
theorem dphase {C : Cx} {k : FuncId} {sl : List (Nat × AV)} {ob : List (Nat × List AV)} (ids vids : List Nat) (NB NE : Nat) (j : Nat) {x : AV} {l' : List AV} {obs qo rob ob' : List (Nat × List AV)} {r r' : AV} {u : FrameMode}
    (hD : DCalls C.P k l' qo (fun x y => x.sub r ∧ leO y rob)) (hl : look sl j = some x) (hl' : AV.mapA.go (passV ids vids) [x] = some l') (hpk : pickO ob ids = some obs) (hmo : mapO (passV ids vids) obs = some qo) (hqq : leO qo qo)
    (hnd : nodupB ids = true) (hids : ids.all (fun i => Nat.blt i (2 * M1)) = true) (hil : Nat.ble ids.length M1 = true) (hdl : Nat.ble NE M1 = true) (hdis : ids.all (fun i => !(dropV vids NB NE i)) = true)
    (hvd : nodupB vids = true) (hvl : vids.all (fun i => Nat.blt i M1) = true) (hvn : Nat.ble vids.length 100000 = true) (hr : r.mapA (backM ids NB NE) = some r') (hro : mapO (backM ids NB NE) rob = some ob')
    {g : Gh} {a : Act} {w : World} (hs : St C.n C.w0 C.F g ⟨sl, ob⟩ a w) :
    CallsD C.P k #[a.eval (.tmp j)] u w fun e u' w' => u' = u ∧ ∃ v, e = .returned v ∧ ∃ g2, St C.n C.w0 C.F g2 ⟨(demS (dropV vids NB NE) ⟨sl, ob⟩).sl, ob' ++ (demS (dropV vids NB NE) ⟨sl, ob.filter fun p => !(ids.any (Nat.beq p.1))⟩).ob⟩ a w' := by
  have hx : ARep w g x (a.eval (.tmp j)) := evo_rep hs (x := .tmp j) hl
  obtain ⟨gc, ⟨k1, k2, k3, k4, k5, k6, k7⟩, hpost⟩ := callV_core ids vids NB NE hl' (subsA_rfl l') hpk hmo hqq hnd hids hil hdl hdis hvd hvl hvn hs (avs := #[a.eval (.tmp j)]) rfl
    (fun i c v hc hv => by
      match i, hc, hv with
      | 0, hc, hv => simp at hc hv; subst hc hv; exact hx)
  refine (hD w gc _ u ⟨k1, k2, k3, k4⟩ k5 k6 k7).mono ?_
  rintro e u' w' ⟨hu, v, he, x, y, g', ⟨hx, hy⟩, e1, e2, e3⟩
  obtain ⟨g2, f1, _⟩ := hpost w' v r r' rob ob' g' (hx _ _ _ e1) (fun p hp => by
      obtain ⟨ds, m1, m2⟩ := leO_mem hy p hp
      exact obrep_sub (e2 (p.1, ds) (look_mem m1)) m2) e3 hr hro
  exact ⟨hu, v, he, g2, f1⟩

/-- A function that may defer a closure's call, and then goes on. -/
theorem obodyDf {P : Program} {tt : List (Nat × TI)} (good : TyGood P tt) {f k : FuncId} {fn : Func} {args : List AV} {obs rob : List (Nat × List AV)} {c : Value} {R0 R1 R2 B : Code} {rid t j q : Nat} {o1 o2 : Oper} {s0 s1 s2 : AS} {b : Bool} (ids : List Nat)
    (hf : P.funcs[f]? = some fn) (hb : fn.body = some (.seq R0 (.seq (.seq R1 (.cond (.tmp t) (.seq R2 (.region rid #[o1, o2] false)) .skip)) B)))
    (hn : Nat.ble args.length fn.ntmps = true) (hnl : Nat.ble fn.ntmps M1 = true)
    (h0 : ∀ w0 F, awp ⟨P, tt, good, fn.ntmps, hnl, w0, F⟩ R0 (fun e s => e = .normal ∧ s = s0) ⟨argSlotsA args, obs⟩)
    (h1 : ∀ w0 F, awp ⟨P, tt, good, fn.ntmps, hnl, w0, F⟩ R1 (fun e s => e = .normal ∧ s = s1) s0) (hc : evo s1.sl (.tmp t) = some (.p (eB b)))
    (hF : b = false → ∃ sE obs1 obs2, pickO sE.ob ids = some obs1 ∧ mapO (retM []) obs1 = some obs2 ∧ leO obs2 rob ∧ ∀ w0 F g a a2 w, St fn.ntmps w0 F g s1 a w → a2.tmps = a.tmps →
      B.wp P (fun e a' w' => (e = .normal ∨ e = .ret) ∧ a'.defers = a2.defers ∧ ∃ v, (∀ w2, (results fn a'.tmps).run P w2 = .ok v w2) ∧ ∃ g2, St fn.ntmps w0 F g2 sE a w' ∧ ARep w' g2 (.p (.val c)) v) a2 w)
    (hT : b = true → (∀ w0 F, awp ⟨P, tt, good, fn.ntmps, hnl, w0, F⟩ R2 (fun e s => e = .normal ∧ s = s2) s1) ∧ (o1.op = .makeFunc (.func k) #[] #[.tmp j] ∧ o1.dst = some q ∧ Nat.blt q fn.ntmps = true ∧ o1.guard = none ∧ o2.op = .defer { callee := .value (.tmp q), args := #[], argTypes := #[] } ∧ o2.dst = none ∧ o2.guard = none ∧ Nat.beq j q = false) ∧
      (∀ vs w, (callFunc k vs).run P w = .ok (.enter k vs) w) ∧ ∃ sE sD obs1 obs2 x, look s2.sl j = some x ∧ pickO sD.ob ids = some obs1 ∧ mapO (retM []) obs1 = some obs2 ∧ leO obs2 rob ∧
        (∀ w0 F g a a2 w, St fn.ntmps w0 F g ⟨(q, .func (.func k) [x]) :: s2.sl, s2.ob⟩ a w → a2.tmps = a.tmps →
          B.wp P (fun e a' w' => (e = .normal ∨ e = .ret) ∧ a'.defers = a2.defers ∧ ∃ v, (∀ w2, (results fn a'.tmps).run P w2 = .ok v w2) ∧ ∃ g2, St fn.ntmps w0 F g2 sE a w' ∧ ARep w' g2 (.p (.val c)) v) a2 w) ∧
        ∀ w0 F g a w u, St fn.ntmps w0 F g sE a w → CallsD P k #[a.eval (.tmp j)] u w fun e u' w' => u' = u ∧ ∃ v, e = .returned v ∧ ∃ g2, St fn.ntmps w0 F g2 sD a w') :
    OCalls P f args obs (fun x y => x = .p (.val c) ∧ y = rob) := by
  refine OCalls.of_sub ?_
  intro w g vs hlt hown hinj hnst k1 k2 hobs
  refine calls_of_wp_defers hf hb ?_
  have hn' := Nat.le_of_ble_eq_true hn
  have hs : St fn.ntmps ⟨w, g.st, g.ow, hlt.gl, (fun i b h => Nat.lt_of_lt_of_le (hown i b h).2 M1_MZ), []⟩ (fun b => b < w.heap.size ∧ ∀ i, g.ow i ≠ some b) g ⟨argSlotsA args, obs⟩ { tmps := vs ++ Array.replicate (fn.ntmps - vs.size) Go.undef, defers := [] } w := by
    refine ⟨rfl, ?_, ?_, hobs, hinj, ?_, hlt.lt, ?_, ?_, rfl, rfl, rfl, Nat.le_refl _, fun b _ o => Iff.rfl, fun _ _ _ => rfl, ShapesH.refl _ _, fun i b hi h => hnst i b hi h, Ev.refl _ _⟩
    · simp only [Array.size_append, Array.size_replicate]; omega
    · intro i
      have := look_argSlotsA args 0 i
      simp only [AS.get, argSlotsA, this, Nat.zero_le, if_true, Nat.sub_zero]
      cases ha : args[i]? with
      | none => exact .undef _
      | some x =>
        have hi : i < args.length := (List.getElem?_eq_some_iff.1 ha).1
        have hi2 : i < vs.size := by omega
        have e : (vs ++ Array.replicate (fn.ntmps - vs.size) Go.undef).getD i Go.undef = vs[i] := by
          simp [Array.getD_eq_getD_getElem?, Array.getElem?_append, hi2]
        simp only [Option.getD_some]
        rw [e]
        exact k2 i x _ ha (Array.getElem?_eq_getElem hi2)
    · intro i b hi; exact ⟨(hown i b hi).1, fun h => h.2 i hi⟩
    · intro b h; exact h.1
    · intro b h; rfl
  -- behind everything: what is handed back
  have fin : ∀ {sE : AS} {obs1 obs2 : List (Nat × List AV)} {a : Act} {w' : World} {g2 : Gh} {v : Value}, pickO sE.ob ids = some obs1 → mapO (retM []) obs1 = some obs2 → leO obs2 rob →
      St fn.ntmps ⟨w, g.st, g.ow, hlt.gl, (fun i b h => Nat.lt_of_lt_of_le (hown i b h).2 M1_MZ), []⟩ (fun b => b < w.heap.size ∧ ∀ i, g.ow i ≠ some b) g2 sE a w' → ARep w' g2 (.p (.val c)) v →
      ∃ v1 r obs' g', Ending.returned v = .returned v1 ∧ (AV.sub r (.p (.val c)) ∧ leO obs' rob) ∧ ARep w' g' r v1 ∧ (∀ p ∈ obs', ObRep w' g' p.1 p.2) ∧ AfterO w g w' g' := by
    intro sE obs1 obs2 a w' g2 v p1 p2 p3 hS hv
    obtain ⟨g', e1, e2, e3⟩ := owp_end [] ids rfl rfl hown hS hv rfl p1 p2
    exact ⟨v, _, _, g', rfl, ⟨AV.sub_refl _, p3⟩, e1, e2, e3⟩
  refine wp_seq (wp_mono (h0 _ _ g _ w hs) ?_)
  rintro e a0 w0 ⟨g0, s0', hs0, rfl, rfl⟩
  refine wp_seq (wp_seq (wp_mono (h1 _ _ g0 a0 w0 hs0) ?_))
  rintro e a1 w1 ⟨g1, s1', hs1, rfl, rfl⟩
  have hcv : a1.eval (.tmp t) = .bool b := evo_val hs1 hc
  cases hbb : b with
  | false =>
    subst hbb
    refine wp_cond_false hcv (wp_skip ?_)
    obtain ⟨sE, obs1, obs2, p1, p2, p3, hB⟩ := hF rfl
    refine wp_mono (hB _ _ g1 a1 a1 w1 hs1 rfl) ?_
    rintro e a' w' ⟨he, hd, v, hv, g2, hS, hr⟩
    have hd' : a'.defers = [] := hd.trans hs1.nd
    rcases he with rfl | rfl
    · simp only [bodyPostD, hd', Leaves]; exact ⟨v, hv w', fin p1 p2 p3 hS hr⟩
    · simp only [bodyPostD, hd', Leaves]; exact ⟨v, hv w', fin p1 p2 p3 hS hr⟩
  | true =>
    subst hbb
    obtain ⟨h2, ⟨m1, m2, m3, m4, m5, m6, m7, m8⟩, hen, sE, sD, obs1, obs2, x, hj, p1, p2, p3, hB, hD⟩ := hT rfl
    refine wp_cond_true hcv (wp_seq (wp_mono (h2 _ _ g1 a1 w1 hs1) ?_))
    rintro e a2 w2 ⟨g2, s2', hs2, rfl, rfl⟩
    refine wp_region ?_
    have hx : ARep w2 g2 x (a2.eval (.tmp j)) := evo_rep hs2 (x := .tmp j) hj
    have hq : q < fn.ntmps := Nat.blt_eq ▸ m3
    have e1 : (execOp a2.eval o1).run P w2 = .ok (.value (.func (.func k) #[] #[a2.eval (.tmp j)])) w2 := by simp [execOp, m1, Instr.makeFunc, Act.eval]
    have hs3 := hs2.put (d := some q) (fun t ht => by cases ht; exact hq) (x := .func (.func k) [x]) (v := .func (.func k) #[] #[a2.eval (.tmp j)]) (.func rfl fun i c v hc hv => by
      match i, hc, hv with
      | 0, hc, hv => simp at hc hv; subst hc hv; exact hx)
    obtain ⟨a3, ha3⟩ : ∃ a3, a3 = a2.put (some q) (.func (.func k) #[] #[a2.eval (.tmp j)]) := ⟨_, rfl⟩
    rw [← ha3] at hs3
    have hqv : a3.eval (.tmp q) = .func (.func k) #[] #[a2.eval (.tmp j)] := by
      have : q < a2.tmps.size := by rw [hs2.sz]; exact hq
      rw [ha3]; simp [Act.put, Act.eval, Array.getD, this]
    have hjq : a3.eval (.tmp j) = a2.eval (.tmp j) := by
      have hne : q ≠ j := fun e => by subst e; simp at m8
      rw [ha3]; simp only [Act.put, Act.eval, Array.getD_eq_getD_getElem?, Array.getElem?_setIfInBounds, if_neg hne]
    have e2 : (execOp a3.eval o2).run P w2 = .ok (.defer { target := .fn (.func k) #[a2.eval (.tmp j)], args := #[] }) w2 := by simp [execOp, m5, resolve, hqv, Deferred.ofValue]
    have hr : List.range (#[o1, o2] : Array Oper).size = [0, 1] := rfl
    rw [hr]
    have g0' : (#[o1, o2] : Array Oper)[0]? = some o1 := rfl
    have g1' : (#[o1, o2] : Array Oper)[1]? = some o2 := rfl
    simp only [wpOps, g0', g1', Region.wanted, m4, m7, if_true]
    refine .inl ?_
    unfold Oper.wp
    rw [e1]
    simp only [Oper.upon, m2]
    rw [← ha3]
    refine .inl ?_
    rw [e2]
    simp only [Oper.upon, m6, Act.put]
    refine wp_mono (hB _ _ g2 a3 { a3 with defers := { target := .fn (.func k) #[a2.eval (.tmp j)], args := #[] } :: a3.defers } w2 hs3 rfl) ?_
    rintro e a' w' ⟨he, hd, v, hv, g3, hS, hrv⟩
    have hnd : a3.defers = [] := hs3.nd
    rw [hnd] at hd
    have key : Leaves P fn a'.tmps (fun e w' => ∃ v r obs' g', e = .returned v ∧ (AV.sub r (.p (.val c)) ∧ leO obs' rob) ∧ ARep w' g' r v ∧ (∀ p ∈ obs', ObRep w' g' p.1 p.2) ∧ AfterO w g w' g') a'.defers .returning w' := by
      rw [hd]
      refine leaves_cons (f := k) (args := #[a2.eval (.tmp j)]) (by simp) (by simp [invoke, hen]) ?_
      have := hD _ _ g3 a3 w' .returning hS
      rw [hjq] at this
      refine this.mono ?_
      rintro e u' w'' ⟨hu, v2, he2, g4, hS4⟩
      subst hu he2
      simp only [settle, Leaves]
      refine ⟨v, hv w'', fin p1 p2 p3 hS4 ?_⟩
      cases hrv with
      | p hrv => cases hrv; exact .p (.val _)
    rcases he with rfl | rfl
    · exact key
    · exact key

/-- A part of a body. -/
theorem mR {C : Cx} {c : Code} {s t : AS} (h : M C (fun e s => e = .normal ∧ s = t) ⟨.cd c, [], s⟩) : awp C c (fun e s => e = .normal ∧ s = t) s := awp_gh h
theorem mE {C : Cx} {s t : AS} (h : Ghost C s t) : M C (fun e s => e = .normal ∧ s = t) ⟨.ex .normal, [], s⟩ := ⟨t, h, rfl, rfl⟩
end Go.Ab
