/- A layer of abstract values over the model's worlds, part T: calls that are handed objects and rows that may grow, and hand back what they own. It holds for every program. -/
import Derived.Test.YtapfhipodpbflaaGreatDoorAbR
set_option linter.unusedVariables false
set_option linter.unusedSimpArgs false
set_option linter.unnecessarySimpa false
namespace Go.Ab

/-- Identities from here on, and below M1, are those of rows that were handed in and may grow. -/
def V1 : Nat := 900000

def retOA (tt : List (Nat × TI)) (fn : Func) (ts ids : List Nat) (R : AV → List (Nat × List AV) → Prop) (e : Exit) (s : AS) : Prop :=
  (e = .normal ∨ e = .ret) ∧ ∃ l r obs obs', resA tt fn.results.toList s = some l ∧ (resV l).mapA (retM ts) = some r ∧ pickO s.ob ids = some obs ∧ mapO (retM ts) obs = some obs' ∧ R r obs'
theorem retoa_mk {tt : List (Nat × TI)} {fn : Func} {ts ids : List Nat} {R : AV → List (Nat × List AV) → Prop} {s : AS} {l : List AV} {r : AV} {obs obs' : List (Nat × List AV)} (h1 : resA tt fn.results.toList s = some l) (h2 : (resV l).mapA (retM ts) = some r)
    (h3 : pickO s.ob ids = some obs) (h4 : mapO (retM ts) obs = some obs') (h5 : R r obs') : retOA tt fn ts ids R .ret s := ⟨.inr rfl, l, r, obs, obs', h1, h2, h3, h4, h5⟩
theorem endoa_mk {tt : List (Nat × TI)} {fn : Func} {ts ids : List Nat} {R : AV → List (Nat × List AV) → Prop} {s : AS} {l : List AV} {r : AV} {obs obs' : List (Nat × List AV)} (h1 : resA tt fn.results.toList s = some l) (h2 : (resV l).mapA (retM ts) = some r)
    (h3 : pickO s.ob ids = some obs) (h4 : mapO (retM ts) obs = some obs') (h5 : R r obs') : retOA tt fn ts ids R .normal s := ⟨.inl rfl, l, r, obs, obs', h1, h2, h3, h4, h5⟩

theorem owp_end (ts ids : List Nat) (hts : ts.all (fun i => Nat.blt i M1) = true) (hnd : nodupB ts = true) {n : Nat} {w w' : World} {g g1 : Gh} {df : List Deferred} {gl : GlobOk w g.st} {lo : ∀ i b, g.ow i = some b → i < MZ} {s' : AS} {a' : Act}
    (hown : ∀ i b, g.ow i = some b → b < w.heap.size ∧ i < 2 * M1) (h3 : St n ⟨w, g.st, g.ow, gl, lo, df⟩ (fun b => b < w.heap.size ∧ ∀ i, g.ow i ≠ some b) g1 s' a' w') {x r : AV} {v : Value} {obs1 obs' : List (Nat × List AV)}
    (hvr : ARep w' g1 x v) (hr : x.mapA (retM ts) = some r) (hp : pickO s'.ob ids = some obs1) (hm : mapO (retM ts) obs1 = some obs') : ∃ g', ARep w' g' r v ∧ (∀ p ∈ obs', ObRep w' g' p.1 p.2) ∧ AfterO w g w' g' := by
  have hown3 : ∀ i b, M1 ≤ i → i < MZ → g1.ow i = some b → i < 2 * M1 := by
    intro i b hi hz hb
    rw [h3.owf i hi hz] at hb
    exact (hown i b hb).2
  have hmap : ∀ i j b, retM ts i = some j → g1.ow i = some b → (if 2 * M1 ≤ j then (ts[j - 2 * M1]?).bind g1.ow else if M1 ≤ j then g1.ow j else none) = some b := by
    intro i j b hij hb
    unfold retM at hij
    cases hle : Nat.ble M1 i
    · rw [hle] at hij
      simp only [cond_false] at hij
      split at hij
      · rename_i k hk
        cases hij
        rw [if_pos (by omega), Nat.add_sub_cancel_left, findIdx_spec hk]
        exact hb
      · cases hij
    · rw [hle] at hij
      simp only [cond_true] at hij
      cases hz : Nat.blt i MZ <;> rw [hz] at hij <;> simp only [cond_true, cond_false, Option.some.injEq, reduceCtorEq] at hij
      subst hij
      have h4 := Nat.le_of_ble_eq_true hle
      have h5 := hown3 i b h4 (Nat.blt_eq ▸ hz) hb
      rw [if_neg (by omega), if_pos h4]
      exact hb
  have hts' : ∀ (k t : Nat), ts[k]? = some t → t < M1 := by
    intro k t hk
    have := List.all_eq_true.1 hts t (List.mem_of_getElem? hk)
    exact Nat.blt_eq ▸ this
  have inv : ∀ j b, (if 2 * M1 ≤ j then (ts[j - 2 * M1]?).bind g1.ow else if M1 ≤ j then g1.ow j else none) = some b →
      (∃ t, ts[j - 2 * M1]? = some t ∧ 2 * M1 ≤ j ∧ g1.ow t = some b) ∨ (M1 ≤ j ∧ j < 2 * M1 ∧ g1.ow j = some b) := by
    intro j b h
    by_cases e1 : 2 * M1 ≤ j
    · rw [if_pos e1] at h
      obtain ⟨t, ht, hb⟩ := Option.bind_eq_some_iff.1 h
      exact .inl ⟨t, ht, e1, hb⟩
    · rw [if_neg e1] at h
      by_cases e2 : M1 ≤ j
      · rw [if_pos e2] at h; exact .inr ⟨e2, by omega, h⟩
      · rw [if_neg e2] at h; cases h
  have hst0 : (⟨g1.st, fun j => if 2 * M1 ≤ j then (ts[j - 2 * M1]?).bind g1.ow else if M1 ≤ j then g1.ow j else none⟩ : Gh).st = g1.st := rfl
  refine ⟨⟨g1.st, fun j => if 2 * M1 ≤ j then (ts[j - 2 * M1]?).bind g1.ow else if M1 ≤ j then g1.ow j else none⟩, mapA_rep hst0 hmap hvr hr, mapO_rep hst0 hmap hm (fun p hp' => h3.ob p.1 p.2 (pickO_mem hp p hp')), ?_⟩
  refine ⟨h3.os, h3.out, h3.tape, h3.size, fun b hb hno => h3.fr b ⟨hb, hno⟩, fun i b hi => ?_, fun i j b hi hj => ?_, h3.lt, fun b hb hno => h3.stf b ⟨hb, hno⟩, fun i h1 h2 => ?_, h3.shf, h3.nst, h3.ev0⟩
  · have key : ∀ t, g1.ow t = some b → b < w'.heap.size ∧ (w.heap.size ≤ b ∨ ∃ j, g.ow j = some b) := by
      intro t ht
      obtain ⟨k1, k2⟩ := h3.own t b ht
      refine ⟨k1, ?_⟩
      by_cases hb : w.heap.size ≤ b
      · exact .inl hb
      · refine .inr ?_
        by_cases hex : ∃ j, g.ow j = some b
        · exact hex
        · exact absurd ⟨by omega, fun i hi => hex ⟨i, hi⟩⟩ k2
    rcases inv i b hi with ⟨t, _, _, ht⟩ | ⟨_, _, ht⟩
    · exact key t ht
    · exact key i ht
  · rcases inv i b hi with ⟨t, a1, a2, a3⟩ | ⟨a1, a2, a3⟩ <;> rcases inv j b hj with ⟨u, b1, b2, b3⟩ | ⟨b1, b2, b3⟩
    · have := h3.inj t u b a3 b3
      subst this
      have := nodupB_spec hnd _ _ _ a1 b1
      omega
    · have := h3.inj t j b a3 b3
      have := hts' _ t a1
      omega
    · have := h3.inj i u b a3 b3
      have := hts' _ u b1
      omega
    · exact h3.inj i j b a3 b3
  · dsimp only
    rw [if_neg (by omega), if_pos h1]
    exact h3.owf i h1 (Nat.lt_of_lt_of_le h2 M1_MZ)

theorem owp_of_bodyA {P : Program} {tt : List (Nat × TI)} (good : TyGood P tt) {fn : Func} {c : Code} {args : List AV} {obs : List (Nat × List AV)} {R : AV → List (Nat × List AV) → Prop} (ts ids : List Nat) (hn : args.length ≤ fn.ntmps) (hnl : Nat.ble fn.ntmps M1 = true) (hts : ts.all (fun i => Nat.blt i M1) = true) (hnd : nodupB ts = true)
    (h : ∀ w0 F, awp ⟨P, tt, good, fn.ntmps, hnl, w0, F⟩ c (retOA tt fn ts ids R) ⟨argSlotsA args, obs⟩) {w : World} {g : Gh} {vs : Array Value} (hlt : Ok0 w g.st) (hown : ∀ i b, g.ow i = some b → b < w.heap.size ∧ i < 2 * M1)
    (hinj : ∀ i j b, g.ow i = some b → g.ow j = some b → i = j) (hnst : ∀ i b, M1 ≤ i → g.ow i = some b → ∀ o, ¬ g.st b o) (h1 : vs.size = args.length)
    (h2 : ∀ (i : Nat) c v, args[i]? = some c → vs[i]? = some v → ARep w g c v) (hobs : ∀ id cs, look obs id = some cs → ObRep w g id cs) :
    c.wp P (bodyPost P fn fun e w' => ∃ v r obs' g', e = .returned v ∧ R r obs' ∧ ARep w' g' r v ∧ (∀ p ∈ obs', ObRep w' g' p.1 p.2) ∧ AfterO w g w' g') { tmps := vs ++ Array.replicate (fn.ntmps - vs.size) Go.undef, defers := [] } w := by
  have hs : St fn.ntmps ⟨w, g.st, g.ow, hlt.gl, (fun i b h => Nat.lt_of_lt_of_le (hown i b h).2 M1_MZ), []⟩ (fun b => b < w.heap.size ∧ ∀ i, g.ow i ≠ some b) g ⟨argSlotsA args, obs⟩ { tmps := vs ++ Array.replicate (fn.ntmps - vs.size) Go.undef, defers := [] } w := by
    refine ⟨rfl, ?_, ?_, hobs, hinj, ?_, hlt.lt, ?_, ?_, rfl, rfl, rfl, Nat.le_refl _, fun b _ o => Iff.rfl, fun _ _ _ => rfl, ShapesH.refl _ _, fun i b hi h => hnst i b hi h, Ev.refl _ _⟩
    · simp only [Array.size_append, Array.size_replicate]; omega
    · intro i
      have := look_argSlotsA args 0 i
      simp only [AS.get, argSlotsA, this, Nat.zero_le, if_true, Nat.sub_zero]
      cases ha : args[i]? with
      | none => exact .undef _
      | some x =>
        have hi : i < args.length := (List.getElem?_eq_some_iff.1 ha).1
        have hi2 : i < vs.size := by omega
        have e : (vs ++ Array.replicate (fn.ntmps - vs.size) Go.undef).getD i Go.undef = vs[i] := by
          simp [Array.getD_eq_getD_getElem?, Array.getElem?_append, hi2]
        simp only [Option.getD_some]
        rw [e]
        exact h2 i x _ ha (Array.getElem?_eq_getElem hi2)
    · intro i b hi; exact ⟨(hown i b hi).1, fun h => h.2 i hi⟩
    · intro b h; exact h.1
    · intro b h; rfl
  refine wp_mono (h ⟨w, g.st, g.ow, hlt.gl, (fun i b h => Nat.lt_of_lt_of_le (hown i b h).2 M1_MZ), []⟩ _ g _ w hs) ?_
  rintro e a' w' ⟨g1, s', h3, he, l, r, obs1, obs', hl, hr, hp, hm, hR⟩
  obtain ⟨v, hv, hvr⟩ := resultsA_run good h3 fn l hl
  obtain ⟨g', e1, e2, e3⟩ := owp_end ts ids hts hnd hown h3 hvr hr hp hm
  rcases he with rfl | rfl
  · exact ⟨h3.nd, v, hv, v, r, obs', g', rfl, hR, e1, e2, e3⟩
  · exact ⟨h3.nd, v, hv, v, r, obs', g', rfl, hR, e1, e2, e3⟩

theorem ocalls_of_bodyA {P : Program} {tt : List (Nat × TI)} (good : TyGood P tt) {f : FuncId} {fn : Func} {c : Code} {args : List AV} {obs : List (Nat × List AV)} {R : AV → List (Nat × List AV) → Prop} (ts ids : List Nat) (hf : P.funcs[f]? = some fn) (hb : fn.body = some c)
    (hn : args.length ≤ fn.ntmps) (hnl : Nat.ble fn.ntmps M1 = true) (hts : ts.all (fun i => Nat.blt i M1) = true) (hnd : nodupB ts = true)
    (h : ∀ w0 F, awp ⟨P, tt, good, fn.ntmps, hnl, w0, F⟩ c (retOA tt fn ts ids R) ⟨argSlotsA args, obs⟩) : OCalls P f args obs R := fun _ _ _ k1 k2 k3 k4 k5 k6 k7 => calls_of_wp hf hb (owp_of_bodyA good ts ids hn hnl hts hnd h k1 k2 k3 k4 k5 k6 k7)

theorem obrep_sub {w : World} {g : Gh} {id : Nat} {cs ds : List AV} (h : ObRep w g id ds) (hs : subL cs ds) : ObRep w g id cs := by
  obtain ⟨k1, k2⟩ := subL_spec hs
  obtain ⟨b, c, e, n1, n2, n3, n4, n5⟩ := h
  refine ⟨b, c, e, n1, n2, by omega, n4, fun i x hx => ?_⟩
  have hi : i < ds.length := by have := (List.getElem?_eq_some_iff.1 hx).1; omega
  obtain ⟨v, hv, hr⟩ := n5 i ds[i] (List.getElem?_eq_getElem hi)
  exact ⟨v, hv, k2 i x _ hx (List.getElem?_eq_getElem hi) _ _ _ hr⟩

theorem leO_mem {s : List (Nat × List AV)} : ∀ {t : List (Nat × List AV)}, leO s t → ∀ p ∈ t, ∃ ds, look s p.1 = some ds ∧ subL p.2 ds
  | [], _, p, hp => by simp at hp
  | (j, cs) :: r, h, p, hp => by
    rcases List.mem_cons.1 hp with rfl | hp
    · exact h.1
    · exact leO_mem h.2 p hp

theorem OCalls.of_sub {P : Program} {f : FuncId} {args : List AV} {obs rob : List (Nat × List AV)} {r : AV} (h : OCalls P f args obs (fun x y => x.sub r ∧ leO y rob)) : OCalls P f args obs (fun x y => x = r ∧ y = rob) :=
  fun w g vs h1 h2 h3 h4 h5 h6 h7 => (h w g vs h1 h2 h3 h4 h5 h6 h7).mono fun e w' ⟨v, x, obs', g', k1, ⟨k2, k3⟩, k4, k5, k6⟩ =>
    ⟨v, r, rob, g', k1, ⟨rfl, rfl⟩, k2 _ _ _ k4, fun p hp => by
      obtain ⟨ds, m1, m2⟩ := leO_mem k3 p hp
      exact obrep_sub (k5 (p.1, ds) (look_mem m1)) m2, k6⟩

theorem obodyA {P : Program} {tt : List (Nat × TI)} (good : TyGood P tt) {f : FuncId} {fn : Func} {c : Code} {args : List AV} {obs rob : List (Nat × List AV)} {r : AV} (ts ids : List Nat) (hf : P.funcs[f]? = some fn) (hb : fn.body = some c)
    (hn : Nat.ble args.length fn.ntmps = true) (hnl : Nat.ble fn.ntmps M1 = true) (hts : ts.all (fun i => Nat.blt i M1) = true) (hnd : nodupB ts = true)
    (h : ∀ w0 F, awp ⟨P, tt, good, fn.ntmps, hnl, w0, F⟩ c (retOA tt fn ts ids (fun x y => x.sub r ∧ leO y rob)) ⟨argSlotsA args, obs⟩) : OCalls P f args obs (fun x y => x = r ∧ y = rob) :=
  OCalls.of_sub (ocalls_of_bodyA good ts ids hf hb (Nat.le_of_ble_eq_true hn) hnl hts hnd h)

/-! ### The caller's side -/
def passV (ids vids : List Nat) (i : Nat) : Option Nat := match ids.findIdx? (Nat.beq i) with
  | some k => some (M1 + k)
  | none => match vids.findIdx? (Nat.beq i) with
    | some k => some (V1 + k)
    | none => none
def newV (NB NE i : Nat) : Bool := Nat.ble NB i && Nat.blt i NE
def dropV (vids : List Nat) (NB NE i : Nat) : Bool := newV NB NE i || vids.any (Nat.beq i)

section
variable {C : Cx} {o : Oper} {K : AS → Prop} {sl : List (Nat × AV)} {ob : List (Nat × List AV)} {d : Nat}

/-- What a call that is handed objects may count on, and what the caller knows behind it. -/
theorem callV_core (ids vids : List Nat) (NB NE : Nat) {l l' q : List AV} {obs obs0 qo : List (Nat × List AV)} (hl' : AV.mapA.go (passV ids vids) l = some l') (hq : subsA l' q) (hpk : pickO ob ids = some obs) (hmo : mapO (passV ids vids) obs = some obs0) (hqo : leO obs0 qo)
    (hnd : nodupB ids = true) (hids : ids.all (fun i => Nat.blt i (2 * M1)) = true) (hil : Nat.ble ids.length M1 = true) (hdl : Nat.ble NE M1 = true) (hdis : ids.all (fun i => !(dropV vids NB NE i)) = true)
    (hvd : nodupB vids = true) (hvl : vids.all (fun i => Nat.blt i M1) = true) (hvn : Nat.ble vids.length 100000 = true)
    {g : Gh} {a : Act} {w : World} (hs : St C.n C.w0 C.F g ⟨sl, ob⟩ a w) {avs : Array Value} (a1 : avs.size = l.length) (a2 : ∀ (i : Nat) c v, l[i]? = some c → avs[i]? = some v → ARep w g c v) :
    ∃ gc : Gh, (Ok0 w gc.st ∧ (∀ i b, gc.ow i = some b → b < w.heap.size ∧ i < 2 * M1) ∧ (∀ i j b, gc.ow i = some b → gc.ow j = some b → i = j) ∧ (∀ i b, M1 ≤ i → gc.ow i = some b → ∀ o, ¬ gc.st b o) ∧ avs.size = q.length ∧
      (∀ (i : Nat) c v, q[i]? = some c → avs[i]? = some v → ARep w gc c v) ∧ (∀ id cs, look qo id = some cs → ObRep w gc id cs)) ∧
      ∀ (w' : World) (v : Value) (r r' : AV) (obs' ob' : List (Nat × List AV)) (g' : Gh), ARep w' g' r v → (∀ p ∈ obs', ObRep w' g' p.1 p.2) → AfterO w gc w' g' → r.mapA (backM ids NB NE) = some r' → mapO (backM ids NB NE) obs' = some ob' →
        ∃ g2, St C.n C.w0 C.F g2 ⟨(demS (dropV vids NB NE) ⟨sl, ob⟩).sl, ob' ++ (demS (dropV vids NB NE) ⟨sl, ob.filter fun p => !(ids.any (Nat.beq p.1))⟩).ob⟩ a w' ∧ ARep w' g2 r' v := by
  have hidl : ∀ (k i : Nat), ids[k]? = some i → i < 2 * M1 := fun k i h => by
    have := List.all_eq_true.1 hids i (List.mem_of_getElem? h)
    exact Nat.blt_eq ▸ this
  have hvll : ∀ (k i : Nat), vids[k]? = some i → i < M1 := fun k i h => by
    have := List.all_eq_true.1 hvl i (List.mem_of_getElem? h)
    exact Nat.blt_eq ▸ this
  have hidD : ∀ (k i : Nat), ids[k]? = some i → dropV vids NB NE i = false := fun k i h => by
    have := List.all_eq_true.1 hdis i (List.mem_of_getElem? h)
    simpa only [Bool.not_eq_true'] using this
  have hDn : ∀ i, newV NB NE i = true → NB ≤ i ∧ i < NE := fun i h => by
    unfold newV at h
    simp only [Bool.and_eq_true] at h
    exact ⟨Nat.le_of_ble_eq_true h.1, Nat.blt_eq ▸ h.2⟩
  have hDv : ∀ i, vids.any (Nat.beq i) = true → ∃ k, vids[k]? = some i := fun i h => by
    obtain ⟨x, hx, he⟩ := List.any_eq_true.1 h
    have := Nat.eq_of_beq_eq_true he
    subst this
    exact List.mem_iff_getElem?.1 hx
  have hvD : ∀ (k i : Nat), vids[k]? = some i → vids.any (Nat.beq i) = true := fun k i h => List.any_eq_true.2 ⟨i, List.mem_of_getElem? h, by simp⟩
  have hsplit : ∀ i, dropV vids NB NE i = false → newV NB NE i = false ∧ vids.any (Nat.beq i) = false := fun i h => by
    unfold dropV at h
    simpa only [Bool.or_eq_false_iff] using h
  have hdl' := Nat.le_of_ble_eq_true hdl
  have hil' := Nat.le_of_ble_eq_true hil
  have hvn' := Nat.le_of_ble_eq_true hvn
  have hV1 : V1 + 100000 = M1 := rfl
  obtain ⟨gc, hgc⟩ : ∃ gc : Gh, gc = ⟨g.st, fun j => if M1 ≤ j then (ids[j - M1]?).bind g.ow else if V1 ≤ j then (vids[j - V1]?).bind g.ow else none⟩ := ⟨_, rfl⟩
  have hgst : gc.st = g.st := by rw [hgc]
  have gcinv : ∀ j b, gc.ow j = some b → ∃ i, g.ow i = some b ∧ ((ids[j - M1]? = some i ∧ M1 ≤ j ∧ j < 2 * M1) ∨ (vids[j - V1]? = some i ∧ V1 ≤ j ∧ j < M1)) := by
    intro j b h
    rw [hgc] at h
    dsimp only at h
    by_cases e : M1 ≤ j
    · rw [if_pos e] at h
      obtain ⟨i, h1, h2⟩ := Option.bind_eq_some_iff.1 h
      have := (List.getElem?_eq_some_iff.1 h1).1
      exact ⟨i, h2, .inl ⟨h1, e, by omega⟩⟩
    · rw [if_neg e] at h
      by_cases e2 : V1 ≤ j
      · rw [if_pos e2] at h
        obtain ⟨i, h1, h2⟩ := Option.bind_eq_some_iff.1 h
        exact ⟨i, h2, .inr ⟨h1, e2, by omega⟩⟩
      · rw [if_neg e2] at h; cases h
  have hpm : ∀ i j b, passV ids vids i = some j → g.ow i = some b → gc.ow j = some b := by
    intro i j b h hb
    unfold passV at h
    split at h
    · rename_i k hk
      cases h
      rw [hgc]
      dsimp only
      rw [if_pos (by omega), Nat.add_sub_cancel_left, findIdx_spec hk]
      exact hb
    · split at h
      · rename_i k hk
        cases h
        have hkl := (List.getElem?_eq_some_iff.1 (findIdx_spec hk)).1
        rw [hgc]
        dsimp only
        rw [if_neg (by omega), if_pos (by omega), Nat.add_sub_cancel_left, findIdx_spec hk]
        exact hb
      · cases h
  have hidob : ∀ (k i : Nat), ids[k]? = some i → ∃ cs, look ob i = some cs := by
    have : ∀ (ids : List Nat) (obs : List (Nat × List AV)), pickO ob ids = some obs → ∀ (k i : Nat), ids[k]? = some i → ∃ cs, look ob i = some cs := by
      intro ids
      induction ids with
      | nil => intro obs _ k i h; simp at h
      | cons x r ih =>
        intro obs h k i hk
        simp only [pickO] at h
        split at h
        · rename_i cs l0 h1 h2
          cases k with
          | zero => simp only [List.getElem?_cons_zero, Option.some.injEq] at hk; subst hk; exact ⟨cs, h1⟩
          | succ k => simp only [List.getElem?_cons_succ] at hk; exact ih l0 h2 k i hk
        · cases h
    exact this ids obs hpk
  have hnst : ∀ j b, M1 ≤ j → gc.ow j = some b → ∀ o, ¬ g.st b o := by
    intro j b hj h o ho
    obtain ⟨i, h4, ⟨h1, _, _⟩ | ⟨_, _, h3⟩⟩ := gcinv j b h
    · obtain ⟨cs, hcs⟩ := hidob _ i h1
      obtain ⟨b', c, e, k1, _, _, k4, _⟩ := hs.ob i cs hcs
      rw [h4] at k1; cases k1
      exact k4 o ho
    · omega
  obtain ⟨m1, m2⟩ := mapA_go hl'
  obtain ⟨b1, b2⟩ := subsA_spec hq
  have hargs : ∀ (i : Nat) c v, q[i]? = some c → avs[i]? = some v → ARep w gc c v := by
    intro i c v hc hv
    have hi' : i < l'.length := by have := (List.getElem?_eq_some_iff.1 hc).1; omega
    have hi : i < l.length := by omega
    have h1 := a2 i _ v (List.getElem?_eq_getElem hi) hv
    have h2 := mapA_rep hgst hpm h1 (m2 i _ _ (List.getElem?_eq_getElem hi) (List.getElem?_eq_getElem hi'))
    exact b2 i _ c (List.getElem?_eq_getElem hi') hc w gc v h2
  have hobs0 := mapO_rep hgst hpm hmo (fun p hp => hs.ob p.1 p.2 (pickO_mem hpk p hp))
  have hqo' : ∀ id cs, look qo id = some cs → ObRep w gc id cs := by
    intro id cs h
    obtain ⟨ds, h1, h2⟩ := leO_look hqo id cs h
    exact obrep_sub (hobs0 (id, ds) (look_mem h1)) h2
  have hpre : ∀ {Z : Prop}, (Ok0 w gc.st → (∀ i b, gc.ow i = some b → b < w.heap.size ∧ i < 2 * M1) → (∀ i j b, gc.ow i = some b → gc.ow j = some b → i = j) → (∀ i b, M1 ≤ i → gc.ow i = some b → ∀ o, ¬ gc.st b o) → avs.size = q.length → (∀ (i : Nat) c v, q[i]? = some c → avs[i]? = some v → ARep w gc c v) → (∀ id cs, look qo id = some cs → ObRep w gc id cs) → Z) → Z := fun k => k (by rw [hgst]; exact hs.ok0) (fun j b h => by
      obtain ⟨i, h4, ⟨_, _, h3⟩ | ⟨_, _, h3⟩⟩ := gcinv j b h
      · exact ⟨(hs.own i b h4).1, h3⟩
      · exact ⟨(hs.own i b h4).1, by omega⟩) (fun i j b h1 h2 => by
      obtain ⟨i', p3, p⟩ := gcinv i b h1
      obtain ⟨j', q3, q⟩ := gcinv j b h2
      have := hs.inj i' j' b p3 q3
      subst this
      rcases p with ⟨p1, p2, _⟩ | ⟨p1, p2, p4⟩ <;> rcases q with ⟨q1, q2, _⟩ | ⟨q1, q2, q4⟩
      · have := nodupB_spec hnd _ _ _ p1 q1; omega
      · have h5 := (hsplit _ (hidD _ _ p1)).2
        rw [hvD _ _ q1] at h5; cases h5
      · have h5 := (hsplit _ (hidD _ _ q1)).2
        rw [hvD _ _ p1] at h5; cases h5
      · have := nodupB_spec hvd _ _ _ p1 q1; omega) (fun j b hj h => by rw [hgst]; exact hnst j b hj h) (a1.trans (m1.trans b1)) hargs hqo'
  refine ⟨gc, hpre fun k1 k2 k3 k4 k5 k6 k7 => ⟨k1, k2, k3, k4, k5, k6, k7⟩, fun w' v r r' obs' ob' g' hr hob' hA hr' hmo' => ?_⟩
  have nogc : ∀ i b, (∀ (k : Nat), ids[k]? ≠ some i) → (∀ (k : Nat), vids[k]? ≠ some i) → g.ow i = some b → ∀ j, gc.ow j ≠ some b := by
    intro i b hi hv hb j hj
    obtain ⟨i', p3, p⟩ := gcinv j b hj
    have := hs.inj i i' b hb p3
    subst this
    rcases p with ⟨p1, _⟩ | ⟨p1, _⟩
    · exact hi _ p1
    · exact hv _ p1
  obtain ⟨g2, hg2⟩ : ∃ g2 : Gh, g2 = ⟨g'.st, fun i => if newV NB NE i = true then g'.ow (2 * M1 + (i - NB)) else if vids.any (Nat.beq i) = true then none else g.ow i⟩ := ⟨_, rfl⟩
  have hg2st : g2.st = g'.st := by rw [hg2]
  have g2old : ∀ i, dropV vids NB NE i = false → g2.ow i = g.ow i := fun i h => by
    obtain ⟨h1, h2⟩ := hsplit i h
    rw [hg2]; simp only [h1, h2, Bool.false_eq_true, if_false]
  have g2new : ∀ i, newV NB NE i = true → g2.ow i = g'.ow (2 * M1 + (i - NB)) := fun i h => by rw [hg2]; simp only [h, if_true]
  have g2cases : ∀ i b, g2.ow i = some b → (newV NB NE i = true ∧ g'.ow (2 * M1 + (i - NB)) = some b) ∨ (dropV vids NB NE i = false ∧ g.ow i = some b) := by
    intro i b h
    cases h1 : newV NB NE i
    · cases h2 : vids.any (Nat.beq i)
      · have h3 : dropV vids NB NE i = false := by unfold dropV; rw [h1, h2]; rfl
        exact .inr ⟨h3, by rw [← g2old i h3]; exact h⟩
      · rw [hg2] at h; simp only [h1, h2, Bool.false_eq_true, if_false, if_true] at h; cases h
    · exact .inl ⟨rfl, by rw [← g2new i h1]; exact h⟩
  have hDM : ∀ i, M1 ≤ i → dropV vids NB NE i = false := fun i hi => by
    cases hq : dropV vids NB NE i
    · rfl
    · unfold dropV at hq
      simp only [Bool.or_eq_true] at hq
      rcases hq with hq | hq
      · exact absurd (Nat.lt_of_lt_of_le (Nat.lt_of_lt_of_le (hDn i hq).2 hdl') hi) (Nat.lt_irrefl _)
      · obtain ⟨k, hk⟩ := hDv i hq
        exact absurd (Nat.lt_of_lt_of_le (hvll k i hk) hi) (Nat.lt_irrefl _)
  have hbm : ∀ j i b, backM ids NB NE j = some i → g'.ow j = some b → g2.ow i = some b := by
    intro j i b h hb
    rcases backM_spec h with ⟨k, rfl, rfl, h4⟩ | ⟨h3, h4, h5⟩
    · rw [g2new (NB + k) (by
        unfold newV
        simp only [Bool.and_eq_true]
        exact ⟨Nat.ble_eq_true_of_le (Nat.le_add_right _ _), by rw [Nat.blt_eq]; exact h4⟩), Nat.add_sub_cancel_left]
      exact hb
    · rw [g2old i (hidD _ i h5)]
      rw [hA.owf j h3 h4] at hb
      obtain ⟨i', p3, ⟨p1, _, _⟩ | ⟨_, _, p5⟩⟩ := gcinv j b hb
      · rw [h5] at p1; cases p1
        exact p3
      · omega
  have hE : EvO (dropV vids NB NE) w g w' g2 := by
    refine ⟨by rw [hg2st]; have := hA.ev; rw [hgst] at this; exact this, fun id b hq h => by rw [g2old id hq]; exact h, fun id b c e hq h0 h => ?shape, fun id b o hq h ho => ?_, fun id b es k hq h0 h => ?mpc, fun i hi => hDM i (M1_lt hi), fun id b o hq h0 ho => ?stb⟩
    case stb =>
      have hlt := (hs.own id b h0).1
      by_cases hno : ∃ j, gc.ow j = some b
      · obtain ⟨j, hj⟩ := hno
        obtain ⟨i', p3, ⟨p1, _, _⟩ | ⟨p1, _, _⟩⟩ := gcinv j b hj
        · obtain ⟨cs, hcs⟩ := hidob _ i' p1
          obtain ⟨b', c, e, k1, k2, _, k4, _⟩ := hs.ob i' cs hcs
          rw [p3] at k1; cases k1
          exact absurd ho (k4 o)
        · have := hs.inj id i' b h0 p3
          subst this
          have h5 := (hsplit _ hq).2
          rw [hvD _ _ p1] at h5; cases h5
      · exact hA.fr b hlt (fun j hj => hno ⟨j, hj⟩)
    case mpc =>
      have hlt := (hs.own id b h0).1
      by_cases hno : ∃ j, gc.ow j = some b
      · obtain ⟨j, hj⟩ := hno
        obtain ⟨i', p3, ⟨p1, _, _⟩ | ⟨p1, _, _⟩⟩ := gcinv j b hj
        · obtain ⟨cs, hcs⟩ := hidob _ i' p1
          obtain ⟨b', c, e, k1, k2, _⟩ := hs.ob i' cs hcs
          rw [p3] at k1; cases k1
          rw [k2] at h; cases h
        · have := hs.inj id i' b h0 p3
          subst this
          have h5 := (hsplit _ hq).2
          rw [hvD _ _ p1] at h5; cases h5
      · exact (hA.fr b hlt (fun j hj => hno ⟨j, hj⟩)).trans h
    case shape =>
      have hlt := (hs.own id b h0).1
      by_cases hno : ∃ j, gc.ow j = some b
      · obtain ⟨j, hj⟩ := hno
        obtain ⟨i', p3, ⟨_, p2, _⟩ | ⟨p1, _, _⟩⟩ := gcinv j b hj
        · exact hA.sh j b c e p2 hj h
        · have := hs.inj id i' b h0 p3
          subst this
          have h5 := (hsplit _ hq).2
          rw [hvD _ _ p1] at h5; cases h5
      · exact ⟨c, (hA.fr b hlt (fun j hj => hno ⟨j, hj⟩)).trans h, rfl⟩
    rw [hg2st] at ho
    have hlt := (hs.own id b h).1
    by_cases hno : ∃ j, gc.ow j = some b
    · obtain ⟨j, hj⟩ := hno
      obtain ⟨i', p3, ⟨_, p2, _⟩ | ⟨p1, _, _⟩⟩ := gcinv j b hj
      · exact absurd ho (hA.nst j b p2 hj o)
      · have := hs.inj id i' b h p3
        subst this
        have h5 := (hsplit _ hq).2
        rw [hvD _ _ p1] at h5; cases h5
    · have := (hA.stf b hlt (fun j hj => hno ⟨j, hj⟩) o).1 ho
      rw [hgst] at this; exact this
  have hs' : St C.n C.w0 C.F g2 ⟨(demS (dropV vids NB NE) ⟨sl, ob⟩).sl, ob' ++ (demS (dropV vids NB NE) ⟨sl, ob.filter fun p => !(ids.any (Nat.beq p.1))⟩).ob⟩ a w' := by
    refine ⟨hs.nd, hs.sz, fun i => ?_, fun id cs h => ?_, fun i j b h1 h2 => ?_, fun i b h => ?_, by rw [hg2st]; exact hA.lt, hs.fl, fun b h => ?_, hA.os.trans hs.os, hA.out.trans hs.out, hA.tape.trans hs.tape, Nat.le_trans hs.size hA.size, fun b h o => ?_, fun i h hz => ?_, hs.shf.next (fun i b c e hi hb h => hE.shape i b c e (hDM i hi) ((hs.owf i hi (C.w0.lo i b hb)).trans hb) h), fun i b h1 h2 o h3 => ?_, hs.ev0.trans hE.ev⟩
    · have h := (hs.sl i).dem hE
      simp only [AS.get, demS, look_map]
      simp only [AS.get] at h
      cases hl : look sl i with
      | none => simp only [Option.map_none, Option.getD_none]; exact .undef _
      | some x => rw [hl] at h; simpa using h
    · dsimp only at h
      rw [look_append] at h
      split at h
      · rename_i x hx
        cases h
        exact mapO_rep hg2st hbm hmo' hob' (id, cs) (look_mem hx)
      · have hf1 := look_filter (dropV vids NB NE) (ob.filter fun p => !(ids.any (Nat.beq p.1))) id
        simp only [demS, look_map] at h
        rw [hf1] at h
        cases hDi : dropV vids NB NE id
        · simp only [hDi, Bool.false_eq_true, if_false, Option.map_eq_some_iff] at h
          have hf := look_filter (fun i => ids.any (Nat.beq i)) ob id
          rw [hf] at h
          cases hany : ids.any (Nat.beq id)
          · rw [hany] at h
            simp only [Bool.false_eq_true, if_false] at h
            obtain ⟨ds, h1, rfl⟩ := h
            have hni : ∀ (k : Nat), ids[k]? ≠ some id := fun k hk => by
              rw [List.any_eq_false] at hany
              exact hany id (List.mem_of_getElem? hk) (by simp)
            have hnv : ∀ (k : Nat), vids[k]? ≠ some id := fun k hk => by
              have h5 := (hsplit _ hDi).2
              rw [hvD _ _ hk] at h5; cases h5
            obtain ⟨b, c, e, k1, k2, k3, k4, k5⟩ := hs.ob id ds h1
            have hlt := (hs.own id b k1).1
            have hno := nogc id b hni hnv k1
            refine ⟨b, c, e, by rw [g2old id hDi]; exact k1, (hA.fr b hlt hno).trans k2, by simpa [demL_eq] using k3, fun o ho => ?_, fun i x hx => ?_⟩
            · rw [hg2st] at ho
              have := (hA.stf b hlt hno o).1 ho
              rw [hgst] at this; exact k4 o this
            · simp only [demL_eq, List.getElem?_map, Option.map_eq_some_iff] at hx
              obtain ⟨y, hy, rfl⟩ := hx
              obtain ⟨v, hv, hr⟩ := k5 i y hy
              exact ⟨v, hv, hr.dem hE⟩
          · rw [hany] at h; simp at h
        · simp [hDi] at h
    · have cross : ∀ i j b, newV NB NE i = true → g'.ow (2 * M1 + (i - NB)) = some b → dropV vids NB NE j = false → g.ow j = some b → False := by
        intro i j b hi h1 hj h2
        have hlt := (hs.own j b h2).1
        rcases (hA.own _ b h1).2 with h3 | ⟨j', hj'⟩
        · omega
        · obtain ⟨i', p3, ⟨p1, p2, p4⟩ | ⟨p1, _, _⟩⟩ := gcinv j' b hj'
          · have h4 := hA.owf j' p2 p4
            rw [hj'] at h4
            have := hA.inj _ _ b h1 h4
            omega
          · have := hs.inj j i' b h2 p3
            subst this
            have h5 := (hsplit _ hj).2
            rw [hvD _ _ p1] at h5; cases h5
      rcases g2cases i b h1 with ⟨x1, x2⟩ | ⟨x1, x2⟩ <;> rcases g2cases j b h2 with ⟨y1, y2⟩ | ⟨y1, y2⟩
      · have := hA.inj _ _ b x2 y2
        have := hDn i x1
        have := hDn j y1
        omega
      · exact (cross i j b x1 x2 y1 y2).elim
      · exact (cross j i b y1 y2 x1 x2).elim
      · exact hs.inj i j b x2 y2
    · rcases g2cases i b h with ⟨x1, x2⟩ | ⟨x1, x2⟩
      · obtain ⟨k1, k2⟩ := hA.own _ b x2
        refine ⟨k1, fun hF => ?_⟩
        rcases k2 with k2 | ⟨j, hj⟩
        · have := hs.fl b hF; have := hs.size; omega
        · obtain ⟨i', p3, _⟩ := gcinv j b hj
          exact (hs.own i' b p3).2 hF
      · have := hs.own i b x2
        have := hA.size
        exact ⟨by omega, (hs.own i b x2).2⟩
    · have hlt : b < w.heap.size := by have := hs.fl b h; have := hs.size; omega
      exact (hA.fr b hlt fun j hj => by
        obtain ⟨i', p3, _⟩ := gcinv j b hj
        exact (hs.own i' b p3).2 h).trans (hs.fr b h)
    · have hlt : b < w.heap.size := by have := hs.fl b h; have := hs.size; omega
      rw [hg2st]
      have := hA.stf b hlt (fun j hj => by
        obtain ⟨i', p3, _⟩ := gcinv j b hj
        exact (hs.own i' b p3).2 h) o
      rw [hgst] at this
      exact this.trans (hs.stf b h o)
    · rw [g2old i (hDM i h)]; exact hs.owf i h hz
    · rw [hg2st] at h3
      have h4 : g.ow i = some b := (hs.owf i h1 (C.w0.lo i b h2)).trans h2
      have hlt := (hs.own i b h4).1
      by_cases hin : ∃ k : Nat, ids[k]? = some i
      · obtain ⟨k, hk⟩ := hin
        have hj : gc.ow (M1 + k) = some b := by
          rw [hgc]; dsimp only; rw [if_pos (by omega), Nat.add_sub_cancel_left, hk]; exact h4
        exact hA.nst (M1 + k) b (by omega) hj o h3
      have hno := nogc i b (fun k hk => hin ⟨k, hk⟩) (fun k hk => by have := hvll k i hk; omega) h4
      have := (hA.stf b hlt hno o).1 h3
      rw [hgst] at this
      exact hs.nst i b h1 h2 o this
  exact ⟨g2, hs', mapA_rep hg2st hbm hr hr'⟩

theorem ok_callVg (ids vids : List Nat) (NB NE : Nat) {f : FuncId} {l l' q : List AV} {obs obs0 qo : List (Nat × List AV)} {R : AV → List (Nat × List AV) → Prop} (hc : OCalls C.P f q qo R)
    (hen : ∀ g a w, St C.n C.w0 C.F g ⟨sl, ob⟩ a w → ∃ vs : Array Value, (execOp a.eval o).run C.P w = .ok (.enter f vs) w ∧ vs.size = l.length ∧ ∀ (i : Nat) c v, l[i]? = some c → vs[i]? = some v → ARep w g c v)
    (hd : o.dst = some d) (hn : Nat.blt d C.n = true) (hl' : AV.mapA.go (passV ids vids) l = some l') (hq : subsA l' q) (hpk : pickO ob ids = some obs) (hmo : mapO (passV ids vids) obs = some obs0) (hqo : leO obs0 qo)
    (hnd : nodupB ids = true) (hids : ids.all (fun i => Nat.blt i (2 * M1)) = true) (hil : Nat.ble ids.length M1 = true) (hdl : Nat.ble NE M1 = true) (hdis : ids.all (fun i => !(dropV vids NB NE i)) = true)
    (hvd : nodupB vids = true) (hvl : vids.all (fun i => Nat.blt i M1) = true) (hvn : Nat.ble vids.length 100000 = true)
    (hK : ∀ r obs', R r obs' → ∃ r' ob', r.mapA (backM ids NB NE) = some r' ∧ mapO (backM ids NB NE) obs' = some ob' ∧
      K ⟨(d, r') :: (demS (dropV vids NB NE) ⟨sl, ob⟩).sl, ob' ++ (demS (dropV vids NB NE) ⟨sl, ob.filter fun p => !(ids.any (Nat.beq p.1))⟩).ob⟩) : OpOk C o K ⟨sl, ob⟩ := by
  intro g a w hs
  obtain ⟨avs, hrun, a1, a2⟩ := hen g a w hs
  obtain ⟨gc, ⟨k1, k2, k3, k4, k5, k6, k7⟩, hpost⟩ := callV_core ids vids NB NE hl' hq hpk hmo hqo hnd hids hil hdl hdis hvd hvl hvn hs a1 a2
  unfold Oper.wp
  rw [hrun]
  simp only [Oper.upon]
  refine (hc w gc avs k1 k2 k3 k4 k5 k6 k7).mono fun e w' ⟨v, r, obs', g', he, hR, hr, hob', hA⟩ => ?_
  subst he
  obtain ⟨r', ob', hr', hmo', hK'⟩ := hK r obs' hR
  obtain ⟨g2, hs', hrep⟩ := hpost w' v r r' obs' ob' g' hr hob' hA hr' hmo'
  have hp := hs'.put (d := o.dst) (fun t ht => by rw [hd] at ht; cases ht; exact Nat.blt_eq ▸ hn) hrep
  rw [hd] at hp
  simp only
  rw [hd]
  exact ⟨_, _, hp, hK'⟩

/-- A result that is known. -/
theorem op_callV (ids vids : List Nat) (NB NE : Nat) {f : FuncId} {args : Array Operand} {ts : Array TypeId} {l l' q : List AV} {obs obs0 qo rob ob' : List (Nat × List AV)} {r r' : AV} (hc : OCalls C.P f q qo (fun x y => x = r ∧ y = rob)) (ho : o.op = .call { callee := .value (.func f), args := args, argTypes := ts })
    (hd : o.dst = some d) (hn : Nat.blt d C.n = true) (hl : argsA sl args.toList = some l) (hl' : AV.mapA.go (passV ids vids) l = some l') (hq : subsA l' q) (hpk : pickO ob ids = some obs) (hmo : mapO (passV ids vids) obs = some obs0) (hqo : leO obs0 qo)
    (hnd : nodupB ids = true) (hids : ids.all (fun i => Nat.blt i (2 * M1)) = true) (hil : Nat.ble ids.length M1 = true) (hdl : Nat.ble NE M1 = true) (hdis : ids.all (fun i => !(dropV vids NB NE i)) = true)
    (hvd : nodupB vids = true) (hvl : vids.all (fun i => Nat.blt i M1) = true) (hvn : Nat.ble vids.length 100000 = true)
    (henter : ∀ vs w, (callFunc f vs).run C.P w = .ok (.enter f vs) w) (hr : r.mapA (backM ids NB NE) = some r') (hob : mapO (backM ids NB NE) rob = some ob')
    (hK : K ⟨(d, r') :: (demS (dropV vids NB NE) ⟨sl, ob⟩).sl, ob' ++ (demS (dropV vids NB NE) ⟨sl, ob.filter fun p => !(ids.any (Nat.beq p.1))⟩).ob⟩) : OpOk C o K ⟨sl, ob⟩ :=
  ok_callVg ids vids NB NE hc (fun g a w hs => by
    obtain ⟨a1, a2⟩ := argsA_spec hs _ l hl
    exact ⟨args.map a.eval, by simp [execOp, ho, resolve, Act.eval, Deferred.ofValue, invoke, henter], by have := a1.symm; simpa using this, fun i c v hc hv => a2 i c v hc (by rw [← Array.toList_map]; simpa using hv)⟩)
    hd hn hl' hq hpk hmo hqo hnd hids hil hdl hdis hvd hvl hvn fun x y ⟨e1, e2⟩ => by
    subst e1 e2
    exact ⟨r', ob', hr, hob, hK⟩

/-- The same, through a value that has captured what is handed on behind the arguments. -/
theorem op_callVF (ids vids : List Nat) (NB NE : Nat) {f : FuncId} {caps : List AV} {t : Nat} {args : Array Operand} {ts : Array TypeId} {l l' q : List AV} {obs obs0 qo rob ob' : List (Nat × List AV)} {r r' : AV} (hc : OCalls C.P f q qo (fun x y => x = r ∧ y = rob)) (ho : o.op = .call { callee := .value (.tmp t), args := args, argTypes := ts })
    (hd : o.dst = some d) (hn : Nat.blt d C.n = true) (hf : evo sl (.tmp t) = some (.func (.func f) caps)) (hl : argsA sl args.toList = some l) (hl' : AV.mapA.go (passV ids vids) (l ++ caps) = some l') (hq : subsA l' q) (hpk : pickO ob ids = some obs) (hmo : mapO (passV ids vids) obs = some obs0) (hqo : leO obs0 qo)
    (hnd : nodupB ids = true) (hids : ids.all (fun i => Nat.blt i (2 * M1)) = true) (hil : Nat.ble ids.length M1 = true) (hdl : Nat.ble NE M1 = true) (hdis : ids.all (fun i => !(dropV vids NB NE i)) = true)
    (hvd : nodupB vids = true) (hvl : vids.all (fun i => Nat.blt i M1) = true) (hvn : Nat.ble vids.length 100000 = true)
    (henter : ∀ vs w, (callFunc f vs).run C.P w = .ok (.enter f vs) w) (hr : r.mapA (backM ids NB NE) = some r') (hob : mapO (backM ids NB NE) rob = some ob')
    (hK : K ⟨(d, r') :: (demS (dropV vids NB NE) ⟨sl, ob⟩).sl, ob' ++ (demS (dropV vids NB NE) ⟨sl, ob.filter fun p => !(ids.any (Nat.beq p.1))⟩).ob⟩) : OpOk C o K ⟨sl, ob⟩ :=
  ok_callVg ids vids NB NE hc (fun g a w hs => by
    obtain ⟨a1, a2⟩ := argsA_spec hs _ l hl
    have hfr := evo_rep hs hf
    generalize hv : a.eval (.tmp t) = v at hfr
    cases hfr with
    | func hcs hcr =>
      rename_i vs
      have a1' : (args.map a.eval).size = l.length := by have := a1.symm; simpa using this
      refine ⟨args.map a.eval ++ vs, by simp [execOp, ho, resolve, hv, Deferred.ofValue, invoke, henter], by rw [Array.size_append, List.length_append, a1', hcs], fun i c v hc hv => ?_⟩
      rw [List.getElem?_append] at hc
      rw [Array.getElem?_append] at hv
      split at hc
      · rename_i hlt
        rw [if_pos (by omega)] at hv
        exact a2 i c v hc (by rw [← Array.toList_map]; simpa using hv)
      · rename_i hge
        rw [if_neg (by omega), a1'] at hv
        exact hcr _ c v hc hv)
    hd hn hl' hq hpk hmo hqo hnd hids hil hdl hdis hvd hvl hvn fun x y ⟨e1, e2⟩ => by
    subst e1 e2
    exact ⟨r', ob', hr, hob, hK⟩
end

end Go.Ab
