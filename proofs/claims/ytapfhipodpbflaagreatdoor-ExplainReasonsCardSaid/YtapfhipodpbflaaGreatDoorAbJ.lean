/- A layer of abstract values over the model's worlds, part J: calls that are handed objects, and hand back what they own. It holds for every program. -/
import Derived.Test.YtapfhipodpbflaaGreatDoorAbI
set_option linter.unusedVariables false
set_option linter.unusedSimpArgs false
set_option linter.unnecessarySimpa false
namespace Go.Ab

/-- Identities are called otherwise; what goes by an identity without a new name is no longer owned. -/
def AV.mapA (m : Nat → Option Nat) : AV → Option AV
  | .undef => some .undef
  | .p x => some (.p x)
  | .vec tok sz ty es => match m tok with
    | some t => some (.vec t sz ty es)
    | none => some (.p (.slice es))
  | .arr id sz off n => match m id with
    | some t => some (.arr t sz off n)
    | none => none
  | .ptr id off => match m id with
    | some t => some (.ptr t off)
    | none => none
  | .bptr T sz id => match m id with
    | some t => some (.bptr T sz t)
    | none => none
  | .rptr cs => some (.rptr cs)
  | .agg cs => match go m cs with
    | some l => some (.agg l)
    | none => none
  | .tuple cs => match go m cs with
    | some l => some (.tuple l)
    | none => none
  | .func f cs => match go m cs with
    | some l => some (.func f l)
    | none => none
  | .mp tok kvs => match m tok with
    | some t => some (.mp t kvs)
    | none => none
  | .mpr .. => none
  | .stk tok sz es => match m tok with
    | some t => some (.stk t sz es)
    | none => none
  | .sem _ => none
  | .it .. => none
  | .vecp tok sz ty es => match m tok with
    | some t => some (.vecp t sz ty es)
    | none => none
  | .elp .. => none
where
  go (m : Nat → Option Nat) : List AV → Option (List AV)
  | [] => some []
  | x :: r => match x.mapA m, go m r with
    | some y, some l => some (y :: l)
    | _, _ => none

theorem mapA_go {m : Nat → Option Nat} : ∀ {l l' : List AV}, AV.mapA.go m l = some l' → l.length = l'.length ∧ ∀ (i : Nat) x y, l[i]? = some x → l'[i]? = some y → x.mapA m = some y
  | [], l', h => by simp only [AV.mapA.go, Option.some.injEq] at h; subst h; exact ⟨rfl, by simp⟩
  | x :: r, l', h => by
    simp only [AV.mapA.go] at h
    split at h
    · rename_i y l0 hy hl
      cases h
      obtain ⟨h1, h2⟩ := mapA_go hl
      refine ⟨by simp [h1], fun i a b ha hb => ?_⟩
      cases i with
      | zero => simp only [List.getElem?_cons_zero, Option.some.injEq] at ha hb; subst ha hb; exact hy
      | succ i => simp only [List.getElem?_cons_succ] at ha hb; exact h2 i a b ha hb
    · cases h

theorem mapA_rep {m : Nat → Option Nat} {w : World} {g g' : Gh} (hst : g'.st = g.st) (hm : ∀ i j b, m i = some j → g.ow i = some b → g'.ow j = some b) {x : AV} {v : Value} (h : ARep w g x v) : ∀ {y : AV}, x.mapA m = some y → ARep w g' y v := by
  have lst : ∀ {cs : List AV} {vs : Array Value} {l : List AV}, vs.size = cs.length → (∀ (i : Nat) c v, cs[i]? = some c → vs[i]? = some v → ∀ {y : AV}, c.mapA m = some y → ARep w g' y v) →
      AV.mapA.go m cs = some l → vs.size = l.length ∧ ∀ (i : Nat) c v, l[i]? = some c → vs[i]? = some v → ARep w g' c v := by
    intro cs vs l hl ih hgo
    obtain ⟨h1, h2⟩ := mapA_go hgo
    refine ⟨by omega, fun i c v hc hv => ?_⟩
    have hi : i < cs.length := by have := (List.getElem?_eq_some_iff.1 hc).1; omega
    exact ih i cs[i] v (List.getElem?_eq_getElem hi) hv (h2 i _ _ (List.getElem?_eq_getElem hi) hc)
  induction h with
  | undef v => intro y hy; simp only [AV.mapA, Option.some.injEq] at hy; subst hy; exact .undef _
  | p h => intro y hy; simp only [AV.mapA, Option.some.injEq] at hy; subst hy; exact .p (hst ▸ h)
  | vecn tok sz ty =>
    intro y hy
    simp only [AV.mapA] at hy
    split at hy <;> cases hy
    · exact .vecn _ _ _
    · exact .p .nils
  | vece tok sz a =>
    intro y hy
    simp only [AV.mapA] at hy
    split at hy <;> cases hy
    · exact .vece _ _ _
    · exact .p (.nile a)
  | vec how hb hcs hsz hst' hr hty =>
    intro y hy
    simp only [AV.mapA] at hy
    split at hy <;> cases hy
    · rename_i t ht
      exact .vec (hm _ _ _ ht how) hb hcs hsz (by rw [hst]; exact hst') (by rw [hst]; exact hr) hty
    · exact .p (by rw [hst]; exact hr)
  | arr how hb hcs hn =>
    intro y hy
    simp only [AV.mapA] at hy
    split at hy <;> cases hy
    rename_i t ht
    exact .arr (hm _ _ _ ht how) hb hcs hn
  | ptr how =>
    intro y hy
    simp only [AV.mapA] at hy
    split at hy <;> cases hy
    rename_i t ht
    exact .ptr (hm _ _ _ ht how)
  | bptrn how hb hcs =>
    intro y hy
    simp only [AV.mapA] at hy
    split at hy <;> cases hy
    rename_i t ht
    exact .bptrn (hm _ _ _ ht how) hb hcs
  | bptr how hb hcs =>
    intro y hy
    simp only [AV.mapA] at hy
    split at hy <;> cases hy
    rename_i t ht
    exact .bptr (hm _ _ _ ht how) hb hcs
  | rptr cf hc hr => intro y hy; simp only [AV.mapA, Option.some.injEq] at hy; subst hy; exact .rptr cf (by rw [hst]; exact hc) (by rw [hst]; exact hr)
  | agg hl h ih =>
    intro y hy
    simp only [AV.mapA] at hy
    split at hy <;> cases hy
    rename_i l hgo
    obtain ⟨k1, k2⟩ := lst hl ih hgo
    exact .agg k1 k2
  | tuple hl h ih =>
    intro y hy
    simp only [AV.mapA] at hy
    split at hy <;> cases hy
    rename_i l hgo
    obtain ⟨k1, k2⟩ := lst hl ih hgo
    exact .tuple k1 k2
  | func hl h ih =>
    intro y hy
    simp only [AV.mapA] at hy
    split at hy <;> cases hy
    rename_i l hgo
    obtain ⟨k1, k2⟩ := lst hl ih hgo
    exact .func k1 k2
  | mp how hb hn hd hk hv =>
    intro y hy
    simp only [AV.mapA] at hy
    split at hy <;> cases hy
    rename_i t ht
    exact .mp (hm _ _ _ ht how) hb hn hd hk (by rw [hst]; exact hv)
  | mpr => intro y hy; simp only [AV.mapA] at hy; cases hy
  | stkn tok sz =>
    intro y hy
    simp only [AV.mapA] at hy
    split at hy <;> cases hy
    exact .stkn _ _
  | stke tok sz a =>
    intro y hy
    simp only [AV.mapA] at hy
    split at hy <;> cases hy
    exact .stke _ _ _
  | stk how hb hcs hlen hsz hone hst' hr =>
    intro y hy
    simp only [AV.mapA] at hy
    split at hy <;> cases hy
    rename_i t ht
    exact .stk (hm _ _ _ ht how) hb hcs hlen hsz hone (by rw [hst]; exact hst') (by rw [hst]; exact hr)
  | sem => intro y hy; simp only [AV.mapA] at hy; cases hy
  | it => intro y hy; simp only [AV.mapA] at hy; cases hy
  | vecp how hb hcs hcap hsz hst' hr hty =>
    intro y hy
    simp only [AV.mapA] at hy
    split at hy <;> cases hy
    rename_i t ht
    exact .vecp (hm _ _ _ ht how) hb hcs hcap hsz (by rw [hst]; exact hst') (by rw [hst]; exact hr) hty
  | elp => intro y hy; simp only [AV.mapA] at hy; cases hy

def mapO (m : Nat → Option Nat) : List (Nat × List AV) → Option (List (Nat × List AV))
  | [] => some []
  | (i, cs) :: r => match m i, AV.mapA.go m cs, mapO m r with
    | some j, some l, some q => some ((j, l) :: q)
    | _, _, _ => none

/-- Objects behind a change of names. -/
theorem mapO_rep {m : Nat → Option Nat} {w : World} {g g' : Gh} (hst : g'.st = g.st) (hm : ∀ i j b, m i = some j → g.ow i = some b → g'.ow j = some b) :
    ∀ {l l' : List (Nat × List AV)}, mapO m l = some l' → (∀ p ∈ l, ObRep w g p.1 p.2) → ∀ p ∈ l', ObRep w g' p.1 p.2
  | [], l', h, _, p, hc => by simp only [mapO, Option.some.injEq] at h; subst h; simp at hc
  | (i, ds) :: r, l', h, hl, p, hc => by
    simp only [mapO] at h
    split at h
    · rename_i j l q hj hgo hq
      cases h
      rcases List.mem_cons.1 hc with rfl | hc
      · obtain ⟨b, c, e, k1, k2, k3, k4, k5⟩ := hl (i, ds) (by simp)
        obtain ⟨m1, m2⟩ := mapA_go hgo
        refine ⟨b, c, e, hm _ _ _ hj k1, k2, by simp only at k3 ⊢; omega, by rw [hst]; exact k4, fun n x hx => ?_⟩
        have hn : n < ds.length := by have := (List.getElem?_eq_some_iff.1 hx).1; simp only at this; omega
        obtain ⟨v, hv, hr⟩ := k5 n ds[n] (List.getElem?_eq_getElem hn)
        exact ⟨v, hv, mapA_rep hst hm hr (m2 n _ _ (List.getElem?_eq_getElem hn) hx)⟩
      · exact mapO_rep hst hm hq (fun p hp => hl p (by simp [hp])) p hc
    · cases h

theorem look_mem {α : Type} : ∀ {l : List (Nat × α)} {i : Nat} {x : α}, look l i = some x → (i, x) ∈ l
  | [], i, x, h => by simp [look] at h
  | (j, y) :: r, i, x, h => by
    rw [look_cons] at h
    split at h
    · rename_i e; subst e; cases h; simp
    · simp [look_mem h]

theorem look_append {α : Type} : ∀ (l q : List (Nat × α)) (i : Nat), look (l ++ q) i = match look l i with | some x => some x | none => look q i
  | [], q, i => by simp [look]
  | (j, y) :: r, q, i => by
    simp only [List.cons_append, look_cons, look_append r q i]
    split <;> rfl

/-- What a call that is handed objects leaves. -/
structure AfterO (w : World) (g : Gh) (w' : World) (g' : Gh) : Prop where
  os : w'.os = w.os
  out : w'.output = w.output
  tape : w'.tape = w.tape
  size : w.heap.size ≤ w'.heap.size
  fr : ∀ b, b < w.heap.size → (∀ i, g.ow i ≠ some b) → w'.heap[b]? = w.heap[b]?
  own : ∀ i b, g'.ow i = some b → b < w'.heap.size ∧ (w.heap.size ≤ b ∨ ∃ j, g.ow j = some b)
  inj : ∀ i j b, g'.ow i = some b → g'.ow j = some b → i = j
  lt : ∀ b o, g'.st b o → b < w'.heap.size
  stf : ∀ b, b < w.heap.size → (∀ i, g.ow i ≠ some b) → ∀ o, g'.st b o ↔ g.st b o
  owf : ∀ i, M1 ≤ i → i < 2 * M1 → g'.ow i = g.ow i
  sh : ShapesH g.ow w w'
  nst : ∀ i b, M1 ≤ i → g.ow i = some b → ∀ o, ¬ g'.st b o
  ev : Ev w g.st w' g'.st

def OCalls (P : Program) (f : FuncId) (args : List AV) (obs : List (Nat × List AV)) (R : AV → List (Nat × List AV) → Prop) : Prop :=
  ∀ (w : World) (g : Gh) (vs : Array Value), Ok0 w g.st → (∀ i b, g.ow i = some b → b < w.heap.size ∧ i < 2 * M1) →
    (∀ i j b, g.ow i = some b → g.ow j = some b → i = j) → (∀ i b, M1 ≤ i → g.ow i = some b → ∀ o, ¬ g.st b o) → vs.size = args.length →
    (∀ (i : Nat) c v, args[i]? = some c → vs[i]? = some v → ARep w g c v) → (∀ id cs, look obs id = some cs → ObRep w g id cs) →
    Calls P f vs w fun e w' => ∃ v r obs' g', e = .returned v ∧ R r obs' ∧ ARep w' g' r v ∧ (∀ p ∈ obs', ObRep w' g' p.1 p.2) ∧ AfterO w g w' g'

def argSlotsA (args : List AV) : List (Nat × AV) := (args.zipIdx).map fun (x, i) => (i, x)

theorem look_argSlotsA (args : List AV) : ∀ (k i : Nat), look ((args.zipIdx k).map fun (x, i) => (i, x)) i = if k ≤ i then args[i - k]? else none := by
  induction args with
  | nil => intro k i; simp [look]
  | cons x r ih =>
    intro k i
    simp only [List.zipIdx_cons, List.map_cons, look_cons, ih]
    by_cases e : k = i
    · subst e; simp
    · rw [if_neg e]
      by_cases h : k ≤ i
      · rw [if_pos (by omega), if_pos h]
        have : i - k = (i - (k + 1)) + 1 := by omega
        rw [this]; simp
      · rw [if_neg (by omega), if_neg h]

/-- Names of what is handed back: the local identities of ts, in order, are 2 * M1, 2 * M1 + 1, .. -/
def retM (ts : List Nat) (i : Nat) : Option Nat := bif Nat.ble M1 i then (bif Nat.blt i MZ then some i else none) else match ts.findIdx? (Nat.beq i) with
  | some k => some (2 * M1 + k)
  | none => none

def pickO (ob : List (Nat × List AV)) : List Nat → Option (List (Nat × List AV))
  | [] => some []
  | i :: r => match look ob i, pickO ob r with
    | some cs, some l => some ((i, cs) :: l)
    | _, _ => none

theorem pickO_mem {ob : List (Nat × List AV)} : ∀ {ids : List Nat} {l : List (Nat × List AV)}, pickO ob ids = some l → ∀ p ∈ l, look ob p.1 = some p.2
  | [], l, h, p, hp => by simp only [pickO, Option.some.injEq] at h; subst h; simp at hp
  | i :: r, l, h, p, hp => by
    simp only [pickO] at h
    split at h
    · rename_i cs l' hcs hl'
      cases h
      rcases List.mem_cons.1 hp with rfl | hp
      · exact hcs
      · exact pickO_mem hl' p hp
    · cases h

def nodupB : List Nat → Bool
  | [] => true
  | x :: r => !(r.any (Nat.beq x)) && nodupB r

theorem nodupB_spec : ∀ {l : List Nat}, nodupB l = true → ∀ (i j x : Nat), l[i]? = some x → l[j]? = some x → i = j
  | [], _, i, j, x, h, _ => by simp at h
  | y :: r, h, i, j, x, hi, hj => by
    simp only [nodupB, Bool.and_eq_true, Bool.not_eq_true', List.any_eq_false] at h
    cases i with
    | zero =>
      cases j with
      | zero => rfl
      | succ j =>
        simp only [List.getElem?_cons_zero, Option.some.injEq, List.getElem?_cons_succ] at hi hj
        subst hi
        exact absurd (by simp) (h.1 y (List.mem_of_getElem? hj))
    | succ i =>
      cases j with
      | zero =>
        simp only [List.getElem?_cons_zero, Option.some.injEq, List.getElem?_cons_succ] at hi hj
        subst hj
        exact absurd (by simp) (h.1 y (List.mem_of_getElem? hi))
      | succ j =>
        simp only [List.getElem?_cons_succ] at hi hj
        rw [nodupB_spec h.2 i j x hi hj]

/-- What is asked where a body ends that was handed objects: its results under the names by which they are handed back (ts: the local identities that are), and the objects 'ids'. -/
def retQO (fn : Func) (ts ids : List Nat) (R : AV → List (Nat × List AV) → Prop) (e : Exit) (s : AS) : Prop :=
  (e = .normal ∨ e = .ret) ∧ ∃ l r obs obs', resT fn.results.toList s = some l ∧ (resV l).mapA (retM ts) = some r ∧ pickO s.ob ids = some obs ∧ mapO (retM ts) obs = some obs' ∧ R r obs'

theorem retO_mk {fn : Func} {ts ids : List Nat} {R : AV → List (Nat × List AV) → Prop} {s : AS} {l : List AV} {r : AV} {obs obs' : List (Nat × List AV)} (h1 : resT fn.results.toList s = some l) (h2 : (resV l).mapA (retM ts) = some r)
    (h3 : pickO s.ob ids = some obs) (h4 : mapO (retM ts) obs = some obs') (h5 : R r obs') : retQO fn ts ids R .ret s := ⟨.inr rfl, l, r, obs, obs', h1, h2, h3, h4, h5⟩
theorem endO_mk {fn : Func} {ts ids : List Nat} {R : AV → List (Nat × List AV) → Prop} {s : AS} {l : List AV} {r : AV} {obs obs' : List (Nat × List AV)} (h1 : resT fn.results.toList s = some l) (h2 : (resV l).mapA (retM ts) = some r)
    (h3 : pickO s.ob ids = some obs) (h4 : mapO (retM ts) obs = some obs') (h5 : R r obs') : retQO fn ts ids R .normal s := ⟨.inl rfl, l, r, obs, obs', h1, h2, h3, h4, h5⟩

theorem findIdx_spec : ∀ {ts : List Nat} {i k : Nat}, ts.findIdx? (Nat.beq i) = some k → ts[k]? = some i := by
  intro ts i k h
  obtain ⟨h1, h2, _⟩ := List.findIdx?_eq_some_iff_getElem.1 h
  rw [List.getElem?_eq_getElem h1]
  rw [Nat.eq_of_beq_eq_true h2]

theorem ocalls_of_body {P : Program} {tt : List (Nat × TI)} (good : TyGood P tt) {f : FuncId} {fn : Func} {c : Code} {args : List AV} {obs : List (Nat × List AV)} {R : AV → List (Nat × List AV) → Prop} (ts ids : List Nat) (hf : P.funcs[f]? = some fn) (hb : fn.body = some c)
    (hn : args.length ≤ fn.ntmps) (hnl : Nat.ble fn.ntmps M1 = true) (hts : ts.all (fun i => Nat.blt i M1) = true) (hnd : nodupB ts = true)
    (h : ∀ w0 F, awp ⟨P, tt, good, fn.ntmps, hnl, w0, F⟩ c (retQO fn ts ids R) ⟨argSlotsA args, obs⟩) : OCalls P f args obs R := by
  intro w g vs hlt hown hinj hnst h1 h2 hobs
  refine calls_of_wp hf hb ?_
  have hs : St fn.ntmps ⟨w, g.st, g.ow, hlt.gl, (fun i b h => Nat.lt_of_lt_of_le (hown i b h).2 M1_MZ), []⟩ (fun b => b < w.heap.size ∧ ∀ i, g.ow i ≠ some b) g ⟨argSlotsA args, obs⟩ { tmps := vs ++ Array.replicate (fn.ntmps - vs.size) Go.undef, defers := [] } w := by
    refine ⟨rfl, ?_, ?_, hobs, hinj, ?_, hlt.lt, ?_, ?_, rfl, rfl, rfl, Nat.le_refl _, fun b _ o => Iff.rfl, fun _ _ _ => rfl, ShapesH.refl _ _, fun i b hi h => hnst i b hi h, Ev.refl _ _⟩
    · simp only [Array.size_append, Array.size_replicate]; omega
    · intro i
      have := look_argSlotsA args 0 i
      simp only [AS.get, argSlotsA, this, Nat.zero_le, if_true, Nat.sub_zero]
      cases ha : args[i]? with
      | none => exact .undef _
      | some x =>
        have hi : i < args.length := (List.getElem?_eq_some_iff.1 ha).1
        have hi2 : i < vs.size := by omega
        have e : (vs ++ Array.replicate (fn.ntmps - vs.size) Go.undef).getD i Go.undef = vs[i] := by
          simp [Array.getD_eq_getD_getElem?, Array.getElem?_append, hi2]
        simp only [Option.getD_some]
        rw [e]
        exact h2 i x _ ha (Array.getElem?_eq_getElem hi2)
    · intro i b hi; exact ⟨(hown i b hi).1, fun h => h.2 i hi⟩
    · intro b h; exact h.1
    · intro b h; rfl
  refine wp_mono (h ⟨w, g.st, g.ow, hlt.gl, (fun i b h => Nat.lt_of_lt_of_le (hown i b h).2 M1_MZ), []⟩ _ g _ w hs) ?_
  rintro e a' w' ⟨g1, s', h3, he, l, r, obs1, obs', hl, hr, hp, hm, hR⟩
  obtain ⟨v, hv, hvr⟩ := results_run (P := P) h3 fn l hl
  have hown3 : ∀ i b, M1 ≤ i → i < MZ → g1.ow i = some b → i < 2 * M1 := by
    intro i b hi hz hb
    rw [h3.owf i hi hz] at hb
    exact (hown i b hb).2
  have hmap : ∀ i j b, retM ts i = some j → g1.ow i = some b → (if 2 * M1 ≤ j then (ts[j - 2 * M1]?).bind g1.ow else if M1 ≤ j then g1.ow j else none) = some b := by
    intro i j b hij hb
    unfold retM at hij
    cases hle : Nat.ble M1 i
    · rw [hle] at hij
      simp only [cond_false] at hij
      split at hij
      · rename_i k hk
        cases hij
        rw [if_pos (by omega), Nat.add_sub_cancel_left, findIdx_spec hk]
        exact hb
      · cases hij
    · rw [hle] at hij
      simp only [cond_true] at hij
      cases hz : Nat.blt i MZ <;> rw [hz] at hij <;> simp only [cond_true, cond_false, Option.some.injEq, reduceCtorEq] at hij
      subst hij
      have h4 := Nat.le_of_ble_eq_true hle
      have h5 := hown3 i b h4 (Nat.blt_eq ▸ hz) hb
      rw [if_neg (by omega), if_pos h4]
      exact hb
  have hts' : ∀ (k t : Nat), ts[k]? = some t → t < M1 := by
    intro k t hk
    have := List.all_eq_true.1 hts t (List.mem_of_getElem? hk)
    exact Nat.blt_eq ▸ this
  have inv : ∀ j b, (if 2 * M1 ≤ j then (ts[j - 2 * M1]?).bind g1.ow else if M1 ≤ j then g1.ow j else none) = some b →
      (∃ t, ts[j - 2 * M1]? = some t ∧ 2 * M1 ≤ j ∧ g1.ow t = some b) ∨ (M1 ≤ j ∧ j < 2 * M1 ∧ g1.ow j = some b) := by
    intro j b h
    by_cases e1 : 2 * M1 ≤ j
    · rw [if_pos e1] at h
      obtain ⟨t, ht, hb⟩ := Option.bind_eq_some_iff.1 h
      exact .inl ⟨t, ht, e1, hb⟩
    · rw [if_neg e1] at h
      by_cases e2 : M1 ≤ j
      · rw [if_pos e2] at h; exact .inr ⟨e2, by omega, h⟩
      · rw [if_neg e2] at h; cases h
  have hst0 : (⟨g1.st, fun j => if 2 * M1 ≤ j then (ts[j - 2 * M1]?).bind g1.ow else if M1 ≤ j then g1.ow j else none⟩ : Gh).st = g1.st := rfl
  have fin : ∃ v, (results fn a'.tmps).run P w' = .ok v w' ∧ ∃ v1 r obs' g', Ending.returned v = .returned v1 ∧ R r obs' ∧ ARep w' g' r v1 ∧ (∀ p ∈ obs', ObRep w' g' p.1 p.2) ∧ AfterO w g w' g' := by
    refine ⟨v, hv, v, r, obs', ⟨g1.st, fun j => if 2 * M1 ≤ j then (ts[j - 2 * M1]?).bind g1.ow else if M1 ≤ j then g1.ow j else none⟩, rfl, hR, mapA_rep hst0 hmap hvr hr, mapO_rep hst0 hmap hm (fun p hp' => h3.ob p.1 p.2 (pickO_mem hp p hp')), ?_⟩
    refine ⟨h3.os, h3.out, h3.tape, h3.size, fun b hb hno => h3.fr b ⟨hb, hno⟩, fun i b hi => ?_, fun i j b hi hj => ?_, h3.lt, fun b hb hno => h3.stf b ⟨hb, hno⟩, fun i h1 h2 => ?_, h3.shf, h3.nst, h3.ev0⟩
    · have key : ∀ t, g1.ow t = some b → b < w'.heap.size ∧ (w.heap.size ≤ b ∨ ∃ j, g.ow j = some b) := by
        intro t ht
        obtain ⟨k1, k2⟩ := h3.own t b ht
        refine ⟨k1, ?_⟩
        by_cases hb : w.heap.size ≤ b
        · exact .inl hb
        · refine .inr ?_
          by_cases hex : ∃ j, g.ow j = some b
          · exact hex
          · exact absurd ⟨by omega, fun i hi => hex ⟨i, hi⟩⟩ k2
      rcases inv i b hi with ⟨t, _, _, ht⟩ | ⟨_, _, ht⟩
      · exact key t ht
      · exact key i ht
    · rcases inv i b hi with ⟨t, a1, a2, a3⟩ | ⟨a1, a2, a3⟩ <;> rcases inv j b hj with ⟨u, b1, b2, b3⟩ | ⟨b1, b2, b3⟩
      · have := h3.inj t u b a3 b3
        subst this
        have := nodupB_spec hnd _ _ _ a1 b1
        omega
      · have := h3.inj t j b a3 b3
        have := hts' _ t a1
        omega
      · have := h3.inj i u b a3 b3
        have := hts' _ u b1
        omega
      · exact h3.inj i j b a3 b3
    · dsimp only
      rw [if_neg (by omega), if_pos h1]
      exact h3.owf i h1 (Nat.lt_of_lt_of_le h2 M1_MZ)
  rcases he with rfl | rfl
  · exact ⟨h3.nd, fin⟩
  · exact ⟨h3.nd, fin⟩

/-! ### The caller's side -/
def subsA : List AV → List AV → Prop
  | [], [] => True
  | x :: r, y :: q => x.sub y ∧ subsA r q
  | _, _ => False

theorem subsA_spec : ∀ {l q : List AV}, subsA l q → l.length = q.length ∧ ∀ (j : Nat) x y, l[j]? = some x → q[j]? = some y → x.sub y
  | [], [], _ => ⟨rfl, by simp⟩
  | [], _ :: _, h => h.elim
  | _ :: _, [], h => h.elim
  | x :: r, y :: q, h => by
    obtain ⟨h1, h2⟩ := subsA_spec h.2
    refine ⟨by simp [h1], fun j x' y' hx hy => ?_⟩
    cases j with
    | zero => simp only [List.getElem?_cons_zero, Option.some.injEq] at hx hy; subst hx hy; exact h.1
    | succ j => simp only [List.getElem?_cons_succ] at hx hy; exact h2 j x' y' hx hy

/-- Names by which the callee knows what it is handed: ids, in order, are M1, M1 + 1, .. -/
def passM (ids : List Nat) (i : Nat) : Option Nat := match ids.findIdx? (Nat.beq i) with
  | some k => some (M1 + k)
  | none => none

/-- Names by which the caller knows what it gets back. -/
def backM (ids : List Nat) (NB NE : Nat) (j : Nat) : Option Nat := bif Nat.ble (2 * M1) j then (bif Nat.blt (NB + (j - 2 * M1)) NE then some (NB + (j - 2 * M1)) else none) else bif Nat.ble M1 j then ids[j - M1]? else none

theorem backM_spec {ids : List Nat} {NB NE j i : Nat} (h : backM ids NB NE j = some i) : (∃ k, j = 2 * M1 + k ∧ i = NB + k ∧ i < NE) ∨ (M1 ≤ j ∧ j < 2 * M1 ∧ ids[j - M1]? = some i) := by
  generalize hm : 2 * M1 = m at *
  unfold backM at h
  rw [hm] at h
  rcases Nat.lt_or_ge j m with hlt | hge
  · have e1 : Nat.ble m j = false := by
      cases hq : Nat.ble m j
      · rfl
      · have := Nat.le_of_ble_eq_true hq; omega
    rw [e1, cond_false] at h
    cases h2 : Nat.ble M1 j
    · rw [h2, cond_false] at h; cases h
    · rw [h2, cond_true] at h
      exact .inr ⟨Nat.le_of_ble_eq_true h2, hlt, h⟩
  · obtain ⟨k, rfl⟩ := Nat.le.dest hge
    rw [Nat.ble_eq_true_of_le hge, cond_true, Nat.add_sub_cancel_left] at h
    cases h2 : Nat.blt (NB + k) NE
    · rw [h2, cond_false] at h; cases h
    · rw [h2, cond_true] at h
      cases h
      exact .inl ⟨k, rfl, rfl, by rw [← Nat.blt_eq]; exact h2⟩

section
variable {C : Cx} {o : Oper} {K : AS → Prop} {sl : List (Nat × AV)} {ob : List (Nat × List AV)} {d : Nat}

theorem ok_callO (ids : List Nat) (NB NE : Nat) {f : FuncId} {args : Array Operand} {ts : Array TypeId} {l l' q : List AV} {obs obs0 qo : List (Nat × List AV)} {R : AV → List (Nat × List AV) → Prop} (hc : OCalls C.P f q qo R) (ho : o.op = .call { callee := .value (.func f), args := args, argTypes := ts })
    (hd : o.dst = some d) (hn : Nat.blt d C.n = true) (hl : argsA sl args.toList = some l) (hl' : AV.mapA.go (passM ids) l = some l') (hq : subsA l' q) (hpk : pickO ob ids = some obs) (hmo : mapO (passM ids) obs = some obs0) (hqo : leO obs0 qo)
    (hnd : nodupB ids = true) (hids : ids.all (fun i => Nat.blt i M1) = true) (hil : Nat.ble ids.length M1 = true) (hdl : Nat.ble NE M1 = true) (hdis : ids.all (fun i => !(Nat.ble NB i && Nat.blt i NE)) = true)
    (henter : ∀ vs w, (callFunc f vs).run C.P w = .ok (.enter f vs) w)
    (hK : ∀ r obs', R r obs' → ∃ r' ob', r.mapA (backM ids NB NE) = some r' ∧ mapO (backM ids NB NE) obs' = some ob' ∧
      K ⟨(d, r') :: (demS (fun i => Nat.ble NB i && Nat.blt i NE) ⟨sl, ob⟩).sl, ob' ++ (demS (fun i => Nat.ble NB i && Nat.blt i NE) ⟨sl, ob.filter fun p => !(ids.any (Nat.beq p.1))⟩).ob⟩) : OpOk C o K ⟨sl, ob⟩ := by
  have hidl : ∀ (k i : Nat), ids[k]? = some i → i < M1 := fun k i h => by
    have := List.all_eq_true.1 hids i (List.mem_of_getElem? h)
    exact Nat.blt_eq ▸ this
  have hidD : ∀ (k i : Nat), ids[k]? = some i → (Nat.ble NB i && Nat.blt i NE) = false := fun k i h => by
    have := List.all_eq_true.1 hdis i (List.mem_of_getElem? h)
    simpa only [Bool.not_eq_true'] using this
  have hD : ∀ i, (Nat.ble NB i && Nat.blt i NE) = true → NB ≤ i ∧ i < NE := fun i h => by
    simp only [Bool.and_eq_true] at h
    exact ⟨Nat.le_of_ble_eq_true h.1, Nat.blt_eq ▸ h.2⟩
  have hdl' := Nat.le_of_ble_eq_true hdl
  have hil' := Nat.le_of_ble_eq_true hil
  intro g a w hs
  obtain ⟨a1, a2⟩ := argsA_spec hs _ l hl
  obtain ⟨gc, hgc⟩ : ∃ gc : Gh, gc = ⟨g.st, fun j => if M1 ≤ j then (ids[j - M1]?).bind g.ow else none⟩ := ⟨_, rfl⟩
  have hgst : gc.st = g.st := by rw [hgc]
  have gcinv : ∀ j b, gc.ow j = some b → ∃ i, ids[j - M1]? = some i ∧ M1 ≤ j ∧ j < 2 * M1 ∧ g.ow i = some b := by
    intro j b h
    rw [hgc] at h
    dsimp only at h
    by_cases e : M1 ≤ j
    · rw [if_pos e] at h
      obtain ⟨i, h1, h2⟩ := Option.bind_eq_some_iff.1 h
      have := (List.getElem?_eq_some_iff.1 h1).1
      exact ⟨i, h1, e, by omega, h2⟩
    · rw [if_neg e] at h; cases h
  have hpm : ∀ i j b, passM ids i = some j → g.ow i = some b → gc.ow j = some b := by
    intro i j b h hb
    unfold passM at h
    split at h
    · rename_i k hk
      cases h
      rw [hgc]
      dsimp only
      rw [if_pos (by omega), Nat.add_sub_cancel_left, findIdx_spec hk]
      exact hb
    · cases h
  have hidob : ∀ (k i : Nat), ids[k]? = some i → ∃ cs, look ob i = some cs := by
    have : ∀ (ids : List Nat) (obs : List (Nat × List AV)), pickO ob ids = some obs → ∀ (k i : Nat), ids[k]? = some i → ∃ cs, look ob i = some cs := by
      intro ids
      induction ids with
      | nil => intro obs _ k i h; simp at h
      | cons x r ih =>
        intro obs h k i hk
        simp only [pickO] at h
        split at h
        · rename_i cs l0 h1 h2
          cases k with
          | zero => simp only [List.getElem?_cons_zero, Option.some.injEq] at hk; subst hk; exact ⟨cs, h1⟩
          | succ k => simp only [List.getElem?_cons_succ] at hk; exact ih l0 h2 k i hk
        · cases h
    exact this ids obs hpk
  have hnst : ∀ j b, gc.ow j = some b → ∀ o, ¬ g.st b o := by
    intro j b h o ho
    obtain ⟨i, h1, _, _, h4⟩ := gcinv j b h
    obtain ⟨cs, hcs⟩ := hidob _ i h1
    obtain ⟨b', c, e, k1, _, _, k4, _⟩ := hs.ob i cs hcs
    rw [h4] at k1; cases k1
    exact k4 o ho
  obtain ⟨m1, m2⟩ := mapA_go hl'
  obtain ⟨b1, b2⟩ := subsA_spec hq
  have hargs : ∀ (i : Nat) c v, q[i]? = some c → (args.map a.eval)[i]? = some v → ARep w gc c v := by
    intro i c v hc hv
    have hi' : i < l'.length := by have := (List.getElem?_eq_some_iff.1 hc).1; omega
    have hi : i < l.length := by omega
    have hv' : (args.toList.map a.eval)[i]? = some v := by rw [← Array.toList_map]; simpa using hv
    have h1 := a2 i _ v (List.getElem?_eq_getElem hi) hv'
    have h2 := mapA_rep hgst hpm h1 (m2 i _ _ (List.getElem?_eq_getElem hi) (List.getElem?_eq_getElem hi'))
    exact b2 i _ c (List.getElem?_eq_getElem hi') hc w gc v h2
  have hobs0 := mapO_rep hgst hpm hmo (fun p hp => hs.ob p.1 p.2 (pickO_mem hpk p hp))
  have hqo' : ∀ id cs, look qo id = some cs → ObRep w gc id cs := by
    intro id cs h
    obtain ⟨ds, h1, h2⟩ := leO_look hqo id cs h
    obtain ⟨k1, k2⟩ := subL_spec h2
    obtain ⟨b, c, e, n1, n2, n3, n4, n5⟩ := hobs0 (id, ds) (look_mem h1)
    refine ⟨b, c, e, n1, n2, by simp only at n3; omega, n4, fun i x hx => ?_⟩
    have hi : i < ds.length := by have := (List.getElem?_eq_some_iff.1 hx).1; omega
    obtain ⟨v, hv, hr⟩ := n5 i ds[i] (List.getElem?_eq_getElem hi)
    exact ⟨v, hv, k2 i x _ hx (List.getElem?_eq_getElem hi) _ _ _ hr⟩
  have hcall := hc w gc (args.map a.eval) (by rw [hgst]; exact hs.ok0) (fun j b h => by
      obtain ⟨i, h1, h2, h3, h4⟩ := gcinv j b h
      exact ⟨(hs.own i b h4).1, h3⟩) (fun i j b h1 h2 => by
      obtain ⟨i', p1, p2, _, p3⟩ := gcinv i b h1
      obtain ⟨j', q1, q2, _, q3⟩ := gcinv j b h2
      have := hs.inj i' j' b p3 q3
      subst this
      have := nodupB_spec hnd _ _ _ p1 q1
      omega) (fun j b _ h => by rw [hgst]; exact hnst j b h) (by have hlen := a1.symm.trans (m1.trans b1); simpa using hlen) hargs hqo'
  unfold Oper.wp
  have hrun : (execOp a.eval o).run C.P w = .ok (.enter f (args.map a.eval)) w := by
    simp [execOp, ho, resolve, Act.eval, Deferred.ofValue, invoke, henter]
  rw [hrun]
  simp only [Oper.upon]
  refine hcall.mono fun e w' ⟨v, r, obs', g', he, hR, hr, hob', hA⟩ => ?_
  subst he
  obtain ⟨r', ob', hr', hmo', hK'⟩ := hK r obs' hR
  have nogc : ∀ i b, (∀ (k : Nat), ids[k]? ≠ some i) → g.ow i = some b → ∀ j, gc.ow j ≠ some b := by
    intro i b hi hb j hj
    obtain ⟨i', p1, _, _, p3⟩ := gcinv j b hj
    have := hs.inj i i' b hb p3
    subst this
    exact hi _ p1
  have stno : ∀ b o, g.st b o → ∀ j, gc.ow j ≠ some b := fun b o h j hj => hnst j b hj o h
  obtain ⟨g2, hg2⟩ : ∃ g2 : Gh, g2 = ⟨g'.st, fun i => if (Nat.ble NB i && Nat.blt i NE) = true then g'.ow (2 * M1 + (i - NB)) else g.ow i⟩ := ⟨_, rfl⟩
  have hg2st : g2.st = g'.st := by rw [hg2]
  have g2old : ∀ i, (Nat.ble NB i && Nat.blt i NE) = false → g2.ow i = g.ow i := fun i h => by rw [hg2]; simp only [h]; rfl
  have g2new : ∀ i, (Nat.ble NB i && Nat.blt i NE) = true → g2.ow i = g'.ow (2 * M1 + (i - NB)) := fun i h => by rw [hg2]; simp only [h, if_true]
  have hDM : ∀ i, M1 ≤ i → (Nat.ble NB i && Nat.blt i NE) = false := fun i hi => by
    cases hq : (Nat.ble NB i && Nat.blt i NE)
    · rfl
    · have := hD i hq; omega
  have hbm : ∀ j i b, backM ids NB NE j = some i → g'.ow j = some b → g2.ow i = some b := by
    intro j i b h hb
    rcases backM_spec h with ⟨k, rfl, rfl, h4⟩ | ⟨h3, h4, h5⟩
    · rw [g2new (NB + k) (by
        simp only [Bool.and_eq_true]
        exact ⟨Nat.ble_eq_true_of_le (Nat.le_add_right _ _), by rw [Nat.blt_eq]; exact h4⟩), Nat.add_sub_cancel_left]
      exact hb
    · rw [g2old i (hidD _ i h5)]
      rw [hA.owf j h3 h4] at hb
      obtain ⟨i', p1, _, _, p3⟩ := gcinv j b hb
      rw [h5] at p1; cases p1
      exact p3
  have hE : EvO (fun i => Nat.ble NB i && Nat.blt i NE) w g w' g2 := by
    refine ⟨fun b o h => ?_, fun id b hq h => by rw [g2old id hq]; exact h, fun id b c e hq h0 h => ?shape, fun id b o hq h ho => ?_, fun id b es k hq h0 h => ?mpc, fun i hi => hDM i (M1_lt hi), fun id b o hq h0 ho => ?stb⟩
    case stb =>
      have hlt := (hs.own id b h0).1
      by_cases hno : ∃ j, gc.ow j = some b
      · obtain ⟨j, hj⟩ := hno
        obtain ⟨i', p1, _, _, p3⟩ := gcinv j b hj
        obtain ⟨cs, hcs⟩ := hidob _ i' p1
        obtain ⟨b', c, e, k1, k2, _, k4, _⟩ := hs.ob i' cs hcs
        rw [p3] at k1; cases k1
        exact absurd ho (k4 o)
      · exact hA.fr b hlt (fun j hj => hno ⟨j, hj⟩)
    case mpc =>
      have hlt := (hs.own id b h0).1
      by_cases hno : ∃ j, gc.ow j = some b
      · obtain ⟨j, hj⟩ := hno
        obtain ⟨i', p1, _, _, p3⟩ := gcinv j b hj
        obtain ⟨cs, hcs⟩ := hidob _ i' p1
        obtain ⟨b', c, e, k1, k2, _⟩ := hs.ob i' cs hcs
        rw [p3] at k1; cases k1
        rw [k2] at h; cases h
      · exact (hA.fr b hlt (fun j hj => hno ⟨j, hj⟩)).trans h
    case shape =>
      have hlt := (hs.own id b h0).1
      by_cases hno : ∃ j, gc.ow j = some b
      · obtain ⟨j, hj⟩ := hno
        obtain ⟨_, _, p2, _, _⟩ := gcinv j b hj
        exact hA.sh j b c e p2 hj h
      · exact ⟨c, (hA.fr b hlt (fun j hj => hno ⟨j, hj⟩)).trans h, rfl⟩
    · have hlt := hs.lt b o h
      have hno := stno b o h
      refine ⟨by rw [hg2st]; exact (hA.stf b hlt hno o).2 (by rw [hgst]; exact h), ?_⟩
      simp only [World.cell?, hA.fr b hlt hno]
    · rw [hg2st] at ho
      have hlt := (hs.own id b h).1
      by_cases hno : ∃ j, gc.ow j = some b
      · obtain ⟨j, hj⟩ := hno
        obtain ⟨_, _, p2, _, _⟩ := gcinv j b hj
        exact absurd ho (hA.nst j b p2 hj o)
      · have := (hA.stf b hlt (fun j hj => hno ⟨j, hj⟩) o).1 ho
        rw [hgst] at this; exact this
  have hs' : St C.n C.w0 C.F g2 ⟨(demS (fun i => Nat.ble NB i && Nat.blt i NE) ⟨sl, ob⟩).sl, ob' ++ (demS (fun i => Nat.ble NB i && Nat.blt i NE) ⟨sl, ob.filter fun p => !(ids.any (Nat.beq p.1))⟩).ob⟩ a w' := by
    refine ⟨hs.nd, hs.sz, fun i => ?_, fun id cs h => ?_, fun i j b h1 h2 => ?_, fun i b h => ?_, by rw [hg2st]; exact hA.lt, hs.fl, fun b h => ?_, hA.os.trans hs.os, hA.out.trans hs.out, hA.tape.trans hs.tape, Nat.le_trans hs.size hA.size, fun b h o => ?_, fun i h hz => ?_, hs.shf.next (fun i b c e hi hb h => hE.shape i b c e (hDM i hi) ((hs.owf i hi (C.w0.lo i b hb)).trans hb) h), fun i b h1 h2 o h3 => ?_, hs.ev0.trans hE.ev⟩
    · have h := (hs.sl i).dem hE
      simp only [AS.get, demS, look_map]
      simp only [AS.get] at h
      cases hl : look sl i with
      | none => simp only [Option.map_none, Option.getD_none]; exact .undef _
      | some x => rw [hl] at h; simpa using h
    · dsimp only at h
      rw [look_append] at h
      split at h
      · rename_i x hx
        cases h
        exact mapO_rep hg2st hbm hmo' hob' (id, cs) (look_mem hx)
      · have hf1 := look_filter (fun i => Nat.ble NB i && Nat.blt i NE) (ob.filter fun p => !(ids.any (Nat.beq p.1))) id
        simp only [demS, look_map] at h
        rw [hf1] at h
        cases hDi : (Nat.ble NB id && Nat.blt id NE)
        · simp only [hDi, Bool.false_eq_true, if_false, Option.map_eq_some_iff] at h
          have hf := look_filter (fun i => ids.any (Nat.beq i)) ob id
          rw [hf] at h
          cases hany : ids.any (Nat.beq id)
          · rw [hany] at h
            simp only [Bool.false_eq_true, if_false] at h
            obtain ⟨ds, h1, rfl⟩ := h
            have hni : ∀ (k : Nat), ids[k]? ≠ some id := fun k hk => by
              rw [List.any_eq_false] at hany
              exact hany id (List.mem_of_getElem? hk) (by simp)
            obtain ⟨b, c, e, k1, k2, k3, k4, k5⟩ := hs.ob id ds h1
            have hlt := (hs.own id b k1).1
            have hno := nogc id b hni k1
            refine ⟨b, c, e, by rw [g2old id hDi]; exact k1, (hA.fr b hlt hno).trans k2, by simpa [demL_eq] using k3, fun o ho => ?_, fun i x hx => ?_⟩
            · rw [hg2st] at ho
              have := (hA.stf b hlt hno o).1 ho
              rw [hgst] at this; exact k4 o this
            · simp only [demL_eq, List.getElem?_map, Option.map_eq_some_iff] at hx
              obtain ⟨y, hy, rfl⟩ := hx
              obtain ⟨v, hv, hr⟩ := k5 i y hy
              exact ⟨v, hv, hr.dem hE⟩
          · rw [hany] at h; simp at h
        · simp [hDi] at h
    · have cross : ∀ i j b, (Nat.ble NB i && Nat.blt i NE) = true → (Nat.ble NB j && Nat.blt j NE) = false → g2.ow i = some b → g2.ow j = some b → False := by
        intro i j b hi hj h1 h2
        rw [g2new i hi] at h1
        rw [g2old j hj] at h2
        have hlt := (hs.own j b h2).1
        rcases (hA.own _ b h1).2 with h3 | ⟨j', hj'⟩
        · omega
        · obtain ⟨_, _, p2, p3, _⟩ := gcinv j' b hj'
          have h4 := hA.owf j' p2 p3
          rw [hj'] at h4
          have := hA.inj _ _ b h1 h4
          omega
      cases hDi : (Nat.ble NB i && Nat.blt i NE) <;> cases hDj : (Nat.ble NB j && Nat.blt j NE)
      · rw [g2old i hDi] at h1; rw [g2old j hDj] at h2; exact hs.inj i j b h1 h2
      · exact (cross j i b hDj hDi h2 h1).elim
      · exact (cross i j b hDi hDj h1 h2).elim
      · rw [g2new i hDi] at h1; rw [g2new j hDj] at h2
        have := hA.inj _ _ b h1 h2
        have := hD i hDi
        have := hD j hDj
        omega
    · cases hDi : (Nat.ble NB i && Nat.blt i NE)
      · rw [g2old i hDi] at h
        have := hs.own i b h
        have := hA.size
        exact ⟨by omega, (hs.own i b h).2⟩
      · rw [g2new i hDi] at h
        obtain ⟨k1, k2⟩ := hA.own _ b h
        refine ⟨k1, fun hF => ?_⟩
        rcases k2 with k2 | ⟨j, hj⟩
        · have := hs.fl b hF; have := hs.size; omega
        · obtain ⟨i', _, _, _, p3⟩ := gcinv j b hj
          exact (hs.own i' b p3).2 hF
    · have hlt : b < w.heap.size := by have := hs.fl b h; have := hs.size; omega
      exact (hA.fr b hlt fun j hj => by
        obtain ⟨i', _, _, _, p3⟩ := gcinv j b hj
        exact (hs.own i' b p3).2 h).trans (hs.fr b h)
    · have hlt : b < w.heap.size := by have := hs.fl b h; have := hs.size; omega
      rw [hg2st]
      have := hA.stf b hlt (fun j hj => by
        obtain ⟨i', _, _, _, p3⟩ := gcinv j b hj
        exact (hs.own i' b p3).2 h) o
      rw [hgst] at this
      exact this.trans (hs.stf b h o)
    · rw [g2old i (hDM i h)]; exact hs.owf i h hz
    · rw [hg2st] at h3
      have h4 : g.ow i = some b := (hs.owf i h1 (C.w0.lo i b h2)).trans h2
      have hlt := (hs.own i b h4).1
      have hno := nogc i b (fun k hk => by have := hidl k i hk; omega) h4
      have := (hA.stf b hlt hno o).1 h3
      rw [hgst] at this
      exact hs.nst i b h1 h2 o this
  have hp := hs'.put (d := o.dst) (fun t ht => by rw [hd] at ht; cases ht; exact Nat.blt_eq ▸ hn) (mapA_rep hg2st hbm hr hr')
  rw [hd] at hp
  simp only
  rw [hd]
  exact ⟨_, _, hp, hK'⟩

end
end Go.Ab
