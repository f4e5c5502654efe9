/- A layer of abstract values over the model's worlds, part R: results that lie in cells, cuts and loops up to what the ghost knows, changes of names, appends and literals in the printed form. It holds for every program. -/
import Derived.Test.YtapfhipodpbflaaGreatDoorAbP
set_option linter.unusedVariables false
set_option linter.unusedSimpArgs false
set_option linter.unnecessarySimpa false
namespace Go.Ab

/-! ### Ghost steps -/
theorem ghost_refl {C : Cx} (s : AS) : Ghost C s s := fun g _ _ hs => ⟨g, hs⟩
theorem ghost_trans {C : Cx} {s t u : AS} (h : Ghost C s t) (k : Ghost C t u) : Ghost C s u := fun g a w hs => by
  obtain ⟨g', hs'⟩ := h g a w hs
  exact k g' a w hs'
theorem ghost_then {C : Cx} {s t u : AS} (h : Ghost C s t) (k : t.le u) : Ghost C s u := ghost_trans h (ghost_le k)
theorem exGh {C : Cx} {s t : AS} {σ : Type} {A : σ → Prop} {mk : σ → AS} (h : Ghost C s t) (k : ∃ v, A v ∧ Ghost C t (mk v)) : ∃ v, A v ∧ Ghost C s (mk v) := by
  obtain ⟨v, h1, h2⟩ := k
  exact ⟨v, h1, ghost_trans h h2⟩

/-- A loop, by its rounds as a function with fuel. -/
theorem awp_loopG {C : Cx} {c : Code} {Q : Exit → AS → Prop} {s : AS} {σ O : Type} (mk : σ → AS) (lp : Nat → σ → Option O) (hz : ∀ q, lp 0 q = none) {o : O} {n : Nat} (q0 : σ) (h0 : lp n q0 = some o) (hle : Ghost C s (mk q0))
    (round : ∀ m q, lp (m + 1) q = some o → awp C c (thenQ (fun s' => ∃ q', lp m q' = some o ∧ Ghost C s' (mk q')) Q) (mk q)) : awp C (.loop c) Q s := by
  refine awp_ghost hle ?_
  intro g a w hs
  let J : Act → World → Nat → Prop := fun a w m => ∃ g q, St C.n C.w0 C.F g (mk q) a w ∧ lp m q = some o
  have hJ : ∀ a w m, J a w m → ∃ m0, J a w m0 ∧ ∀ m', J a w m' → m0 ≤ m' := by
    intro a w m
    induction m using Nat.strongRecOn with
    | _ m ih =>
      intro hm
      by_cases h : ∃ m', m' < m ∧ J a w m'
      · obtain ⟨m', h1, h2⟩ := h; exact ih m' h1 h2
      · exact ⟨m, hm, fun m' h' => Nat.le_of_not_lt fun hlt => h ⟨m', hlt, h'⟩⟩
  let M : Act → World → Nat := fun a w => by
    classical
    exact if h : ∃ m0, J a w m0 ∧ ∀ m', J a w m' → m0 ≤ m' then Classical.choose h else 0
  have hM : ∀ a w m, J a w m → J a w (M a w) ∧ M a w ≤ m := by
    intro a w m hm
    have h := hJ a w m hm
    have e : M a w = Classical.choose h := by simp only [M]; rw [dif_pos h]
    rw [e]
    exact ⟨(Classical.choose_spec h).1, (Classical.choose_spec h).2 m hm⟩
  refine wp_loop (fun a w => ∃ m, J a w m) M ⟨n, g, q0, hs, h0⟩ ?_
  rintro a w ⟨m, hm⟩
  obtain ⟨⟨g1, q1, hs1, hI1⟩, _⟩ := hM a w m hm
  generalize hMm : M a w = mm at hI1
  cases mm with
  | zero => rw [hz] at hI1; cases hI1
  | succ mm =>
    refine wp_mono (round mm q1 hI1 g1 a w hs1) ?_
    rintro e a' w' ⟨g', s', h1, h2⟩
    cases e with
    | normal =>
      obtain ⟨q', hI', hgh⟩ := h2
      obtain ⟨g2, hs2⟩ := hgh g' a' w' h1
      have hj : J a' w' mm := ⟨g2, q', hs2, hI'⟩
      refine ⟨⟨_, hj⟩, ?_⟩
      have := (hM a' w' _ hj).2
      omega
    | exit id => exact ⟨g', s', h1, h2⟩
    | goto l => exact ⟨g', s', h1, h2⟩
    | ret => exact ⟨g', s', h1, h2⟩
    | panic ch => exact ⟨g', s', h1, h2⟩
    | outgrown => exact ⟨g', s', h1, h2⟩

/-! ### Results that lie in cells -/
def resA (tt : List (Nat × TI)) : List ResultVar → AS → Option (List AV)
  | [], _ => some []
  | .tmp t :: r, s => match look s.sl t, resA tt r s with
    | some x, some l => some (x :: l)
    | _, _ => none
  | .cell c t :: r, s => match look s.sl c with
    | some (.ptr id k) => match look s.ob id, look tt t, resA tt r s with
      | some cs, some i, some l => bif i.k.isAgg then (bif Nat.ble (k + i.size) cs.length then some (mkAgg ((cs.drop k).take i.size) :: l) else none) else (match cs[k]? with
        | some y => some (y :: l)
        | none => none)
      | _, _, _ => none
    | _ => none

def retA (tt : List (Nat × TI)) (fn : Func) (R : AV → Prop) (e : Exit) (s : AS) : Prop := (e = .normal ∨ e = .ret) ∧ ∃ l, resA tt fn.results.toList s = some l ∧ R (resV l)

theorem reta_mk {tt : List (Nat × TI)} {fn : Func} {R : AV → Prop} {s : AS} {l : List AV} (h : resA tt fn.results.toList s = some l) (hR : R (resV l)) : retA tt fn R .ret s := ⟨.inr rfl, l, h, hR⟩
theorem enda_mk {tt : List (Nat × TI)} {fn : Func} {R : AV → Prop} {s : AS} {l : List AV} (h : resA tt fn.results.toList s = some l) (hR : R (resV l)) : retA tt fn R .normal s := ⟨.inl rfl, l, h, hR⟩

/-- What a cell of an object is loaded as. -/
theorem run_cellA {P : Program} {tt : List (Nat × TI)} (good : TyGood P tt) {n : Nat} {w0 : Base} {w : World} {F : Nat → Prop} {g : Gh} {s : AS} {a : Act} (hs : St n w0 F g s a w) {c id k t : Nat} {cs : List AV} {i : TI} {y : AV}
    (hc : look s.sl c = some (.ptr id k)) (hob : look s.ob id = some cs) (hi : look tt t = some i)
    (hy : (i.k.isAgg = true ∧ k + i.size ≤ cs.length ∧ y = mkAgg ((cs.drop k).take i.size)) ∨ (i.k.isAgg = false ∧ cs[k]? = some y)) :
    ∃ v, (resF a.tmps (.cell c t)).run P w = .ok v w ∧ ARep w g y v := by
  have h5 := hs.sl c
  simp only [AS.get, hc, Option.getD_some] at h5
  generalize hv : a.tmps.getD c Go.undef = v at h5
  cases h5 with
  | ptr how =>
    rename_i b
    obtain ⟨b', cc, e, k1, k2, k3, k4, k5⟩ := hs.ob id cs hob
    rw [how] at k1; cases k1
    rcases hy with ⟨hia, hl, rfl⟩ | ⟨hia, hy⟩
    · have hcell : ∀ j, j < i.size → w.cell? ⟨b, k + j, none⟩ = some (cc.getD (k + j) Go.undef) := by
        intro j hj
        rw [find_block hs k2]
        have : k + j < cc.size := by omega
        simp [Array.getD, this]
      have hld := run_loadAgg good hi hia (f := fun j => cc.getD (k + j) Go.undef) hcell
      refine ⟨.agg ((List.range i.size).map fun j => cc.getD (k + j) Go.undef).toArray, by simp only [resF, hv, asAddr, Sem.run_bind, Sem.run_pure, Result.andThen_ok, hld], mkAgg_rep (by simp; omega) fun j y v h1 h2 => ?_⟩
      rw [List.getElem?_take] at h1
      split at h1
      · rename_i hj
        rw [List.getElem?_drop] at h1
        obtain ⟨u, hu, hr⟩ := k5 (k + j) y h1
        simp only [List.getElem?_toArray, List.getElem?_map, List.getElem?_range hj, Option.map_some, Option.some.injEq] at h2
        rw [← h2, Array.getD_eq_getD_getElem?, hu]
        exact hr
      · cases h1
    · obtain ⟨u, hu, hr⟩ := k5 k y hy
      have hcc := (find_block hs k2 k).trans hu
      exact ⟨u, by simp only [resF, hv, asAddr, Sem.run_bind, Sem.run_pure, Result.andThen_ok, run_loadOne good hi hia hcc], hr⟩

theorem resA_run {P : Program} {tt : List (Nat × TI)} (good : TyGood P tt) {n : Nat} {w0 : Base} {w : World} {F : Nat → Prop} {g : Gh} {s : AS} {a : Act} (hs : St n w0 F g s a w) (rs : List ResultVar) :
    ∀ l, resA tt rs s = some l → ∃ vs : List Value,
      (rs.mapM (resF a.tmps)).run P w = .ok vs w ∧ vs.length = l.length ∧
        ∀ (i : Nat) c v, l[i]? = some c → vs[i]? = some v → ARep w g c v := by
  induction rs with
  | nil => intro l h; simp only [resA, Option.some.injEq] at h; subst h; exact ⟨[], by simp, rfl, by simp⟩
  | cons r rs ih =>
    intro l h
    have fin : ∀ (y : AV) (l' : List AV) (v : Value), l = y :: l' → resA tt rs s = some l' → (resF a.tmps r).run P w = .ok v w → ARep w g y v → ∃ vs : List Value,
        ((r :: rs).mapM (resF a.tmps)).run P w = .ok vs w ∧ vs.length = l.length ∧ ∀ (i : Nat) c v, l[i]? = some c → vs[i]? = some v → ARep w g c v := by
      intro y l' v e h1 h2 h3
      subst e
      obtain ⟨vs, k1, k2, k3⟩ := ih l' h1
      refine ⟨v :: vs, by simp only [List.mapM_cons, Sem.run_bind, h2, Sem.run_pure, Result.andThen_ok, k1], by simp [k2], fun i c u h5 h6 => ?_⟩
      cases i with
      | zero => simp only [List.getElem?_cons_zero, Option.some.injEq] at h5 h6; subst h5 h6; exact h3
      | succ i => simp only [List.getElem?_cons_succ] at h5 h6; exact k3 i c u h5 h6
    cases r with
    | tmp t =>
      have ht := hs.sl t
      simp only [resA] at h
      split at h
      case h_2 => cases h
      rename_i x l' hx h1
      cases h
      simp only [AS.get, hx, Option.getD_some] at ht
      exact fin x l' _ rfl h1 (by simp only [resF, Sem.run_pure]) ht
    | cell c t =>
      simp only [resA] at h
      split at h
      case h_2 => cases h
      rename_i id k hc
      split at h
      case h_2 => cases h
      rename_i cs i l' hob hi h1
      cases hia : i.k.isAgg
      · rw [hia, cond_false] at h
        split at h
        · rename_i y hy
          cases h
          obtain ⟨v, h2, h3⟩ := run_cellA good hs hc hob hi (.inr ⟨hia, hy⟩)
          exact fin y l' v rfl h1 h2 h3
        · cases h
      · rw [hia, cond_true] at h
        cases hb : Nat.ble (k + i.size) cs.length
        · rw [hb, cond_false] at h; cases h
        · rw [hb, cond_true] at h
          cases h
          obtain ⟨v, h2, h3⟩ := run_cellA good hs hc hob hi (.inl ⟨hia, Nat.le_of_ble_eq_true hb, rfl⟩)
          exact fin _ l' v rfl h1 h2 h3

theorem resultsA_run {P : Program} {tt : List (Nat × TI)} (good : TyGood P tt) {n : Nat} {w0 : Base} {w : World} {F : Nat → Prop} {g : Gh} {s : AS} {a : Act} (hs : St n w0 F g s a w) (fn : Func) (l : List AV) (h : resA tt fn.results.toList s = some l) :
    ∃ v, (results fn a.tmps).run P w = .ok v w ∧ ARep w g (resV l) v := by
  obtain ⟨vs, h2, h3, h4⟩ := resA_run good hs _ l h
  refine ⟨if h : vs.length = 1 then vs[0] else .tuple vs.toArray, ?_, ?_⟩
  · rw [results_eq, Array.mapM_eq_mapM_toList]
    simp only [Sem.run_bind, Sem.run_map, h2, Result.andThen_ok, Sem.run_pure, List.size_toArray]
    congr 1
  · by_cases e : vs.length = 1
    · rw [dif_pos e]
      obtain ⟨v, rfl⟩ := List.length_eq_one_iff.1 e
      obtain ⟨x, rfl⟩ := List.length_eq_one_iff.1 (h3.symm.trans e)
      exact h4 0 x v rfl rfl
    · rw [dif_neg e]
      have e2 : resV l = .tuple l := by
        match l, h3 with
        | [], _ => rfl
        | [x], h3 => exact absurd h3 e
        | x :: y :: r, _ => rfl
      rw [e2]
      exact .tuple (by simpa using h3) (fun i c v h5 h6 => h4 i c v h5 (by simpa using h6))

theorem pbodyA {P : Program} {tt : List (Nat × TI)} (good : TyGood P tt) {f : FuncId} {fn : Func} {c : Code} {args : List PV} {r : AV} (hf : P.funcs[f]? = some fn) (hb : fn.body = some c) (hn : Nat.ble args.length fn.ntmps = true) (hnl : Nat.ble fn.ntmps M1 = true)
    (h : ∀ w0, awp ⟨P, tt, good, fn.ntmps, hnl, w0, fun b => b < w0.w.heap.size⟩ c (retA tt fn (fun x => x.sub r)) ⟨argSlots args, []⟩) : PCalls P f args (· = r) := by
  refine PCalls.of_sub ?_
  intro w st vs h0 h1 h2
  refine calls_of_wp hf hb ?_
  have hn := Nat.le_of_ble_eq_true hn
  have hs : St fn.ntmps ⟨w, st, fun _ => none, h0.gl, (fun _ _ h => nomatch h), []⟩ (fun b => b < w.heap.size) ⟨st, fun _ => none⟩ ⟨argSlots args, []⟩ { tmps := vs ++ Array.replicate (fn.ntmps - vs.size) Go.undef, defers := [] } w := by
    refine ⟨rfl, ?_, ?_, ?_, ?_, ?_, ?_, ?_, ?_, rfl, rfl, rfl, Nat.le_refl _, fun b _ o => Iff.rfl, fun _ _ _ => rfl, ShapesH.refl _ _, fun i b _ h => (by cases h), Ev.refl _ _⟩
    · simp only [Array.size_append, Array.size_replicate]; omega
    · intro i
      have := look_argSlots args 0 i
      simp only [AS.get, argSlots, this, Nat.zero_le, if_true, Nat.sub_zero]
      cases ha : args[i]? with
      | none => exact .undef _
      | some x =>
        have hi : i < args.length := (List.getElem?_eq_some_iff.1 ha).1
        have hi2 : i < vs.size := by omega
        have e : (vs ++ Array.replicate (fn.ntmps - vs.size) Go.undef).getD i Go.undef = vs[i] := by
          simp [Array.getD_eq_getD_getElem?, Array.getElem?_append, hi2]
        simp only [Option.map_some, Option.getD_some]
        rw [e]
        exact .p (h2 i x _ ha (Array.getElem?_eq_getElem hi2))
    · intro id cs h; simp [look] at h
    · intro i j b h; simp at h
    · intro i b h; simp at h
    · intro b o h; exact h0.lt b o h
    · intro b h; exact h
    · intro b h; rfl
  refine wp_mono (h ⟨w, st, fun _ => none, h0.gl, (fun _ _ h => nomatch h), []⟩ _ _ w hs) ?_
  rintro e a' w' ⟨g', s', h3, he, l, hl, hR⟩
  obtain ⟨v, hv, hr⟩ := resultsA_run good h3 fn l hl
  have fin : ∃ v, (results fn a'.tmps).run P w' = .ok v w' ∧ ∃ v1 r1 g', Ending.returned v = .returned v1 ∧ r1.sub r ∧ ARep w' g' r1 v1 ∧ After w st w' g' := by
    refine ⟨v, hv, v, _, g', rfl, hR, hr, ⟨h3.os, h3.out, h3.tape, h3.size, fun b hb => h3.fr b hb, fun i b hi => ?_, h3.inj, h3.lt, h3.stf⟩⟩
    have := h3.own i b hi
    exact ⟨Nat.le_of_not_lt this.2, this.1⟩
  rcases he with rfl | rfl
  · exact ⟨h3.nd, fin⟩
  · exact ⟨h3.nd, fin⟩

/-! ### Names of identities are changed -/
def renM (k d i : Nat) : Option Nat := bif Nat.beq i k then some d else bif Nat.beq i d then none else some i
def renS (k d : Nat) : List (Nat × AV) → Option (List (Nat × AV))
  | [] => some []
  | (i, x) :: r => match x.mapA (renM k d), renS k d r with
    | some y, some q => some ((i, y) :: q)
    | _, _ => none
theorem renS_look {k d : Nat} : ∀ {sl q : List (Nat × AV)}, renS k d sl = some q → ∀ i, match look sl i, look q i with
    | some x, some y => x.mapA (renM k d) = some y
    | none, none => True
    | _, _ => False
  | [], q, h, i => by simp only [renS, Option.some.injEq] at h; subst h; simp [look]
  | (j, x) :: r, q, h, i => by
    simp only [renS] at h
    split at h
    · rename_i y q' hy hq
      cases h
      have ih := renS_look hq i
      simp only [look_cons]
      by_cases e : j = i
      · simp [e, hy]
      · simp only [if_neg e]; exact ih
    · cases h

theorem renM_inj {k d : Nat} (hne : k ≠ d) : ∀ i j x, renM k d i = some x → renM k d j = some x → i = j := by
  intro i j x h1 h2
  unfold renM at h1 h2
  have hb : ∀ {a b : Nat}, Nat.beq a b = true → a = b := Nat.eq_of_beq_eq_true
  have hf : ∀ {a b : Nat}, Nat.beq a b = false → a ≠ b := fun h e => by subst e; simp at h
  cases a1 : Nat.beq i k <;> cases b1 : Nat.beq j k <;> simp only [a1, b1, cond_true, cond_false] at h1 h2
  · cases a2 : Nat.beq i d <;> cases b2 : Nat.beq j d <;> simp only [a2, b2, cond_true, cond_false, reduceCtorEq, Option.some.injEq] at h1 h2
    rw [h1, h2]
  · cases a2 : Nat.beq i d <;> simp only [a2, cond_true, cond_false, reduceCtorEq, Option.some.injEq] at h1 h2
    exact absurd (h1.trans h2.symm) (hf a2)
  · cases b2 : Nat.beq j d <;> simp only [b2, cond_true, cond_false, reduceCtorEq, Option.some.injEq] at h1 h2
    exact absurd (h2.trans h1.symm) (hf b2)
  · rw [hb a1, hb b1]

theorem mapO_look {m : Nat → Option Nat} (hinj : ∀ i j x, m i = some x → m j = some x → i = j) : ∀ {l l' : List (Nat × List AV)}, mapO m l = some l' → ∀ {j : Nat} {cs' : List AV}, look l' j = some cs' → ∃ i cs, look l i = some cs ∧ m i = some j ∧ AV.mapA.go m cs = some cs'
  | [], l', h, j, cs', hc => by simp only [mapO, Option.some.injEq] at h; subst h; simp [look] at hc
  | (i, ds) :: r, l', h, j, cs', hc => by
    simp only [mapO] at h
    split at h
    · rename_i j0 l0 q hj hgo hq
      cases h
      rw [look_cons] at hc
      by_cases e : j0 = j
      · rw [if_pos e] at hc
        cases hc; subst e
        exact ⟨i, ds, by simp [look_cons], hj, hgo⟩
      · rw [if_neg e] at hc
        obtain ⟨i', cs, h1, h2, h3⟩ := mapO_look hinj hq hc
        refine ⟨i', cs, ?_, h2, h3⟩
        rw [look_cons, if_neg]
        · exact h1
        · intro e2; subst e2
          rw [hj] at h2; cases h2; exact e rfl
    · cases h

theorem ghost_ren {C : Cx} {sl sl' : List (Nat × AV)} {ob ob' : List (Nat × List AV)} (k d : Nat) (hkd : Nat.beq k d = false) (hk : Nat.blt k M1 = true) (hd : Nat.blt d M1 = true) (hs' : renS k d sl = some sl') (ho' : mapO (renM k d) ob = some ob') : Ghost C ⟨sl, ob⟩ ⟨sl', ob'⟩ := by
  intro g a w hs
  have hk' : k < M1 := Nat.blt_eq ▸ hk
  have hd' : d < M1 := Nat.blt_eq ▸ hd
  have hne : k ≠ d := fun e => by subst e; simp at hkd
  let g' : Gh := ⟨g.st, fun i => if i = d then g.ow k else if i = k then none else g.ow i⟩
  have hm : ∀ i j b, renM k d i = some j → g.ow i = some b → g'.ow j = some b := by
    intro i j b h hb
    unfold renM at h
    cases h1 : Nat.beq i k
    · rw [h1, cond_false] at h
      cases h2 : Nat.beq i d
      · rw [h2, cond_false] at h; cases h
        have e1 : i ≠ k := fun e => by subst e; simp at h1
        have e2 : i ≠ d := fun e => by subst e; simp at h2
        simp only [g', if_neg e2, if_neg e1]; exact hb
      · rw [h2, cond_true] at h; cases h
    · rw [h1, cond_true] at h; cases h
      have := Nat.eq_of_beq_eq_true h1
      subst this
      simp only [g', if_true]; exact hb
  refine ⟨g', hs.nd, hs.sz, fun i => ?_, fun id cs hc => ?_, fun i j b h1 h2 => ?_, fun i b h => ?_, hs.lt, hs.fl, hs.fr, hs.os, hs.out, hs.tape, hs.size, hs.stf, fun i hi hz => ?_, hs.shf, hs.nst, hs.ev0⟩
  · have h1 := renS_look hs' i
    have h2 := hs.sl i
    simp only [AS.get] at h2 ⊢
    cases e1 : look sl i with
    | none =>
      rw [e1] at h1
      cases e2 : look sl' i with
      | none => exact .undef _
      | some y => rw [e2] at h1; exact h1.elim
    | some x =>
      rw [e1] at h1 h2
      cases e2 : look sl' i with
      | none => exact .undef _
      | some y =>
        rw [e2] at h1
        exact mapA_rep (g := g) (g' := g') rfl hm (by simpa using h2) h1
  · obtain ⟨i, ds, h1, h2, h3⟩ := mapO_look (renM_inj hne) ho' hc
    exact mapO_rep (g := g) (g' := g') rfl hm (show mapO (renM k d) [(i, ds)] = some [(id, cs)] by simp only [mapO, h2, h3]) (fun p hp => by
      simp only [List.mem_singleton] at hp
      subst hp
      exact hs.ob i ds h1) (id, cs) (by simp)
  · simp only [g'] at h1 h2
    by_cases a1 : i = d <;> by_cases b1 : j = d
    · rw [a1, b1]
    · rw [if_pos a1] at h1
      rw [if_neg b1] at h2
      split at h2
      · cases h2
      · rename_i b2; exact absurd (hs.inj k j b h1 h2).symm b2
    · rw [if_pos b1] at h2
      rw [if_neg a1] at h1
      split at h1
      · cases h1
      · rename_i b2; exact absurd (hs.inj i k b h1 h2) b2
    · rw [if_neg a1] at h1; rw [if_neg b1] at h2
      split at h1
      · cases h1
      · split at h2
        · cases h2
        · exact hs.inj i j b h1 h2
  · simp only [g'] at h
    split at h
    · exact hs.own k b h
    · split at h
      · cases h
      · exact hs.own i b h
  · simp only [g']
    rw [if_neg (by omega), if_neg (by omega)]; exact hs.owf i hi hz

/-! ### Slots, cells -/
theorem ghost_slot {C : Cx} {sl : List (Nat × AV)} {ob : List (Nat × List AV)} (j : Nat) {x y : AV} (hj : look sl j = some x) (h : x.sub y) : Ghost C ⟨sl, ob⟩ ⟨(j, y) :: sl, ob⟩ := by
  refine ghost_le ⟨fun i z hz => ?_, fun id cs hc => ⟨cs, hc, (subL_spec (subL_refl cs)).1, (subL_spec (subL_refl cs)).2⟩⟩
  simp only [look_cons] at hz
  by_cases e : j = i
  · rw [if_pos e] at hz; cases hz; subst e
    simp only [AS.get, hj, Option.getD_some]; exact h
  · rw [if_neg e] at hz
    simp only [AS.get, hz, Option.getD_some]; exact AV.sub_refl _
theorem ghost_ob {C : Cx} {sl sl0 : List (Nat × AV)} {D : Nat → Bool} {ob ob' : List (Nat × List AV)} (h : demOb D ob = ob') : Ghost C ⟨sl, (demS D ⟨sl0, ob⟩).ob⟩ ⟨sl, ob'⟩ := by
  have : (demS D ⟨sl0, ob⟩).ob = ob' := h
  rw [this]; exact ghost_refl _
theorem ghost_obc {C : Cx} {sl sl0 : List (Nat × AV)} {D : Nat → Bool} {ob ob' : List (Nat × List AV)} {x : Nat × List AV} (h : demOb D ob = ob') : Ghost C ⟨sl, x :: (demS D ⟨sl0, ob⟩).ob⟩ ⟨sl, x :: ob'⟩ := by
  have : (demS D ⟨sl0, ob⟩).ob = ob' := h
  rw [this]; exact ghost_refl _

/-- Cells of which less is said: an empty slice, where it was the nil slice. -/
def CellsSub : List PV → List PV → Prop
  | [], [] => True
  | c :: cs, d :: ds => (c = d ∨ (c = .val (.slice none 0 0) ∧ d = .slice [])) ∧ CellsSub cs ds
  | _, _ => False
theorem cellsSub_spec {w : World} {st : Nat → Nat → Prop} : ∀ {cs ds : List PV}, CellsSub cs ds → cs.length = ds.length ∧ ∀ (i : Nat) c d v, cs[i]? = some c → ds[i]? = some d → PRep w st c v → PRep w st d v
  | [], [], _ => ⟨rfl, by simp⟩
  | [], _ :: _, h => h.elim
  | _ :: _, [], h => h.elim
  | c :: cs, d :: ds, h => by
    obtain ⟨h1, h2⟩ := cellsSub_spec (w := w) (st := st) h.2
    refine ⟨by simp [h1], fun i c' d' v hc hd hv => ?_⟩
    cases i with
    | zero =>
      simp only [List.getElem?_cons_zero, Option.some.injEq] at hc hd
      subst hc hd
      rcases h.1 with e | ⟨e1, e2⟩
      · rw [← e]; exact hv
      · rw [e1] at hv; rw [e2]; cases hv; exact .nils
    | succ i => simp only [List.getElem?_cons_succ] at hc hd; exact h2 i c' d' v hc hd hv
theorem sub_cells {cs ds : List PV} (h : CellsSub cs ds) : (AV.p (.agg cs)).sub (.p (.agg ds)) := by
  intro w g v hv
  obtain ⟨h1, h2⟩ := cellsSub_spec (w := w) (st := g.st) h
  cases hv with
  | p hv =>
    cases hv with
    | agg hl hh =>
      refine .p (.agg (hl.trans h1) fun i d u hd hu => ?_)
      have hi : i < cs.length := by have := (List.getElem?_eq_some_iff.1 hd).1; omega
      exact h2 i cs[i] d u (List.getElem?_eq_getElem hi) hd (hh i _ u (List.getElem?_eq_getElem hi) hu)
theorem sub_aggs {cs : List AV} {ds : List PV} (h : subsA cs (ds.map .p)) : (AV.agg cs).sub (.p (.agg ds)) := by
  intro w g v hv
  obtain ⟨h1, h2⟩ := subsA_spec h
  cases hv with
  | agg hl hh =>
    refine .p (.agg (by rw [hl, h1, List.length_map]) fun i d u hd hu => ?_)
    have hi : i < cs.length := by have := (List.getElem?_eq_some_iff.1 hd).1; simp at h1; omega
    have := h2 i cs[i] (.p d) (List.getElem?_eq_getElem hi) (by simp [hd]) w g u (hh i _ u (List.getElem?_eq_getElem hi) hu)
    cases this with | p h => exact h
theorem sub_aggA {cs ds : List AV} (h : subsA cs ds) : (AV.agg cs).sub (.agg ds) := by
  intro w g v hv
  obtain ⟨h1, h2⟩ := subsA_spec h
  cases hv with
  | agg hl hh =>
    refine .agg (hl.trans h1) fun i d u hd hu => ?_
    have hi : i < cs.length := by have := (List.getElem?_eq_some_iff.1 hd).1; omega
    exact h2 i cs[i] d (List.getElem?_eq_getElem hi) hd w g u (hh i _ u (List.getElem?_eq_getElem hi) hu)
theorem sub_pagg {cs : List PV} : (AV.p (.agg cs)).sub (.agg (cs.map .p)) := by
  intro w g v hv
  cases hv with
  | p hv =>
    cases hv with
    | agg hl hh =>
      refine .agg (by rw [hl, List.length_map]) fun i d u hd hu => ?_
      simp only [List.getElem?_map, Option.map_eq_some_iff] at hd
      obtain ⟨c, hc, rfl⟩ := hd
      exact .p (hh i c u hc hu)

theorem AV.sub_trans {x y z : AV} (h : x.sub y) (k : y.sub z) : x.sub z := fun w g v hv => k w g v (h w g v hv)

/-! ### Literals and appends -/
section
variable {C : Cx} {o : Oper} {K : AS → Prop} {sl : List (Nat × AV)} {ob : List (Nat × List AV)} {d : Nat}
theorem op_bslice {α : Type} (f : α → PV) (l : List α) {t e len : Nat} {parts : Array (Nat × Operand)} {i ie : TI} {es : List PV} (ho : o.op = .buildSlice t len parts) (hd : o.dst = some d) (hn : Nat.blt d C.n = true)
    (hi : look C.tt t = some i) (hik : i.k = .slice e) (hie : look C.tt e = some ie) (hes : elemsA sl 0 parts.toList = some es) (hlen : Nat.beq es.length len = true) (hpos : Nat.blt 0 len = true)
    (hk : Nat.blt 0 ie.size = true) (hsm : Nat.ble (len * ie.size) 16777216 = true) (hsz : sizesB ie.size es = true) (hzl : Nat.beq ie.zero.length ie.size = true) (he : es = l.map f)
    (hK : K ⟨(d, .p (eL f l)) :: sl, ob⟩) : OpOk C o K ⟨sl, ob⟩ :=
  ok_buildSlice ho hd hn hi hik hie hes hlen hpos hk hsm hsz hzl (by rw [he]; exact hK)

theorem op_appN {α : Type} (f : α → PV) (l : List α) (ty : Nat) {t tx e e' : TypeId} {x y : Operand} {Y : AV} {i ie j : TI} (ho : o.op = .call { callee := .builtin .append, args := #[x, y], argTypes := #[t, tx] }) (hd : o.dst = some d) (hn : Nat.blt d C.n = true)
    (hi : look C.tt t = some i) (hik : i.k = .slice e) (hie : look C.tt e = some ie) (hj : look C.tt tx = some j) (hjk : j.k = .slice e') (hx : evo sl x = some (.p (.val (.slice none 0 0))))
    (hy : evo sl y = some Y) (hY : Y.elems? = some (l.map f)) (hsz : ∀ x, (f x).cells.length = ie.size) (h0 : Nat.blt 0 ie.size = true) (hzl : Nat.beq ie.zero.length ie.size = true) (hby : Nat.blt 0 ie.bytes = true)
    (hty : (Nat.beq ty 0 || Nat.beq ty (e + 1)) = true) (hlen : l.length * ie.bytes ≤ 140737488355328)
    (hK : K ⟨(d, .vec d ie.size ty (l.map f)) :: (demS (fun i => Nat.beq i d) ⟨sl, ob⟩).sl, (demS (fun i => Nat.beq i d) ⟨sl, ob⟩).ob⟩) : OpOk C o K ⟨sl, ob⟩ := by
  have hby' : 1 ≤ ie.bytes := Nat.succ_le_of_lt (by simpa using hby)
  have h1 : l.length * 1 ≤ l.length * ie.bytes := Nat.mul_le_mul_left _ hby'
  exact ok_appendN ty ho hd hn hi hik hie hj hjk hx hy hY (fun y hy => by obtain ⟨x, _, rfl⟩ := List.mem_map.1 hy; exact hsz x) h0 hzl (by rw [List.length_map]; exact hlen) (by rw [List.length_map]; omega) hty hK

theorem op_appV {α : Type} (f : α → PV) (l0 l : List α) {t tx e e' : TypeId} {x y : Operand} {k sz ty : Nat} {Y : AV} {i ie j : TI} (ho : o.op = .call { callee := .builtin .append, args := #[x, y], argTypes := #[t, tx] }) (hd : o.dst = some d) (hn : Nat.blt d C.n = true)
    (hi : look C.tt t = some i) (hik : i.k = .slice e) (hie : look C.tt e = some ie) (hj : look C.tt tx = some j) (hjk : j.k = .slice e') (hx : evo sl x = some (.vec k sz ty (l0.map f))) (hk : Nat.blt k M1 = true) (hiz : ie.size = sz)
    (hy : evo sl y = some Y) (hY : Y.elems? = some (l.map f)) (hsz : ∀ x, (f x).cells.length = ie.size) (h0 : Nat.blt 0 ie.size = true) (hzl : Nat.beq ie.zero.length ie.size = true) (hby : Nat.blt 0 ie.bytes = true)
    (hty : (Nat.beq ty 0 || Nat.beq ty (e + 1)) = true) (hlen : (l0.length + l.length) * ie.bytes ≤ 140737488355328)
    (hK : K ⟨(d, .vec d sz ty ((l0 ++ l).map f)) :: (demS (fun i => Nat.beq i k || Nat.beq i d) ⟨sl, ob⟩).sl, (demS (fun i => Nat.beq i k || Nat.beq i d) ⟨sl, ob⟩).ob⟩) : OpOk C o K ⟨sl, ob⟩ := by
  have hby' : 1 ≤ ie.bytes := Nat.succ_le_of_lt (by simpa using hby)
  have h1 : (l0.length + l.length) * 1 ≤ (l0.length + l.length) * ie.bytes := Nat.mul_le_mul_left _ hby'
  exact ok_appendV ho hd hn hi hik hie hj hjk hx hk hiz hy hY (fun y hy => by obtain ⟨x, _, rfl⟩ := List.mem_map.1 hy; exact hsz x) h0 hzl (by rw [List.length_map, List.length_map]; exact hlen) (by rw [List.length_map, List.length_map]; omega) hty
    (by rw [← List.map_append]; exact hK)
end

/-! ### Ways meet -/
section
variable {C : Cx} {x : Code} {Q : Exit → AS → Prop} {s : AS}
theorem awp_joinN (t : AS) (hP : ∀ s', Ghost C s' t → Q .normal s') (h : awp C x (thenQ (fun s' => Ghost C s' t) Q) s) : awp C x Q s := awp_cutN _ hP h
theorem awp_joinNx {σ : Type} (A : σ → Prop) (mk : σ → AS) (hP : ∀ s', (∃ v, A v ∧ Ghost C s' (mk v)) → Q .normal s') (h : awp C x (thenQ (fun s' => ∃ v, A v ∧ Ghost C s' (mk v)) Q) s) : awp C x Q s := awp_cutN _ hP h
theorem awp_joinE (id : Nat) (t : AS) (hP : ∀ s', Ghost C s' t → Q (.exit id) s') (h : awp C x (exQ id (fun s' => Ghost C s' t) Q) s) : awp C x Q s := awp_cutE id _ hP h
theorem awp_joinEx (id : Nat) {σ : Type} (A : σ → Prop) (mk : σ → AS) (hP : ∀ s', (∃ v, A v ∧ Ghost C s' (mk v)) → Q (.exit id) s') (h : awp C x (exQ id (fun s' => ∃ v, A v ∧ Ghost C s' (mk v)) Q) s) : awp C x Q s := awp_cutE id _ hP h
end

end Go.Ab
