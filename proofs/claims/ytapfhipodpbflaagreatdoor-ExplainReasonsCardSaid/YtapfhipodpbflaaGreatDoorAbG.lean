/- A layer of abstract values over the model's worlds, part G: literals, append, make, calls. It holds for every program. -/
import Derived.Test.YtapfhipodpbflaaGreatDoorAbE
import Derived.Great.FillDense
import Derived.Great.BuildSlice
set_option linter.unusedVariables false
set_option linter.unusedSimpArgs false
set_option linter.unnecessarySimpa false
namespace Go.Ab

/-- A value that nothing can change, of what a slot holds. -/
def AV.toPV : AV → Option PV
  | .p (.val (.slice none 0 0)) => some (.slice [])
  | .p x => some x
  | .vec _ _ _ es => some (.slice es)
  | .agg cs => match go cs with
    | some l => some (.agg l)
    | none => none
  | _ => none
where
  go : List AV → Option (List PV)
  | [] => some []
  | .p x :: r => match go r with
    | some l => some (x :: l)
    | none => none
  | .vec _ _ _ es :: r => match go r with
    | some l => some (.slice es :: l)
    | none => none
  | _ :: _ => none

theorem toPV_go {w : World} {g : Gh} : ∀ {cs : List AV} {l : List PV}, AV.toPV.go cs = some l → cs.length = l.length ∧ ∀ (i : Nat) c y v, cs[i]? = some c → l[i]? = some y → ARep w g c v → PRep w g.st y v
  | [], l, h => by simp only [AV.toPV.go, Option.some.injEq] at h; subst h; exact ⟨rfl, by simp⟩
  | x :: r, l, h => by
    unfold AV.toPV.go at h
    split at h
    · rename_i e; cases e
    · rename_i x0 r0 e; cases e
      split at h
      · rename_i l' h'; cases h
        obtain ⟨h1, h2⟩ := toPV_go (w := w) (g := g) h'
        refine ⟨by simp [h1], fun i c y v hc hy hv => ?_⟩
        cases i with
        | zero => simp only [List.getElem?_cons_zero, Option.some.injEq] at hc hy; subst hc hy; cases hv with | p h => exact h
        | succ i => simp only [List.getElem?_cons_succ] at hc hy; exact h2 i c y v hc hy hv
      · cases h
    · rename_i t0 s0 e0 r0 e; cases e
      split at h
      · rename_i l' h'; cases h
        obtain ⟨h1, h2⟩ := toPV_go (w := w) (g := g) h'
        refine ⟨by simp [h1], fun i c y v hc hy hv => ?_⟩
        cases i with
        | zero => simp only [List.getElem?_cons_zero, Option.some.injEq] at hc hy; subst hc hy; exact slice_view (.inr ⟨_, _, _, rfl⟩) hv
        | succ i => simp only [List.getElem?_cons_succ] at hc hy; exact h2 i c y v hc hy hv
      · cases h
    · cases h

theorem toPV_rep {w : World} {g : Gh} {x : AV} {y : PV} {v : Value} (hx : x.toPV = some y) (h : ARep w g x v) : PRep w g.st y v := by
  unfold AV.toPV at hx
  split at hx
  · cases hx; cases h with | p h => cases h; exact .nils
  · cases hx; cases h with | p h => exact h
  · cases hx; exact slice_view (.inr ⟨_, _, _, rfl⟩) h
  · split at hx
    · rename_i cs _ l h'
      cases hx
      cases h with
      | agg hl hh =>
        rename_i vs
        obtain ⟨h1, h2⟩ := toPV_go (w := w) (g := g) h'
        refine .agg (by omega) fun i y v hy hv => ?_
        have hi : i < cs.length := by
          have := (List.getElem?_eq_some_iff.1 hy).1; omega
        exact h2 i cs[i] y v (List.getElem?_eq_getElem hi) hy (hh i _ v (List.getElem?_eq_getElem hi) hv)
    · cases hx
  · cases hx

section
variable {C : Cx} {o : Oper} {K : AS → Prop} {sl : List (Nat × AV)} {ob : List (Nat × List AV)} {d : Nat}

/-- A field of a struct value. -/
theorem ok_field1 {t : TypeId} {x : Operand} {f off ft : Nat} {i j : TI} {fs : List (Nat × Nat)} {cs : List PV} {c : PV} (ho : o.op = .field t x f) (hd : o.dst = some d) (hn : Nat.blt d C.n = true)
    (hi : look C.tt t = some i) (hik : i.k = .struct fs) (hf : fs[f]? = some (off, ft)) (hj : look C.tt ft = some j) (hja : j.k.isAgg = false)
    (hx : evo sl x = some (.p (.agg cs))) (hc : cs[off]? = some c) (hK : K ⟨(d, .p c) :: sl, ob⟩) : OpOk C o K ⟨sl, ob⟩ := by
  obtain ⟨u, h1, h2⟩ := und_of C.good hi
  obtain ⟨fa, rfl, h4⟩ := kind_struct (h2.trans hik)
  refine ok_one hd hn (fun g a w hs => ?_) hK
  have h5 := evo_rep hs hx
  generalize hv : a.eval x = v at h5
  cases h5 with
  | p h5 =>
    cases h5 with
    | agg hl hh =>
      rename_i vs
      rw [← h4] at hf
      simp only [List.getElem?_map, Array.getElem?_toList, Option.map_eq_some_iff, Prod.mk.injEq] at hf
      obtain ⟨fl, hf1, hf2, hf3⟩ := hf
      subst hf2 hf3
      have hlt : fl.offset < vs.size := by rw [hl]; exact (List.getElem?_eq_some_iff.1 hc).1
      exact ⟨vs[fl.offset], by simp [execOp, ho, hv, Instr.field, run_underlying h1, hf1, asAgg, part, run_isAgg C.good hj, hja, hlt], .p (hh _ c _ hc (Array.getElem?_eq_getElem hlt))⟩

theorem ok_fieldA {t : TypeId} {x : Operand} {f off ft : Nat} {i j : TI} {fs : List (Nat × Nat)} {cs : List PV} (ho : o.op = .field t x f) (hd : o.dst = some d) (hn : Nat.blt d C.n = true)
    (hi : look C.tt t = some i) (hik : i.k = .struct fs) (hf : fs[f]? = some (off, ft)) (hj : look C.tt ft = some j) (hja : j.k.isAgg = true)
    (hx : evo sl x = some (.p (.agg cs))) (hl' : Nat.ble (off + j.size) cs.length = true) (hK : K ⟨(d, .p (.agg ((cs.drop off).take j.size))) :: sl, ob⟩) : OpOk C o K ⟨sl, ob⟩ := by
  obtain ⟨u, h1, h2⟩ := und_of C.good hi
  obtain ⟨fa, rfl, h4⟩ := kind_struct (h2.trans hik)
  refine ok_one hd hn (fun g a w hs => ?_) hK
  have h5 := evo_rep hs hx
  have hle := Nat.le_of_ble_eq_true hl'
  generalize hv : a.eval x = v at h5
  cases h5 with
  | p h5 =>
    cases h5 with
    | agg hl hh =>
      rename_i vs
      rw [← h4] at hf
      simp only [List.getElem?_map, Array.getElem?_toList, Option.map_eq_some_iff, Prod.mk.injEq] at hf
      obtain ⟨fl, hf1, hf2, hf3⟩ := hf
      subst hf2 hf3
      refine ⟨.agg (vs.extract fl.offset (fl.offset + j.size)), by simp [execOp, ho, hv, Instr.field, run_underlying h1, hf1, asAgg, part, run_isAgg C.good hj, hja, run_sizeOf C.good hj], .p (.agg (by simp; omega) fun k c v h6 h7 => ?_)⟩
      rw [List.getElem?_take] at h6
      split at h6
      · rename_i hk
        rw [List.getElem?_drop] at h6
        rw [Array.getElem?_extract] at h7
        split at h7
        · exact hh _ c v h6 h7
        · cases h7
      · cases h6

/-! ### Literals -/
def fillA (place : Nat → Option (Nat × Nat)) (cs : List AV) : List (Nat × AV) → Option (List AV)
  | [] => some cs
  | (i, v) :: r => match place i, v.cellsA with
    | some (off, size), some xs => bif Nat.beq xs.length size && Nat.ble (off + size) cs.length then fillA place (updL cs off xs) r else none
    | _, _ => none

theorem fill_spec {w : World} {g : Gh} {place : Nat → Option (Nat × Nat)} : ∀ (ps : List (Nat × AV)) (vs : List (Nat × Value)) (cs cs' : List AV) (c : Array Value),
    ps.length = vs.length → (∀ (k : Nat) p q, ps[k]? = some p → vs[k]? = some q → p.1 = q.1 ∧ ARep w g p.2 q.2) →
    c.size = cs.length → (∀ (i : Nat) x v, cs[i]? = some x → c[i]? = some v → ARep w g x v) → fillA place cs ps = some cs' →
    ∃ c', Instr.fill place c vs = some c' ∧ c'.size = cs'.length ∧ ∀ (i : Nat) x v, cs'[i]? = some x → c'[i]? = some v → ARep w g x v
  | [], [], cs, cs', c, _, _, hc, hcc, h => by
    simp only [fillA, Option.some.injEq] at h; subst h
    exact ⟨c, rfl, hc, hcc⟩
  | [], _ :: _, _, _, _, hl, _, _, _, _ => by simp at hl
  | _ :: _, [], _, _, _, hl, _, _, _, _ => by simp at hl
  | (i, x) :: ps, (i', v) :: vs, cs, cs', c, hl, hp, hc, hcc, h => by
    obtain ⟨e, hxv⟩ := hp 0 (i, x) (i', v) rfl rfl
    simp only at e hxv
    subst e
    simp only [fillA] at h
    split at h
    · rename_i off size xs hpl hxs
      cases hb : (Nat.beq xs.length size && Nat.ble (off + size) cs.length) <;> rw [hb] at h <;> simp only [cond_true, cond_false, reduceCtorEq] at h
      simp only [Bool.and_eq_true] at hb
      have e1 : xs.length = size := Nat.eq_of_beq_eq_true hb.1
      have e2 : off + size ≤ cs.length := Nat.le_of_ble_eq_true hb.2
      obtain ⟨hsz, hcells⟩ := cellsA_spec hxs hxv
      obtain ⟨g1, g2⟩ := Great.foldl_set off v.cells.toList 0 c
      obtain ⟨c1, hc1⟩ : ∃ c1, c1 = (v.cells.toList.zipIdx 0).foldl (fun cs (x : Value × Nat) => cs.setIfInBounds (off + x.2) x.1) c := ⟨_, rfl⟩
      rw [← hc1] at g1
      obtain ⟨c', h1, h2, h3⟩ := fill_spec ps vs (updL cs off xs) cs' c1 (by simpa using hl) (fun k p q h1 h2 => hp (k + 1) p q (by simpa using h1) (by simpa using h2))
        (by rw [g1, updL_length _ _ _ (by omega)]; exact hc) (fun k y u hy hu => by
          rw [updL_get _ _ _ (by omega)] at hy
          rw [hc1, g2 k] at hu
          simp only [Nat.add_zero, Array.length_toList, hsz] at hu
          by_cases hk : off ≤ k ∧ k < off + xs.length
          · rw [if_pos hk] at hy
            rw [if_pos ⟨hk.1, hk.2, by omega⟩] at hu
            exact (hcells _ y u hy (by simpa using hu)).1
          · rw [if_neg hk] at hy
            rw [if_neg (by omega)] at hu
            exact hcc k y u hy hu) h
      refine ⟨c', ?_, h2, h3⟩
      unfold Instr.fill
      simp only [hpl]
      rw [if_neg (by simp [hsz, e1]; omega)]
      have : (v.cells.zipIdx.foldl (fun cs (x : Value × Nat) => cs.setIfInBounds (off + x.2) x.1) c) = c1 := by
        rw [hc1, ← Array.foldl_toList, Array.toList_zipIdx]
      rw [← h1, ← this]
    · cases h

def partsA (sl : List (Nat × AV)) : List (Nat × Operand) → Option (List (Nat × AV))
  | [] => some []
  | (i, x) :: r => match evo sl x, partsA sl r with
    | some y, some l => some ((i, y) :: l)
    | _, _ => none

theorem partsA_spec {n : Nat} {w0 : Base} {w : World} {F : Nat → Prop} {g : Gh} {a : Act} (hs : St n w0 F g ⟨sl, ob⟩ a w) : ∀ (ps : List (Nat × Operand)) (l : List (Nat × AV)), partsA sl ps = some l →
    l.length = (ps.map fun p => (p.1, a.eval p.2)).length ∧ ∀ (k : Nat) p q, l[k]? = some p → (ps.map fun p => (p.1, a.eval p.2))[k]? = some q → p.1 = q.1 ∧ ARep w g p.2 q.2
  | [], l, h => by simp only [partsA, Option.some.injEq] at h; subst h; exact ⟨rfl, by simp⟩
  | (i, x) :: r, l, h => by
    simp only [partsA] at h
    split at h
    · rename_i y l' hy hl'
      cases h
      obtain ⟨h1, h2⟩ := partsA_spec hs r l' hl'
      refine ⟨by simpa using h1, fun k p q hp hq => ?_⟩
      cases k with
      | zero => simp only [List.map_cons, List.getElem?_cons_zero, Option.some.injEq] at hp hq; subst hp hq; exact ⟨rfl, evo_rep hs hy⟩
      | succ k => simp only [List.map_cons, List.getElem?_cons_succ] at hp hq; exact h2 k p q hp hq
    · cases h

/-- Where the fields of a struct lie. -/
def placesA (tt : List (Nat × TI)) : List (Nat × Nat) → Option (List (Nat × Nat))
  | [] => some []
  | (off, ft) :: r => match look tt ft, placesA tt r with
    | some j, some l => some ((off, j.size) :: l)
    | _, _ => none

theorem placesA_run {P : Program} {tt : List (Nat × TI)} (good : TyGood P tt) (w : World) : ∀ (fs : List Field) (l : List (Nat × Nat)), placesA tt (fs.map fun f => (f.offset, f.type)) = some l →
    (fs.mapM (m := Sem) fun f => do pure (f.offset, ← sizeOf f.type)).run P w = .ok l w
  | [], l, h => by simp only [List.map_nil, placesA, Option.some.injEq] at h; subst h; simp
  | f :: r, l, h => by
    simp only [List.map_cons, placesA] at h
    split at h
    · rename_i j l' hj hl'
      cases h
      have ih := placesA_run good w r l' hl'
      simp only [Sem.run_bind, bind_pure_comp] at ih
      simp [run_sizeOf good hj, ih]
    · cases h

theorem ok_build {t : TypeId} {parts : Array (Nat × Operand)} {i : TI} {fs pl : List (Nat × Nat)} {ps : List (Nat × AV)} {cs : List AV} {y : AV} (ho : o.op = .build t parts) (hd : o.dst = some d) (hn : Nat.blt d C.n = true)
    (hi : look C.tt t = some i) (hik : i.k = .struct fs) (hpl : placesA C.tt fs = some pl) (hps : partsA sl parts.toList = some ps) (hf : fillA (fun (i : Nat) => pl[i]?) (zerosA i) ps = some cs) (hy : some (mkAgg cs) = some y)
    (hK : K ⟨(d, y) :: sl, ob⟩) : OpOk C o K ⟨sl, ob⟩ := by
  cases hy
  obtain ⟨u, h1, h2⟩ := und_of C.good hi
  obtain ⟨fa, rfl, h4⟩ := kind_struct (h2.trans hik)
  refine ok_one hd hn (fun g a w hs => ?_) hK
  obtain ⟨z, hz1, hz2⟩ := run_zeroValue C.good hi w
  obtain ⟨q1, q2⟩ := partsA_spec hs _ ps hps
  rw [← h4] at hpl
  have hpr := placesA_run C.good w fa.toList pl hpl
  obtain ⟨c', f1, f2, f3⟩ := fill_spec (place := fun (i : Nat) => pl[i]?) ps (parts.toList.map fun p => (p.1, a.eval p.2)) (zerosA i) cs z.cells q1 q2 (by simp [zerosA, ← hz2]) (fun k x v hx hv => by
    simp only [zerosA, List.getElem?_map, Option.map_eq_some_iff, ← hz2, Array.getElem?_toList] at hx
    obtain ⟨u, hu, rfl⟩ := hx
    rw [hv] at hu; cases hu
    exact .p (.val _)) hf
  refine ⟨.agg c', ?_, mkAgg_rep f2 f3⟩
  have e1 : (parts.map fun (i, x) => (i, a.eval x)).toList = parts.toList.map fun p => (p.1, a.eval p.2) := by rw [Array.toList_map]
  have e2 : (fa.mapM (m := Sem) fun f => do pure (f.offset, ← sizeOf f.type)).run C.P w = .ok pl.toArray w := by
    rw [Array.mapM_eq_mapM_toList, Sem.run_map, hpr]; rfl
  have e3 : (fun (i : Nat) => (pl.toArray)[i]?) = fun (i : Nat) => pl[i]? := by funext i; simp
  simp only [execOp, ho, Instr.build, Sem.run_bind, hz1, Result.andThen_ok, run_underlying h1, e2, e1, e3, f1, Sem.run_pure]

def elemsA (sl : List (Nat × AV)) : Nat → List (Nat × Operand) → Option (List PV)
  | _, [] => some []
  | k, (i, x) :: r => bif Nat.beq i k then match evo sl x, elemsA sl (k + 1) r with
    | some y, some l => match y.toPV with
      | some z => some (z :: l)
      | none => none
    | _, _ => none
    else none

theorem elemsA_spec {n : Nat} {w0 : Base} {w : World} {F : Nat → Prop} {g : Gh} {a : Act} (hs : St n w0 F g ⟨sl, ob⟩ a w) : ∀ (ps : List (Nat × Operand)) (k : Nat) (l : List PV), elemsA sl k ps = some l →
    ps.map (fun p => (p.1, a.eval p.2)) = ((ps.map fun p => a.eval p.2).zipIdx k).map (fun x => (x.2, x.1)) ∧ l.length = ps.length ∧
    ∀ (j : Nat) y v, l[j]? = some y → (ps.map fun p => a.eval p.2)[j]? = some v → PRep w g.st y v
  | [], k, l, h => by simp only [elemsA, Option.some.injEq] at h; subst h; exact ⟨rfl, rfl, by simp⟩
  | (i, x) :: r, k, l, h => by
    simp only [elemsA] at h
    cases hb : Nat.beq i k <;> rw [hb] at h <;> simp only [cond_true, cond_false, reduceCtorEq] at h
    have e : i = k := Nat.eq_of_beq_eq_true hb
    subst e
    split at h
    · rename_i y l' hy hl'
      split at h
      · rename_i z hz
        cases h
        obtain ⟨h1, h2, h3⟩ := elemsA_spec hs r (i + 1) l' hl'
        refine ⟨by simp only [List.map_cons, List.zipIdx_cons, h1], by simp [h2], fun j y' v hy' hv => ?_⟩
        cases j with
        | zero => simp only [List.map_cons, List.getElem?_cons_zero, Option.some.injEq] at hy' hv; subst hy' hv; exact toPV_rep hz (evo_rep hs hy)
        | succ j => simp only [List.map_cons, List.getElem?_cons_succ] at hy' hv; exact h3 j y' v hy' hv
      · cases h
    · cases h

theorem prep_cells {w : World} {st : Nat → Nat → Prop} {x : PV} {v : Value} (h : PRep w st x v) (ho : PV.onesB x.cells = true) :
    v.cells.size = x.cells.length ∧ ∀ (i : Nat) c u, x.cells[i]? = some c → v.cells[i]? = some u → PRep w st c u ∧ u.oneCell' = true := by
  have single : x.one = true → x.cells = [x] → v.cells.size = x.cells.length ∧ ∀ (i : Nat) c u, x.cells[i]? = some c → v.cells[i]? = some u → PRep w st c u ∧ u.oneCell' = true := by
    intro h1 h2
    have h3 := PV.one_rep h h1
    rw [cells_of_one h3, h2]
    refine ⟨rfl, fun i c u h4 h5 => ?_⟩
    cases i with
    | zero => simp only [List.getElem?_cons_zero, Option.some.injEq] at h4; simp at h5; subst h4 h5; exact ⟨h, h3⟩
    | succ i => simp at h4
  cases h with
  | val v => exact single (onesB_mem ho _ (by simp [PV.cells])) rfl
  | agg hl hh =>
    refine ⟨hl, fun i c u h1 h2 => ?_⟩
    have h4 := hh i c u h1 h2
    exact ⟨h4, PV.one_rep h4 (onesB_mem ho c (List.mem_of_getElem? h1))⟩
  | ifc => exact single rfl rfl
  | aint => exact single rfl rfl
  | nils => exact single rfl rfl
  | nile a => exact single rfl rfl
  | slice => exact single rfl rfl

def sizesB (k : Nat) : List PV → Bool
  | [] => true
  | x :: r => Nat.beq x.cells.length k && PV.onesB x.cells && sizesB k r

theorem sizesB_mem {k : Nat} : ∀ {l : List PV}, sizesB k l = true → ∀ x, x ∈ l → x.cells.length = k ∧ PV.onesB x.cells = true
  | [], _, _, h => by simp at h
  | y :: r, h, x, hx => by
    simp only [sizesB, Bool.and_eq_true] at h
    rcases List.mem_cons.1 hx with rfl | hx
    · exact ⟨Nat.eq_of_beq_eq_true h.1.1, h.1.2⟩
    · exact sizesB_mem h.2 x hx

/-- What a row of cells is that a slice literal lays. -/
theorem row_prep {w : World} {st : Nat → Nat → Prop} {es : List PV} {vs : List Value} {k : Nat} {r : Array Value} {e : TypeId} (hk : 0 < k) (hl : es.length = vs.length) (hlt : ∀ b o, st b o → b < w.heap.size)
    (hr : ∀ (j : Nat) y v, es[j]? = some y → vs[j]? = some v → PRep w st y v) (hsz : sizesB k es = true)
    (hrs : r.size = es.length * k) (hrk : ∀ m, m < es.length * k → r[m]? = (vs[m / k]?).bind (fun v => v.cells[m % k]?)) (cap : Nat) (hcap : es.length ≤ cap) :
    PRep (w.alloc (.cells r e)) (fun b o => st b o ∨ (b = w.heap.size ∧ o < es.length * k)) (.slice es) (.slice (some ⟨w.heap.size, 0, none⟩) es.length cap) := by
  have hev := Ev_alloc (w := w) (T := fun o => o < es.length * k) (ob := .cells r e) hlt
  have key : ∀ (i : Nat) y (j : Nat) c, es[i]? = some y → y.cells[j]? = some c → i * k + j < es.length * k ∧ ∃ v u, vs[i]? = some v ∧ v.cells[j]? = some u ∧ PRep w st c u ∧ u.oneCell' = true := by
    intro i y j c hy hc
    obtain ⟨m1, m2⟩ := sizesB_mem hsz y (List.mem_of_getElem? hy)
    have hi : i < es.length := (List.getElem?_eq_some_iff.1 hy).1
    have hj : j < k := by rw [← m1]; exact (List.getElem?_eq_some_iff.1 hc).1
    have h1 : (i + 1) * k ≤ es.length * k := Nat.mul_le_mul_right k (by omega)
    rw [Nat.add_mul] at h1
    refine ⟨by omega, vs[i]'(by omega), ?_⟩
    have hp := hr i y _ hy (List.getElem?_eq_getElem (by omega))
    obtain ⟨q1, q2⟩ := prep_cells hp m2
    have hj' : j < (vs[i]'(by omega)).cells.size := by omega
    obtain ⟨q3, q4⟩ := q2 j c _ hc (Array.getElem?_eq_getElem hj')
    exact ⟨_, List.getElem?_eq_getElem (by omega), Array.getElem?_eq_getElem hj', q3, q4⟩
  refine .slice k (fun i j => r.getD (i * k + j) Go.undef) hcap (fun y hy => (sizesB_mem hsz y hy).1) (fun y hy c hc => onesB_mem (sizesB_mem hsz y hy).2 c hc) (fun i y j c hy hc => ?_) (fun i y j c hy hc => ?_)
  · obtain ⟨h1, v, u, h2, h3, h4, _⟩ := key i y j c hy hc
    have hlt' : i * k + j < r.size := by omega
    refine ⟨.inr ⟨rfl, by omega⟩, ?_⟩
    rw [World.cell?_alloc_new]
    simp [Array.getD, hlt']
  · obtain ⟨h1, v, u, h2, h3, h4, _⟩ := key i y j c hy hc
    have hj : j < k := by rw [← (sizesB_mem hsz y (List.mem_of_getElem? hy)).1]; exact (List.getElem?_eq_some_iff.1 hc).1
    have e1 : r[i * k + j]? = some u := by
      rw [hrk _ h1]
      have d1 : (i * k + j) / k = i := by rw [Nat.mul_comm, Nat.mul_add_div hk, Nat.div_eq_of_lt hj]; rfl
      have d2 : (i * k + j) % k = j := by rw [Nat.mul_comm, Nat.mul_add_mod, Nat.mod_eq_of_lt hj]
      rw [d1, d2, h2]; exact h3
    rw [Array.getD_eq_getD_getElem?, e1]
    exact h4.mono hev

/-- A slice literal, as settled contents. -/
theorem ok_buildSlice {t e len : Nat} {parts : Array (Nat × Operand)} {i ie : TI} {es : List PV} (ho : o.op = .buildSlice t len parts) (hd : o.dst = some d) (hn : Nat.blt d C.n = true)
    (hi : look C.tt t = some i) (hik : i.k = .slice e) (hie : look C.tt e = some ie) (hes : elemsA sl 0 parts.toList = some es) (hlen : Nat.beq es.length len = true) (hpos : Nat.blt 0 len = true)
    (hk : Nat.blt 0 ie.size = true) (hsm : Nat.ble (len * ie.size) 16777216 = true) (hsz : sizesB ie.size es = true) (hzl : Nat.beq ie.zero.length ie.size = true)
    (hK : K ⟨(d, .p (.slice es)) :: sl, ob⟩) : OpOk C o K ⟨sl, ob⟩ := by
  obtain ⟨u, h1, h2⟩ := und_of C.good hi
  have h3 := kind_slice (h2.trans hik)
  subst h3
  have hlen' : es.length = len := Nat.eq_of_beq_eq_true hlen
  have hpos' : 0 < len := by simpa using hpos
  have hk' : 0 < ie.size := by simpa using hk
  have hsm' := Nat.le_of_ble_eq_true hsm
  have hzl' := Nat.eq_of_beq_eq_true hzl
  obtain ⟨j, hj, hj1, hj2, z, hz1, hz2⟩ := info_of C.good hie
  intro g a w hs
  obtain ⟨q1, q2, q3⟩ := elemsA_spec hs _ 0 es hes
  obtain ⟨vs, hvs⟩ : ∃ vs, vs = parts.toList.map fun p => a.eval p.2 := ⟨_, rfl⟩
  rw [← hvs] at q1 q3
  have hvl : es.length = vs.length := by rw [hvs, List.length_map]; exact q2
  have hzs : z.cells.size = ie.size := by rw [← hzl', ← hz2, Array.length_toList]
  have hvsz : ∀ v ∈ vs, v.cells.size = ie.size := by
    intro v hv
    obtain ⟨m, hm, rfl⟩ := List.getElem_of_mem hv
    have hp := q3 m (es[m]'(by omega)) _ (List.getElem?_eq_getElem (by omega)) (List.getElem?_eq_getElem hm)
    obtain ⟨m1, m2⟩ := sizesB_mem hsz (es[m]'(by omega)) (List.getElem_mem _)
    rw [(prep_cells hp m2).1, m1]
  obtain ⟨r, f1, f2, f3⟩ := Great.fill_dense hk' vs 0 ((Array.range (len * ie.size)).map (z.cells[· % z.cells.size]!)) hvsz (by simp; rw [← hvl, hlen']; exact Nat.le_refl _)
  have f1' : Instr.fill (fun i => some (i * ie.size, ie.size)) ((Array.range (len * ie.size)).map (z.cells[· % z.cells.size]!)) (parts.map fun (i, x) => (i, a.eval x)).toList = some r := by
    rw [Array.toList_map]; rw [← f1]; congr 1
  have hrun := run_buildSlice (P := C.P) w t e len (parts.map fun (i, x) => (i, a.eval x)) r j z h1 hj hz1 (by rw [hj1]; omega) (by rw [hj1]; have := Nat.mul_pos hpos' hk'; omega) (by rw [hj1]; exact f1')
  unfold Oper.wp
  have hrun' : (execOp a.eval o).run C.P w = .ok (.value (.slice (some ⟨w.heap.size, 0, none⟩) len len)) (w.alloc (.cells r e)) := by
    simp only [execOp, ho, Sem.run_bind, hrun, Result.andThen_ok, Sem.run_pure]
  rw [hrun']
  have hprep := row_prep (e := e) hk' hvl hs.lt q3 hsz (r := r) (by rw [f2]; simp; rw [hlen']) (fun m hm => by rw [f3 m, if_pos (by simp; rw [← hvl]; exact hm)]; simp) len (by omega)
  have hst := (hs.settled (fun o => o < es.length * ie.size) r e).put (d := o.dst) (fun t ht => by rw [hd] at ht; cases ht; exact Nat.blt_eq ▸ hn) (.p hprep)
  rw [hlen'] at hst
  simp only [Oper.upon]
  rw [hd] at hst ⊢
  exact ⟨_, _, hst, hK⟩

/-! ### Calls -/
def argsA (sl : List (Nat × AV)) : List Operand → Option (List AV)
  | [] => some []
  | x :: r => match evo sl x, argsA sl r with
    | some y, some l => some (y :: l)
    | _, _ => none

def subsP : List AV → List PV → Prop
  | [], [] => True
  | x :: r, y :: q => x.sub (.p y) ∧ subsP r q
  | _, _ => False

theorem argsA_spec {n : Nat} {w0 : Base} {w : World} {F : Nat → Prop} {g : Gh} {a : Act} (hs : St n w0 F g ⟨sl, ob⟩ a w) : ∀ (xs : List Operand) (l : List AV), argsA sl xs = some l →
    l.length = xs.length ∧ ∀ (j : Nat) y v, l[j]? = some y → (xs.map a.eval)[j]? = some v → ARep w g y v
  | [], l, h => by simp only [argsA, Option.some.injEq] at h; subst h; exact ⟨rfl, by simp⟩
  | x :: r, l, h => by
    simp only [argsA] at h
    split at h
    · rename_i y l' hy hl'
      cases h
      obtain ⟨h1, h2⟩ := argsA_spec hs r l' hl'
      refine ⟨by simp [h1], fun j y' v hy' hv => ?_⟩
      cases j with
      | zero => simp only [List.map_cons, List.getElem?_cons_zero, Option.some.injEq] at hy' hv; subst hy' hv; exact evo_rep hs hy
      | succ j => simp only [List.map_cons, List.getElem?_cons_succ] at hy' hv; exact h2 j y' v hy' hv
    · cases h

theorem subsP_spec : ∀ {l : List AV} {q : List PV}, subsP l q → l.length = q.length ∧ ∀ (j : Nat) x y, l[j]? = some x → q[j]? = some y → x.sub (.p y)
  | [], [], _ => ⟨rfl, by simp⟩
  | [], _ :: _, h => h.elim
  | _ :: _, [], h => h.elim
  | x :: r, y :: q, h => by
    obtain ⟨h1, h2⟩ := subsP_spec h.2
    refine ⟨by simp [h1], fun j x' y' hx hy => ?_⟩
    cases j with
    | zero => simp only [List.getElem?_cons_zero, Option.some.injEq] at hx hy; subst hx hy; exact h.1
    | succ j => simp only [List.getElem?_cons_succ] at hx hy; exact h2 j x' y' hx hy

/-- What a call hands back, with nothing owned. -/
def AV.settle : AV → Option AV
  | .p x => some (.p x)
  | .vec _ _ _ es => some (.p (.slice es))
  | .tuple l => match go l with
    | some l => some (.tuple l)
    | none => none
  | .agg cs => match AV.toPV (.agg cs) with
    | some y => some (.p y)
    | none => none
  | _ => none
where
  go : List AV → Option (List AV)
  | [] => some []
  | x :: r => match AV.toPV x, go r with
    | some y, some l => some (.p y :: l)
    | _, _ => none

theorem settle_go {w : World} {g g' : Gh} (hst : g'.st = g.st) : ∀ {l l' : List AV}, AV.settle.go l = some l' → l.length = l'.length ∧ ∀ (j : Nat) x y v, l[j]? = some x → l'[j]? = some y → ARep w g x v → ARep w g' y v
  | [], l', h => by simp only [AV.settle.go, Option.some.injEq] at h; subst h; exact ⟨rfl, by simp⟩
  | x :: r, l', h => by
    simp only [AV.settle.go] at h
    split at h
    · rename_i y l0 hy h0
      cases h
      obtain ⟨h1, h2⟩ := settle_go (w := w) hst h0
      refine ⟨by simp [h1], fun j x' y' v hx hy' hv => ?_⟩
      cases j with
      | zero => simp only [List.getElem?_cons_zero, Option.some.injEq] at hx hy'; subst hx hy'; exact .p (hst ▸ toPV_rep hy hv)
      | succ j => simp only [List.getElem?_cons_succ] at hx hy'; exact h2 j x' y' v hx hy' hv
    · cases h

theorem settle_rep {w : World} {g g' : Gh} (hst : g'.st = g.st) {x y : AV} {v : Value} (hx : x.settle = some y) (h : ARep w g x v) : ARep w g' y v := by
  unfold AV.settle at hx
  split at hx
  · cases hx; cases h with | p h => exact .p (hst ▸ h)
  · cases hx; exact .p (hst ▸ slice_view (.inr ⟨_, _, _, rfl⟩) h)
  · split at hx
    · rename_i l _ l' h'
      cases hx
      cases h with
      | tuple hl hh =>
        obtain ⟨h1, h2⟩ := settle_go (w := w) hst h'
        refine .tuple (by omega) fun i c v hc hv => ?_
        have hi : i < l.length := by have := (List.getElem?_eq_some_iff.1 hc).1; omega
        exact h2 i l[i] c v (List.getElem?_eq_getElem hi) hc (hh i _ v (List.getElem?_eq_getElem hi) hv)
    · cases hx
  · split at hx
    · rename_i y' h'; cases hx; exact .p (hst ▸ toPV_rep h' h)
    · cases hx
  · cases hx

/-- A call by the callee's contract. -/
theorem ok_call {f : FuncId} {args : Array Operand} {ts : Array TypeId} {l : List AV} {q : List PV} {R : AV → Prop} (hc : PCalls C.P f q R) (ho : o.op = .call { callee := .value (.func f), args := args, argTypes := ts })
    (hd : o.dst = some d) (hn : Nat.blt d C.n = true) (hl : argsA sl args.toList = some l) (hq : subsP l q) (henter : ∀ vs w, (callFunc f vs).run C.P w = .ok (.enter f vs) w)
    (hK : ∀ r, R r → ∃ r', r.settle = some r' ∧ K ⟨(d, r') :: sl, ob⟩) : OpOk C o K ⟨sl, ob⟩ := by
  intro g a w hs
  obtain ⟨a1, a2⟩ := argsA_spec hs _ l hl
  obtain ⟨b1, b2⟩ := subsP_spec hq
  have hargs : ∀ (i : Nat) c v, q[i]? = some c → (args.map a.eval)[i]? = some v → PRep w g.st c v := by
    intro i c v hc hv
    have hi : i < l.length := by have := (List.getElem?_eq_some_iff.1 hc).1; omega
    have hv' : (args.toList.map a.eval)[i]? = some v := by rw [← Array.toList_map]; simpa using hv
    have h1 := b2 i l[i] c (List.getElem?_eq_getElem hi) hc w g v (a2 i _ v (List.getElem?_eq_getElem hi) hv')
    cases h1 with
    | p h1 => exact h1
  have hcall := hc w g.st (args.map a.eval) hs.ok0 (by have hlen := a1.symm.trans b1; simpa using hlen) hargs
  unfold Oper.wp
  have hrun : (execOp a.eval o).run C.P w = .ok (.enter f (args.map a.eval)) w := by
    simp [execOp, ho, resolve, Act.eval, Deferred.ofValue, invoke, henter]
  rw [hrun]
  simp only [Oper.upon]
  refine hcall.mono fun e w' ⟨v, r, g', he, hR, hr, hA⟩ => ?_
  subst he
  obtain ⟨r', hr', hK'⟩ := hK r hR
  have hs' : St C.n C.w0 C.F ⟨g'.st, g.ow⟩ ⟨sl, ob⟩ a w' := by
    refine hs.evolve0 (fun b o h => ?_) (fun id b h => ?_) hs.inj (fun i b h => ?_) hA.lt (fun b h => ?_) hA.os hA.out hA.tape hA.size (fun b hb o => ?_) (fun _ _ => rfl)
    · have hlt := hs.lt b o h
      exact ⟨(hA.stf b hlt o).2 h, by simp only [World.cell?, hA.fr b hlt]⟩
    · have hlt := (hs.own id b h).1
      exact ⟨h, hA.fr b hlt, fun o ho => (hA.stf b hlt o).1 ho⟩
    · have := hs.own i b h; have := hA.size; exact ⟨by omega, (hs.own i b h).2⟩
    · have := hs.fl b h; have := hs.size; exact hA.fr b (by omega)
    · have := hs.fl b hb; have := hs.size; exact hA.stf b (by omega) o
  have hp := hs'.put (d := o.dst) (fun t ht => by rw [hd] at ht; cases ht; exact Nat.blt_eq ▸ hn) (settle_rep (g := g') (g' := ⟨g'.st, g.ow⟩) rfl hr' hr)
  rw [hd] at hp
  simp only
  rw [hd]
  exact ⟨_, _, hp, hK'⟩

/-- A call whose result is known. -/
theorem ok_callP {f : FuncId} {args : Array Operand} {ts : Array TypeId} {l : List AV} {q : List PV} {r r' : AV} (hc : PCalls C.P f q (· = r)) (ho : o.op = .call { callee := .value (.func f), args := args, argTypes := ts })
    (hd : o.dst = some d) (hn : Nat.blt d C.n = true) (hl : argsA sl args.toList = some l) (hq : subsP l q) (henter : ∀ vs w, (callFunc f vs).run C.P w = .ok (.enter f vs) w)
    (hr : r.settle = some r') (hK : K ⟨(d, r') :: sl, ob⟩) : OpOk C o K ⟨sl, ob⟩ :=
  ok_call hc ho hd hn hl hq henter fun _ e => e ▸ ⟨r', hr, hK⟩

end
end Go.Ab
