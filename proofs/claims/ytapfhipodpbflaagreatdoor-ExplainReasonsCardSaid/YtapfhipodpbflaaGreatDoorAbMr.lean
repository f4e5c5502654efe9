/- A layer of abstract values over the model's worlds, part Mr: maps that a call made, of rows that grow. It holds for every program. -/
import Derived.Test.YtapfhipodpbflaaGreatDoorAbMp
set_option linter.unusedVariables false
set_option linter.unusedSimpArgs false
set_option linter.unnecessarySimpa false
namespace Go.Ab
open Go.MapKept

/- As 'dem', for identities of any size; what is known of maps of rows is given up. -/
mutual
def AV.dm2 (D : Nat → Bool) : AV → AV
  | .undef => .undef
  | .p x => .p x
  | .agg cs => .agg (dm2L D cs)
  | .vec tok sz ty es => bif D tok then .p (.slice es) else .vec tok sz ty es
  | .arr id sz off n => bif D id then .undef else .arr id sz off n
  | .ptr id off => bif D id then .undef else .ptr id off
  | .bptr T sz id => bif D id then .undef else .bptr T sz id
  | .rptr cs => .rptr cs
  | .tuple cs => .tuple (dm2L D cs)
  | .func f cs => .func f (dm2L D cs)
  | .mp tok kvs => bif D tok then .undef else .mp tok kvs
  | .mpr .. => .undef
  | .stk tok sz es => bif D tok then .undef else .stk tok sz es
  | .sem _ => .undef
  | .it .. => .undef
  | .vecp .. => .undef
  | .elp .. => .undef
def dm2L (D : Nat → Bool) : List AV → List AV
  | [] => []
  | x :: r => x.dm2 D :: dm2L D r
end
theorem dm2L_eq (D : Nat → Bool) : ∀ l, dm2L D l = l.map (AV.dm2 D)
  | [] => rfl
  | x :: r => by simp [dm2L, dm2L_eq D r]
theorem ARep.dm2 {D : Nat → Bool} {w w' : World} {g g' : Gh} (ev : Ev w g.st w' g'.st) (ow : ∀ id b, D id = false → g.ow id = some b → g'.ow id = some b)
    (shape : ∀ id b c e, D id = false → g.ow id = some b → w.heap[b]? = some (.cells c e (0, 0)) → ∃ c' : Array Value, w'.heap[b]? = some (.cells c' e (0, 0)) ∧ c'.size = c.size)
    (tip : ∀ id b o, D id = false → g.ow id = some b → g'.st b o → g.st b o)
    (mp : ∀ id b es k, D id = false → g.ow id = some b → w.heap[b]? = some (.map es k) → w'.heap[b]? = some (.map es k))
    (stab : ∀ id b o, D id = false → g.ow id = some b → g.st b o → w'.heap[b]? = w.heap[b]?) {x : AV} {v : Value} (h : ARep w g x v) : ARep w' g' (x.dm2 D) v := by
  induction h with
  | undef v => simp only [AV.dm2]; exact .undef _
  | p h => simp only [AV.dm2]; exact .p (h.mono ev)
  | agg hl h ih =>
    simp only [AV.dm2, dm2L_eq]
    refine .agg (by simpa using hl) fun i c v h1 h2 => ?_
    simp only [List.getElem?_map, Option.map_eq_some_iff] at h1
    obtain ⟨c0, h1, rfl⟩ := h1
    exact ih i c0 v h1 h2
  | vecn tok sz ty =>
    simp only [AV.dm2]
    cases D tok
    · exact .vecn _ _ _
    · exact .p .nils
  | vece tok sz a =>
    simp only [AV.dm2]
    cases D tok
    · exact .vece _ _ _
    · exact .p (.nile a)
  | vec how hb hcs hsz hst hr hty =>
    simp only [AV.dm2]
    cases hD : D _
    · obtain ⟨c', hb', hs'⟩ := shape _ _ _ _ hD how hb
      exact .vec (ow _ _ hD how) hb' (hs'.trans hcs) hsz (fun o => ⟨fun h => (hst o).1 (tip _ _ o hD how h), fun h => (ev _ _ ((hst o).2 h)).1⟩) (hr.mono ev) hty
    · exact .p (hr.mono ev)
  | arr how hb hcs hn =>
    simp only [AV.dm2]
    cases hD : D _
    · obtain ⟨c', hb', hs'⟩ := shape _ _ _ _ hD how hb
      exact .arr (ow _ _ hD how) hb' (hs'.trans hcs) hn
    · exact .undef _
  | ptr how =>
    simp only [AV.dm2]
    cases hD : D _
    · exact .ptr (ow _ _ hD how)
    · exact .undef _
  | bptrn how hb hcs =>
    simp only [AV.dm2]
    cases hD : D _
    · obtain ⟨c', hb', hs'⟩ := shape _ _ _ _ hD how hb
      exact .bptrn (ow _ _ hD how) hb' (hs'.trans hcs)
    · exact .undef _
  | bptr how hb hcs =>
    simp only [AV.dm2]
    cases hD : D _
    · obtain ⟨c', hb', hs'⟩ := shape _ _ _ _ hD how hb
      exact .bptr (ow _ _ hD how) hb' (hs'.trans hcs)
    · exact .undef _
  | rptr cf hc hr =>
    simp only [AV.dm2]
    exact .rptr cf (fun j c h => ⟨(ev _ _ (hc j c h).1).1, (ev _ _ (hc j c h).1).2.trans (hc j c h).2⟩) (fun j c h => (hr j c h).mono ev)
  | tuple hl h ih =>
    simp only [AV.dm2, dm2L_eq]
    refine .tuple (by simpa using hl) fun i c v h1 h2 => ?_
    simp only [List.getElem?_map, Option.map_eq_some_iff] at h1
    obtain ⟨c0, h1, rfl⟩ := h1
    exact ih i c0 v h1 h2
  | func hl h ih =>
    simp only [AV.dm2, dm2L_eq]
    refine .func (by simpa using hl) fun i c v h1 h2 => ?_
    simp only [List.getElem?_map, Option.map_eq_some_iff] at h1
    obtain ⟨c0, h1, rfl⟩ := h1
    exact ih i c0 v h1 h2
  | mp how hb hn hd hk hv =>
    simp only [AV.dm2]
    cases hD : D _
    · exact .mp (ow _ _ hD how) (mp _ _ _ _ hD how hb) hn hd hk (fun i e kv h1 h2 => (hv i e kv h1 h2).mono ev)
    · exact .undef _
  | mpr => simp only [AV.dm2]; exact .undef _
  | stkn tok sz =>
    simp only [AV.dm2]
    cases D tok
    · exact .stkn _ _
    · exact .undef _
  | stke tok sz a =>
    simp only [AV.dm2]
    cases D tok
    · exact .stke _ _ _
    · exact .undef _
  | stk how hb hcs hlen hsz hone hst hr =>
    simp only [AV.dm2]
    cases hD : D _
    · exact .stk (ow _ _ hD how) ((stab _ _ _ hD how ((hst _).2 rfl)).trans hb) hcs hlen hsz hone (fun o => ⟨fun h => (hst o).1 (tip _ _ o hD how h), fun h => (ev _ _ ((hst o).2 h)).1⟩) (fun i x j p h1 h2 => by obtain ⟨v, h3, h4⟩ := hr i x j p h1 h2; exact ⟨v, h3, h4.mono ev⟩)
    · exact .undef _
  | sem => simp only [AV.dm2]; exact .undef _
  | it => simp only [AV.dm2]; exact .undef _
  | vecp => simp only [AV.dm2]; exact .undef _
  | elp => simp only [AV.dm2]; exact .undef _

/-- The identities e and t, and those of rows in maps. -/
def bigOr (e t : Nat) (i : Nat) : Bool := Nat.beq i e || Nat.beq i t || Nat.ble MZ i
/-- What is known behind a change of the map of rows tok. -/
def tkA (tok e : Nat) (y x : AV) : AV := match x with
  | .mpr t _ _ _ _ => bif Nat.beq t tok then y else .undef
  | x => x.dm2 (bigOr e tok)
def tkS (tok e : Nat) (y : AV) : List (Nat × AV) → Option (List (Nat × AV))
  | [] => some []
  | (i, x) :: r => (match frc (tkA tok e y x) with
    | some z => (match tkS tok e y r with | some l => some ((i, z) :: l) | none => none)
    | none => none)
theorem tkS_ok {tok e : Nat} {y : AV} : ∀ {l l' : List (Nat × AV)}, tkS tok e y l = some l' → l' = l.map fun p => (p.1, tkA tok e y p.2)
  | [], l', h => by cases h; rfl
  | (i, x) :: r, l', h => by
    unfold tkS at h
    split at h
    · rename_i z hz
      split at h
      · rename_i m hm; cases h; rw [frc_ok hz, tkS_ok hm]; rfl
      · cases h
    · cases h
def tkC (e t : Nat) : List AV → Option (List AV)
  | [] => some []
  | x :: r => (match frc (x.dm2 (bigOr e t)) with
    | some y => (match tkC e t r with | some l => some (y :: l) | none => none)
    | none => none)
theorem tkC_ok {e t : Nat} : ∀ {l l' : List AV}, tkC e t l = some l' → l' = dm2L (bigOr e t) l
  | [], l', h => by cases h; rfl
  | x :: r, l', h => by
    unfold tkC at h
    split at h
    · rename_i y hy
      split at h
      · rename_i m hm; cases h; rw [frc_ok hy, tkC_ok hm]; rfl
      · cases h
    · cases h
def tkO (e t : Nat) : List (Nat × List AV) → Option (List (Nat × List AV))
  | [] => some []
  | (i, cs) :: r => (match bigOr e t i with
    | true => tkO e t r
    | false => (match tkC e t cs with
      | some ds => (match tkO e t r with | some l => some ((i, ds) :: l) | none => none)
      | none => none))
theorem tkO_look {e t : Nat} : ∀ {l l' : List (Nat × List AV)}, tkO e t l = some l' → ∀ id cs, look l' id = some cs → bigOr e t id = false ∧ ∃ ds, look l id = some ds ∧ cs = dm2L (bigOr e t) ds
  | [], l', h, id, cs, hc => by cases h; cases hc
  | (i, xs) :: r, l', h, id, cs, hc => by
    unfold tkO at h
    split at h
    · rename_i hb
      obtain ⟨h1, ds, h2, h3⟩ := tkO_look h id cs hc
      refine ⟨h1, ds, ?_, h3⟩
      rw [look_cons, if_neg (fun e' => by subst e'; rw [hb] at h1; cases h1)]
      exact h2
    · rename_i hb
      split at h
      · rename_i ds hds
        split at h
        · rename_i m hm
          cases h
          rw [look_cons] at hc ⊢
          by_cases e1 : i = id
          · subst e1
            rw [if_pos rfl] at hc ⊢
            cases hc
            exact ⟨hb, xs, rfl, tkC_ok hds⟩
          · rw [if_neg e1] at hc ⊢
            exact tkO_look hm id cs hc
        · cases h
      · cases h

theorem find_casesR {α : Type} {es : Array MapEntry} {kvs : List (Bytes × α)} (hn : es.size = kvs.length) (hk : ∀ (i : Nat) e kv, es[i]? = some e → kvs[i]? = some kv → e.key = .string ⟨kv.1.toArray⟩) (k : Bytes) :
    (∀ x ∈ es.toList, IsKey .string x.key) ∧
    ((Instr.findNow .string (.string ⟨k.toArray⟩) es.toList 0 = some none ∧ (∀ x ∈ es.toList, x.key ≠ .string ⟨k.toArray⟩) ∧ ∀ p ∈ kvs, p.1 ≠ k) ∨
    ∃ j e v, Instr.findNow .string (.string ⟨k.toArray⟩) es.toList 0 = some (some (j, e.val)) ∧ es[j]? = some e ∧ e.key = .string ⟨k.toArray⟩ ∧ kvs[j]? = some (k, v)) := by
  have hks : ∀ x ∈ es.toList, IsKey .string x.key := by
    intro x hx
    obtain ⟨i, hi⟩ := List.mem_iff_getElem?.1 hx
    rw [Array.getElem?_toList] at hi
    have hil := (Array.getElem?_eq_some_iff.1 hi).1
    have := hk i x kvs[i] hi (List.getElem?_eq_getElem (by omega))
    rw [this]; trivial
  refine ⟨hks, ?_⟩
  rcases findNow_spec (k := .string ⟨k.toArray⟩) (d := .string) trivial es.toList 0 hks with ⟨h1, h2⟩ | ⟨j, e, h1, h2, h3⟩
  · refine .inl ⟨h1, h2, fun p hp e => ?_⟩
    obtain ⟨i, hi⟩ := List.mem_iff_getElem?.1 hp
    have hil := (List.getElem?_eq_some_iff.1 hi).1
    have hes : es[i]? = some es[i] := Array.getElem?_eq_getElem (by omega)
    have := hk i es[i] p hes hi
    exact h2 es[i] (Array.getElem_mem_toList (by omega)) (by rw [this, e])
  · rw [Array.getElem?_toList] at h2
    have hil := (Array.getElem?_eq_some_iff.1 h2).1
    have hkv : kvs[j]? = some kvs[j] := List.getElem?_eq_getElem (by omega)
    have := hk j e kvs[j] h2 hkv
    have he : kvs[j].1 = k := str_inj (this.symm.trans h3)
    refine .inr ⟨j, e, kvs[j].2, by rw [h1]; simp, h2, h3, ?_⟩
    rw [hkv, ← he]

theorem rid_ne {d t i : Nat} (h : d < MZ) : t + MZ * (i + 1) ≠ d := by rw [Nat.mul_add, Nat.mul_one]; omega
/-- A row in a map, seen only. -/
theorem rowAV_view {w : World} {g : Gh} {tok sz ty : Nat} {tk : Option Bytes} {i : Nat} {kv : Bytes × List PV} {v : Value} (h : ARep w g (rowAV tok sz ty tk i kv) v) : PRep w g.st (.slice kv.2) v := by
  unfold rowAV at h
  split at h
  · cases h with
    | p h => exact h
  · have := AV.sub_vec _ _ _ _ _ _ _ h
    cases this with
    | p h => exact h

section
variable {C : Cx} {o : Oper} {K : AS → Prop} {sl : List (Nat × AV)} {ob : List (Nat × List AV)} {d : Nat}

/-- A new map of rows. -/
theorem ok_makeMapRow {t : TypeId} (sz ty : Nat) {sl' : List (Nat × AV)} {ob' : List (Nat × List AV)} (ho : o.op = .makeMap t none) (hd : o.dst = some d) (hn : Nat.blt d C.n = true)
    (h1 : dmS (Nat.beq · d) sl = some sl') (h2 : dmO (Nat.beq · d) ob = some ob') (hK : K ⟨(d, .mpr d sz ty none []) :: sl', ob'⟩) : OpOk C o K ⟨sl, ob⟩ :=
  ok_makeMapR hd hn (fun g a w hs => by simp [execOp, ho, Instr.makeMap, newObj, Sem.run]) (fun w g b h1 h2 => .mpr h1 h2 rfl (by simp) (by simp) (by simp)) h1 h2 hK
theorem ok_makeMapRowH {t : TypeId} (sz ty : Nat) {x : Operand} {n : Int} {i : TI} {kt et : Nat} {sl' : List (Nat × AV)} {ob' : List (Nat × List AV)} (ho : o.op = .makeMap t (some x)) (hd : o.dst = some d) (hn : Nat.blt d C.n = true)
    (hi : look C.tt t = some i) (hik : i.k = .map kt et) (hx : evo sl x = some (.p (.val (.int .i64 n)))) (h1 : dmS (Nat.beq · d) sl = some sl') (h2 : dmO (Nat.beq · d) ob = some ob') (hK : K ⟨(d, .mpr d sz ty none []) :: sl', ob'⟩) : OpOk C o K ⟨sl, ob⟩ := by
  obtain ⟨u, hu1, hu2⟩ := und_of C.good hi
  obtain rfl := kind_map (hu2.trans hik)
  refine ok_makeMapR hd hn (fun g a w hs => ?_) (fun w g b h1 h2 => .mpr h1 h2 rfl (by simp) (by simp) (by simp)) h1 h2 hK
  have hv := evo_val hs hx
  simp [execOp, ho, hv, Instr.makeMap, run_underlying hu1, asInt, asIntOf, newObj, Sem.run, Result.andThen]

/-- What a map of rows has at a key, seen only. -/
theorem ok_lookR {t kt et : TypeId} {x y : Operand} {i j : TI} {tok sz ty : Nat} {tk : Option Bytes} {kvs : List (Bytes × List PV)} {k : Bytes} {r : List PV} (ho : o.op = .lookup t x y false) (hd : o.dst = some d) (hn : Nat.blt d C.n = true)
    (hi : look C.tt t = some i) (hik : i.k = .map kt et) (hj : look C.tt kt = some j) (hjk : j.k = .string) (hz : (C.P.info? et).map (·.zero) = some (some (.slice none 0 0)))
    (hx : evo sl x = some (.mpr tok sz ty tk kvs)) (hy : evo sl y = some (.p (.val (.string ⟨k.toArray⟩)))) (hr : (lookM kvs k).getD [] = r) (hK : K ⟨(d, .p (.slice r)) :: sl, ob⟩) : OpOk C o K ⟨sl, ob⟩ := by
  obtain ⟨u, h1, h2⟩ := und_of C.good hi
  obtain rfl := kind_map (h2.trans hik)
  obtain ⟨u2, h3, h4⟩ := und_of C.good hj
  obtain rfl := kind_string (h4.trans hjk)
  refine ok_one hd hn (fun g a w hs => ?_) hK
  have hm := evo_rep hs hx
  have hkv := evo_val hs hy
  generalize hv : a.eval x = v at hm
  cases hm with
  | mpr how hb hN hD hkeys hvals =>
    rename_i b ck es
    obtain ⟨hks, hc⟩ := find_casesR hN hkeys k
    have hz2 : (zeroValue et).run C.P w = .ok (.slice none 0 0) w := by
      obtain ⟨inf, hinf, hzz⟩ := Option.map_eq_some_iff.1 hz
      simp [zeroValue, typeInfo, hinf, hzz]
    rcases hc with ⟨f1, f2, f3⟩ | ⟨jj, e, v', f1, f2, f3, f4⟩
    · refine ⟨.slice none 0 0, ?_, ?_⟩
      · simp [execOp, ho, hv, hkv, Instr.lookup, run_underlying h1, Go.MapKept.run_getObj_map hb, run_checkKey (d := .string) h3 (k := .string ⟨k.toArray⟩) trivial, run_findKey h3 f1, hz2, Result.andThen]
      · rw [← hr, lookM_none f3]; exact .p .nils
    · refine ⟨e.val, ?_, ?_⟩
      · simp [execOp, ho, hv, hkv, Instr.lookup, run_underlying h1, Go.MapKept.run_getObj_map hb, run_checkKey (d := .string) h3 (k := .string ⟨k.toArray⟩) trivial, run_findKey h3 f1, Result.andThen]
      · rw [← hr, lookM_at hD f4]
        exact .p (rowAV_view (hvals jj e _ f2 f4))

/-- A row is taken out of a map, to grow. -/
theorem ok_takeR {t kt et : TypeId} {x y : Operand} {i j : TI} {tok sz ty : Nat} {kvs : List (Bytes × List PV)} {k : Bytes} {r : List PV} {sl' : List (Nat × AV)} {ob' : List (Nat × List AV)} (ho : o.op = .lookup t x y false) (hd : o.dst = some d) (hn : Nat.blt d C.n = true)
    (hi : look C.tt t = some i) (hik : i.k = .map kt et) (hj : look C.tt kt = some j) (hjk : j.k = .string) (hz : (C.P.info? et).map (·.zero) = some (some (.slice none 0 0)))
    (hx : evo sl x = some (.mpr tok sz ty none kvs)) (hy : evo sl y = some (.p (.val (.string ⟨k.toArray⟩)))) (hr : (lookM kvs k).getD [] = r) (htok : Nat.blt tok M1 = true) (hdt : Nat.beq d tok = false)
    (h1 : tkS tok d (.mpr tok sz ty (some k) kvs) sl = some sl') (h2 : tkO d tok ob = some ob') (hK : K ⟨(d, .vec d sz ty r) :: sl', ob'⟩) : OpOk C o K ⟨sl, ob⟩ := by
  obtain ⟨u, hu1, hu2⟩ := und_of C.good hi
  obtain rfl := kind_map (hu2.trans hik)
  obtain ⟨u2, hu3, hu4⟩ := und_of C.good hj
  obtain rfl := kind_string (hu4.trans hjk)
  have htl : tok < M1 := Nat.blt_eq ▸ htok
  have hdl : d < M1 := by have h1 := Nat.le_of_ble_eq_true C.nl; have h2 : d < C.n := Nat.blt_eq ▸ hn; omega
  have hM : M1 ≤ MZ := by decide
  have hne : d ≠ tok := fun e => by subst e; simp at hdt
  intro g a w hs
  have hm := evo_rep hs hx
  have hkv := evo_val hs hy
  generalize hvx : a.eval x = vx at hm
  cases hm with
  | mpr how hb hN hD hkeys hvals =>
    rename_i b ck es
    obtain ⟨hks, hc⟩ := find_casesR hN hkeys k
    have hz2 : (zeroValue et).run C.P w = .ok (.slice none 0 0) w := by
      obtain ⟨inf, hinf, hzz⟩ := Option.map_eq_some_iff.1 hz
      simp [zeroValue, typeInfo, hinf, hzz]
    -- the place of the row, and its value
    obtain ⟨jj, v, hrun, hjj, hrow⟩ : ∃ (jj : Nat) (v : Value), (execOp a.eval o).run C.P w = .ok (.value v) w ∧ (∀ i kv, kvs[i]? = some kv → kv.1 ≠ k → i ≠ jj) ∧ (ARep w g (.vec (tok + MZ * (jj + 1)) sz ty r) v) := by
      rcases hc with ⟨f1, f2, f3⟩ | ⟨jj, e, v', f1, f2, f3, f4⟩
      · refine ⟨kvs.length, .slice none 0 0, ?_, fun i kv hi _ e => ?_, ?_⟩
        · simp [execOp, ho, hvx, hkv, Instr.lookup, run_underlying hu1, Go.MapKept.run_getObj_map hb, run_checkKey (d := .string) hu3 (k := .string ⟨k.toArray⟩) trivial, run_findKey hu3 f1, hz2, Result.andThen]
        · have := (List.getElem?_eq_some_iff.1 hi).1; omega
        · rw [← hr, lookM_none f3]; exact .vecn _ _ _
      · refine ⟨jj, e.val, ?_, fun i kv hi hne e => ?_, ?_⟩
        · simp [execOp, ho, hvx, hkv, Instr.lookup, run_underlying hu1, Go.MapKept.run_getObj_map hb, run_checkKey (d := .string) hu3 (k := .string ⟨k.toArray⟩) trivial, run_findKey hu3 f1, Result.andThen]
        · subst e; rw [f4] at hi; cases hi; exact hne rfl
        · rw [← hr, lookM_at hD f4]
          have := hvals jj e _ f2 f4
          unfold rowAV at this
          rw [if_neg (by simp)] at this
          exact this
    unfold Oper.wp
    rw [hrun]
    obtain ⟨rid, hrid⟩ : ∃ rid, rid = tok + MZ * (jj + 1) := ⟨_, rfl⟩
    have hridZ : MZ ≤ rid := by rw [hrid, Nat.mul_add, Nat.mul_one]; omega
    obtain ⟨g', hg'⟩ : ∃ g' : Gh, g' = ⟨g.st, fun i => if i = d then g.ow rid else if i = rid then none else g.ow i⟩ := ⟨_, rfl⟩
    have gst : g'.st = g.st := by rw [hg']
    have god : g'.ow d = g.ow rid := by rw [hg']; simp
    have goo : ∀ i, i ≠ d → i ≠ rid → g'.ow i = g.ow i := fun i h1 h2 => by rw [hg']; simp only [if_neg h1, if_neg h2]
    have gor : rid ≠ d → g'.ow rid = none := fun h => by rw [hg']; simp only [if_neg h, if_true]
    have hrd : rid ≠ d := by omega
    have hbig : ∀ id, bigOr d tok id = false → id ≠ d ∧ id ≠ tok ∧ id < MZ := fun id h => by
      unfold bigOr at h
      simp only [Bool.or_eq_false_iff] at h
      refine ⟨fun e => by subst e; simp at h, fun e => by subst e; simp at h, Nat.lt_of_not_le fun hle => ?_⟩
      rw [Nat.ble_eq_true_of_le hle] at h; exact absurd h.2 (by decide)
    have hdm : ∀ {z : AV} {u : Value}, ARep w g z u → ARep w g' (z.dm2 (bigOr d tok)) u := fun h => ARep.dm2 (by rw [gst]; exact Ev.refl _ _)
      (fun id b hq h => by obtain ⟨q1, _, q2⟩ := hbig id hq; rw [goo id q1 (by omega)]; exact h) (fun id b c e _ _ h => ⟨c, h, rfl⟩) (fun id b o _ _ h => by rwa [gst] at h) (fun id b es k _ _ h => h) (fun _ _ _ _ _ _ => rfl) h
    have vecmove : ∀ {q q' : Nat} {es : List PV} {u : Value}, g'.ow q' = g.ow q → ARep w g (.vec q sz ty es) u → ARep w g' (.vec q' sz ty es) u := by
      intro q q' es u hq h
      cases h with
      | vecn => exact .vecn _ _ _
      | vece => exact .vece _ _ _
      | vec h1 h2 h3 h4 h5 h6 h7 => exact .vec (hq.trans h1) h2 h3 h4 (by rw [gst]; exact h5) (by rw [gst]; exact h6) h7
    have htk : ∀ {z : AV} {u : Value}, ARep w g z u → ARep w g' (tkA tok d (.mpr tok sz ty (some k) kvs) z) u ∨ ∃ t s y q l, z = .mpr t s y q l := by
      intro z u h
      unfold tkA
      split
      · exact .inr ⟨_, _, _, _, _, rfl⟩
      · exact .inl (hdm h)
    have hs0 : St C.n C.w0 C.F g' ⟨sl', ob'⟩ a w := by
      refine ⟨hs.nd, hs.sz, fun q => ?_, fun id cs hcs => ?_, fun i j b h1 h2 => ?_, fun i b h => ?_, by rw [gst]; exact hs.lt, hs.fl, hs.fr, hs.os, hs.out, hs.tape, hs.size, by rw [gst]; exact hs.stf, fun i h1 h2 => ?_, hs.shf, by rw [gst]; exact hs.nst, by rw [gst]; exact hs.ev0⟩
      · rw [tkS_ok h1]
        have hq := hs.sl q
        simp only [AS.get, look_map] at hq ⊢
        cases hl : look sl q with
        | none => simp only [Option.map_none, Option.getD_none]; exact .undef _
        | some z =>
          rw [hl] at hq
          simp only [Option.map_some, Option.getD_some] at hq ⊢
          rcases htk hq with h | ⟨t, s, y, q', l, rfl⟩
          · exact h
          · simp only [tkA]
            cases hbt : Nat.beq t tok
            · simp only [cond_false]; exact .undef _
            · simp only [cond_true]
              have := Nat.eq_of_beq_eq_true hbt
              subst this
              generalize a.tmps.getD q Go.undef = vq at hq
              cases hq with
              | mpr how2 hb2 hN2 hD2 hk2 hv2 =>
                rw [how] at how2; cases how2
                refine .mpr (b := b) (k := ck) (es := es) (by rw [goo t (fun e => hne e.symm) (by omega)]; exact how) hb hN hD hkeys fun i e kv h3 h4 => ?_
                have hrep := hvals i e kv h3 h4
                unfold rowAV
                by_cases hkk : some k = some kv.1
                · rw [if_pos hkk]
                  have := rowAV_view hrep
                  exact .p (by rw [gst]; exact this)
                · rw [if_neg hkk]
                  unfold rowAV at hrep
                  rw [if_neg (by simp)] at hrep
                  have hij : i ≠ jj := hjj i kv h4 (fun e => hkk (by rw [e]))
                  refine vecmove (goo _ (rid_ne (by omega)) ?_) hrep
                  rw [hrid]
                  intro e2
                  have : MZ * (i + 1) = MZ * (jj + 1) := by omega
                  have := Nat.eq_of_mul_eq_mul_left (by decide : 0 < MZ) this
                  omega
      · obtain ⟨hq, ds, hds, rfl⟩ := tkO_look h2 id cs hcs
        obtain ⟨q1, _, q2⟩ := hbig id hq
        obtain ⟨b2, c2, e2, m1, m2, m3, m4, m5⟩ := hs.ob id ds hds
        refine ⟨b2, c2, e2, by rw [goo id q1 (by omega)]; exact m1, m2, by rw [dm2L_eq, List.length_map]; exact m3, by rw [gst]; exact m4, fun i x hx => ?_⟩
        rw [dm2L_eq, List.getElem?_map] at hx
        obtain ⟨z, hz, rfl⟩ := Option.map_eq_some_iff.1 hx
        obtain ⟨u, hu, hr⟩ := m5 i z hz
        exact ⟨u, hu, hdm hr⟩
      · have key : ∀ i, g'.ow i = some b → ∃ i', g.ow i' = some b ∧ ((i = d ∧ i' = rid) ∨ (i ≠ d ∧ i ≠ rid ∧ i' = i)) := by
          intro i hi
          by_cases e1 : i = d
          · subst e1; rw [god] at hi; exact ⟨rid, hi, .inl ⟨rfl, rfl⟩⟩
          · by_cases e2 : i = rid
            · subst e2; rw [gor hrd] at hi; cases hi
            · rw [goo i e1 e2] at hi; exact ⟨i, hi, .inr ⟨e1, e2, rfl⟩⟩
        obtain ⟨i', hi', q1⟩ := key i h1
        obtain ⟨j', hj', q2⟩ := key j h2
        have := hs.inj i' j' b hi' hj'
        rcases q1 with ⟨q1, q3⟩ | ⟨q1, q3, q5⟩ <;> rcases q2 with ⟨q2, q4⟩ | ⟨q2, q4, q6⟩ <;> omega
      · by_cases e1 : i = d
        · subst e1; rw [god] at h; exact hs.own rid b h
        · by_cases e2 : i = rid
          · subst e2; rw [gor hrd] at h; cases h
          · rw [goo i e1 e2] at h; exact hs.own i b h
      · rw [goo i (by omega) (by omega)]; exact hs.owf i h1 h2
    refine ⟨g', ⟨(d, .vec d sz ty r) :: sl', ob'⟩, ?_, hK⟩
    have hp := hs0.put (d := o.dst) (fun t ht => by rw [hd] at ht; cases ht; exact Nat.blt_eq ▸ hn) (x := .vec d sz ty r) (v := v) (vecmove (by rw [god, hrid]) hrow)
    rw [hd] at hp ⊢
    exact hp

/-- A row that has grown is put back into its map. -/
theorem ok_putR {t kt et : TypeId} {x y v : Operand} {i j : TI} {tok sz ty e : Nat} {kvs kvs' : List (Bytes × List PV)} {k : Bytes} {r : List PV} {sl' : List (Nat × AV)} {ob' : List (Nat × List AV)} (ho : o.op = .mapUpdate t x y v) (hd : o.dst = none)
    (hi : look C.tt t = some i) (hik : i.k = .map kt et) (hj : look C.tt kt = some j) (hjk : j.k = .string)
    (hx : evo sl x = some (.mpr tok sz ty (some k) kvs)) (hy : evo sl y = some (.p (.val (.string ⟨k.toArray⟩)))) (hv : evo sl v = some (.vec e sz ty r)) (htok : Nat.blt tok M1 = true) (hel : Nat.blt e M1 = true) (het : Nat.beq e tok = false)
    (hk : putM kvs k r = kvs') (h1 : tkS tok e (.mpr tok sz ty none kvs') sl = some sl') (h2 : tkO e tok ob = some ob') (hK : K ⟨sl', ob'⟩) : OpOk C o K ⟨sl, ob⟩ := by
  obtain ⟨u, hu1, hu2⟩ := und_of C.good hi
  obtain rfl := kind_map (hu2.trans hik)
  obtain ⟨u2, hu3, hu4⟩ := und_of C.good hj
  obtain rfl := kind_string (hu4.trans hjk)
  have htl : tok < M1 := Nat.blt_eq ▸ htok
  have hdl : e < M1 := Nat.blt_eq ▸ hel
  have hM : M1 ≤ MZ := by decide
  have hne : e ≠ tok := fun h => by subst h; simp at het
  intro g a w hs
  have hm := evo_rep hs hx
  have hkv := evo_val hs hy
  have hrep := evo_rep hs hv
  generalize hvx : a.eval x = vx at hm
  generalize hvv : a.eval v = vv at hrep
  cases hm with
  | mpr how hb hN hD hkeys hvals =>
    rename_i b ck es
    obtain ⟨hks, hc⟩ := find_casesR hN hkeys k
    have hbl : b < w.heap.size := (hs.own tok b how).1
    obtain ⟨jj, es', ck', hrun, hN', hkeys', hrows⟩ : ∃ (jj : Nat) (es' : Array MapEntry) (ck' : Nat), (execOp a.eval o).run C.P w = .ok .skip { w with heap := w.heap.setIfInBounds b (.map es' ck') } ∧ es'.size = kvs'.length ∧
        (∀ (i : Nat) e kv, es'[i]? = some e → kvs'[i]? = some kv → e.key = .string ⟨kv.1.toArray⟩) ∧
        (∀ (i : Nat) e kv, es'[i]? = some e → kvs'[i]? = some kv → (i = jj ∧ kv.2 = r ∧ e.val = vv) ∨ (i ≠ jj ∧ kv.1 ≠ k ∧ es[i]? = some e ∧ kvs[i]? = some kv)) := by
      rcases hc with ⟨f1, f2, f3⟩ | ⟨jj, e0, v', f1, f2, f3, f4⟩
      · refine ⟨kvs.length, es.push { key := .string ⟨k.toArray⟩, val := vv, born := ck }, ck + 1, ?_, ?_, ?_, ?_⟩
        · simp [execOp, ho, hvx, hkv, hvv, Instr.mapUpdate, run_underlying hu1, Go.MapKept.run_getObj_map hb, run_checkKey (d := .string) hu3 (k := .string ⟨k.toArray⟩) trivial, run_findKey hu3 f1, run_setObj_map _ hb, Result.andThen]
        · rw [← hk, putM_new f3]; simp [hN]
        · intro i e kv h3 h4
          rw [← hk, putM_new f3] at h4
          rw [Array.getElem?_push] at h3
          split at h3
          · rename_i hi2
            cases h3
            rw [hi2, List.getElem?_append_right (by omega), hN] at h4
            simp at h4
            rw [← h4]
          · have hil : i < es.size := (Array.getElem?_eq_some_iff.1 h3).1
            rw [List.getElem?_append_left (by omega)] at h4
            exact hkeys i e kv h3 h4
        · intro i e kv h3 h4
          rw [← hk, putM_new f3] at h4
          rw [Array.getElem?_push] at h3
          split at h3
          · rename_i hi2
            cases h3
            rw [hi2, List.getElem?_append_right (by omega), hN] at h4
            simp at h4
            exact .inl ⟨by omega, by rw [← h4], rfl⟩
          · have hil : i < es.size := (Array.getElem?_eq_some_iff.1 h3).1
            rw [List.getElem?_append_left (by omega)] at h4
            exact .inr ⟨by omega, f3 kv (List.mem_of_getElem? h4), h3, h4⟩
      · have hjl : jj < es.size := (Array.getElem?_eq_some_iff.1 f2).1
        refine ⟨jj, es.modify jj fun e => { e with key := .string ⟨k.toArray⟩, val := vv }, ck, ?_, ?_, ?_, ?_⟩
        · have hkey := run_keyThatStays (P := C.P) (w := w) (d := .string) (k := .string ⟨k.toArray⟩) trivial
          simp [execOp, ho, hvx, hkv, hvv, Instr.mapUpdate, run_underlying hu1, Go.MapKept.run_getObj_map hb, run_checkKey (d := .string) hu3 (k := .string ⟨k.toArray⟩) trivial, run_findKey hu3 f1, f2, f3, hkey, run_setObj_map _ hb, Result.andThen]
        · rw [← hk, putM_at hD f4]; simp [hN]
        · intro i e2 kv h3 h4
          rw [← hk, putM_at hD f4] at h4
          rw [Array.getElem?_modify] at h3
          rw [List.getElem?_set] at h4
          split at h3
          · rename_i hji
            subst hji
            rw [f2] at h3
            cases h3
            rw [if_pos rfl, if_pos (by omega)] at h4
            cases h4
            rfl
          · rename_i hji
            rw [if_neg hji] at h4
            exact hkeys i e2 kv h3 h4
        · intro i e2 kv h3 h4
          rw [← hk, putM_at hD f4] at h4
          rw [Array.getElem?_modify] at h3
          rw [List.getElem?_set] at h4
          split at h3
          · rename_i hji
            subst hji
            rw [f2] at h3
            cases h3
            rw [if_pos rfl, if_pos (by omega)] at h4
            cases h4
            exact .inl ⟨rfl, rfl, rfl⟩
          · rename_i hji
            rw [if_neg hji] at h4
            refine .inr ⟨fun h => hji h.symm, fun h => ?_, h3, h4⟩
            -- one key, one place
            have e1 : (kvs.map Prod.fst)[i]? = some k := by rw [List.getElem?_map, h4]; exact congrArg some h
            have e2 : (kvs.map Prod.fst)[jj]? = some k := by rw [List.getElem?_map, f4]; rfl
            have hil : i < (kvs.map Prod.fst).length := (List.getElem?_eq_some_iff.1 e1).1
            exact hji ((List.getElem?_inj hil hD).1 (e1.trans e2.symm)).symm
    unfold Oper.wp
    rw [hrun]
    simp only [Oper.upon, hd, Act.put]
    obtain ⟨w', hw'⟩ : ∃ w' : World, w' = { w with heap := w.heap.setIfInBounds b (.map es' ck') } := ⟨_, rfl⟩
    rw [← hw']
    have hat : w'.heap[b]? = some (.map es' ck') := by rw [hw']; exact (heap_set hb).1
    have hother : ∀ b2, b2 ≠ b → w'.heap[b2]? = w.heap[b2]? := fun b2 h => by rw [hw']; exact (heap_set hb).2 b2 h
    have hsz : w'.heap.size = w.heap.size := by rw [hw']; simp
    obtain ⟨rid, hrid⟩ : ∃ rid, rid = tok + MZ * (jj + 1) := ⟨_, rfl⟩
    have hridZ : MZ ≤ rid := by rw [hrid, Nat.mul_add, Nat.mul_one]; omega
    obtain ⟨g', hg'⟩ : ∃ g' : Gh, g' = ⟨g.st, fun i => if i = rid then g.ow e else if i = e then none else g.ow i⟩ := ⟨_, rfl⟩
    have gst : g'.st = g.st := by rw [hg']
    have gor : g'.ow rid = g.ow e := by rw [hg']; simp
    have goo : ∀ i, i ≠ e → i ≠ rid → g'.ow i = g.ow i := fun i h1 h2 => by rw [hg']; simp only [if_neg h1, if_neg h2]
    have hre : rid ≠ e := by omega
    have goe : g'.ow e = none := by rw [hg']; simp only [if_neg (fun h : e = rid => hre h.symm), if_true]
    have hev : Ev w g.st w' g'.st := by
      rw [gst]
      intro b2 o2 h
      refine ⟨h, ?_⟩
      by_cases e1 : b2 = b
      · subst e1; simp [World.cell?, hat, hb]
      · simp only [World.cell?, hother b2 e1]
    have hcell : ∀ {b2 : Nat} {c : Array Value} {t : TypeId} {f : Nat × Nat}, w.heap[b2]? = some (.cells c t f) → w'.heap[b2]? = some (.cells c t f) := fun {b2 c t f} h => by
      rw [hother b2 (fun e1 => by subst e1; rw [hb] at h; cases h)]; exact h
    have hbig : ∀ id, bigOr e tok id = false → id ≠ e ∧ id ≠ tok ∧ id < MZ := fun id h => by
      unfold bigOr at h
      simp only [Bool.or_eq_false_iff] at h
      refine ⟨fun e1 => by subst e1; simp at h, fun e1 => by subst e1; simp at h, Nat.lt_of_not_le fun hle => ?_⟩
      rw [Nat.ble_eq_true_of_le hle] at h; exact absurd h.2 (by decide)
    have hdm : ∀ {z : AV} {u : Value}, ARep w g z u → ARep w' g' (z.dm2 (bigOr e tok)) u := fun h => ARep.dm2 hev
      (fun id b hq h => by obtain ⟨q1, _, q2⟩ := hbig id hq; rw [goo id q1 (by omega)]; exact h) (fun id b c e _ _ h => ⟨c, hcell h, rfl⟩) (fun id b o _ _ h => by rwa [gst] at h)
      (fun id b2 es2 k2 hq h0 h => by
        obtain ⟨_, q3, _⟩ := hbig id hq
        rw [hother b2 (fun e1 => by subst e1; exact q3 (hs.inj id tok b2 h0 how))]; exact h)
      (fun id b2 o hq h0 _ => by obtain ⟨_, q3, _⟩ := hbig id hq; exact hother b2 (fun e1 => by subst e1; exact q3 (hs.inj id tok b2 h0 how))) h
    have vecmove : ∀ {q q' : Nat} {es : List PV} {u : Value}, g'.ow q' = g.ow q → ARep w g (.vec q sz ty es) u → ARep w' g' (.vec q' sz ty es) u := by
      intro q q' es u hq h
      cases h with
      | vecn => exact .vecn _ _ _
      | vece => exact .vece _ _ _
      | vec h1 h2 h3 h4 h5 h6 h7 => exact .vec (hq.trans h1) (hcell h2) h3 h4 (by rw [gst]; exact h5) (h6.mono hev) h7
    have hnew : ARep w' g' (.mpr tok sz ty none kvs') (.map (some b)) := by
      refine .mpr (b := b) (k := ck') (es := es') (by rw [goo tok (fun h => hne h.symm) (by omega)]; exact how) hat hN' (by rw [← hk]; exact putM_nodup hD) hkeys' fun i e2 kv h3 h4 => ?_
      unfold rowAV
      rw [if_neg (by simp)]
      rcases hrows i e2 kv h3 h4 with ⟨rfl, h5, h6⟩ | ⟨h5, h6, h7, h8⟩
      · rw [h5, h6, ← hrid]
        exact vecmove gor hrep
      · have hr := hvals i e2 kv h7 h8
        unfold rowAV at hr
        rw [if_neg (fun q => h6 (Option.some.inj q).symm)] at hr
        refine vecmove (goo _ (rid_ne (by omega)) ?_) hr
        rw [hrid]
        intro e2
        have : MZ * (i + 1) = MZ * (jj + 1) := by omega
        have := Nat.eq_of_mul_eq_mul_left (by decide : 0 < MZ) this
        omega
    refine ⟨g', ⟨sl', ob'⟩, ?_, hK⟩
    refine ⟨hs.nd, hs.sz, fun q => ?_, fun id cs hcs => ?_, fun i j b h1 h2 => ?_, fun i b2 h => ?_, fun b2 o2 h => by rw [gst] at h; rw [hsz]; exact hs.lt b2 o2 h, hs.fl, fun b2 h => ?_, by rw [hw']; exact hs.os, by rw [hw']; exact hs.out, by rw [hw']; exact hs.tape, by rw [hsz]; exact hs.size, by rw [gst]; exact hs.stf, fun i h1 h2 => ?_, hs.shf.next (fun i b2 c t _ _ h => ⟨c, hcell h, rfl⟩), by rw [gst]; exact hs.nst, hs.ev0.trans hev⟩
    · rw [tkS_ok h1]
      have hq := hs.sl q
      simp only [AS.get, look_map] at hq ⊢
      cases hl : look sl q with
      | none => simp only [Option.map_none, Option.getD_none]; exact .undef _
      | some z =>
        rw [hl] at hq
        simp only [Option.map_some, Option.getD_some] at hq ⊢
        unfold tkA
        split
        · rename_i t s y q' l
          cases hbt : Nat.beq t tok
          · simp only [cond_false]; exact .undef _
          · simp only [cond_true]
            have := Nat.eq_of_beq_eq_true hbt
            subst this
            generalize a.tmps.getD q Go.undef = vq at hq
            cases hq with
            | mpr how2 hb2 hN2 hD2 hk2 hv2 => rw [how] at how2; cases how2; exact hnew
        · exact hdm hq
    · obtain ⟨hq, ds, hds, rfl⟩ := tkO_look h2 id cs hcs
      obtain ⟨q1, _, q2⟩ := hbig id hq
      obtain ⟨b2, c2, e2, m1, m2, m3, m4, m5⟩ := hs.ob id ds hds
      refine ⟨b2, c2, e2, by rw [goo id q1 (by omega)]; exact m1, hcell m2, by rw [dm2L_eq, List.length_map]; exact m3, by rw [gst]; exact m4, fun i x hx => ?_⟩
      rw [dm2L_eq, List.getElem?_map] at hx
      obtain ⟨z, hz, rfl⟩ := Option.map_eq_some_iff.1 hx
      obtain ⟨u, hu, hr⟩ := m5 i z hz
      exact ⟨u, hu, hdm hr⟩
    · have key : ∀ i, g'.ow i = some b → ∃ i', g.ow i' = some b ∧ ((i = rid ∧ i' = e) ∨ (i ≠ e ∧ i ≠ rid ∧ i' = i)) := by
        intro i hi
        by_cases e1 : i = rid
        · subst e1; rw [gor] at hi; exact ⟨e, hi, .inl ⟨rfl, rfl⟩⟩
        · by_cases e2 : i = e
          · subst e2; rw [goe] at hi; cases hi
          · rw [goo i e2 e1] at hi; exact ⟨i, hi, .inr ⟨e2, e1, rfl⟩⟩
      obtain ⟨i', hi', q1⟩ := key i h1
      obtain ⟨j', hj', q2⟩ := key j h2
      have := hs.inj i' j' b hi' hj'
      rcases q1 with ⟨q1, q3⟩ | ⟨q1, q3, q5⟩ <;> rcases q2 with ⟨q2, q4⟩ | ⟨q2, q4, q6⟩ <;> omega
    · rw [hsz]
      by_cases e1 : i = rid
      · subst e1; rw [gor] at h; exact hs.own e b2 h
      · by_cases e2 : i = e
        · subst e2; rw [goe] at h; cases h
        · rw [goo i e2 e1] at h; exact hs.own i b2 h
    · have hne2 : b2 ≠ b := fun e1 => (hs.own tok b how).2 (e1 ▸ h)
      rw [hother b2 hne2]; exact hs.fr b2 h
    · rw [goo i (by omega) (by omega)]; exact hs.owf i h1 h2
end
end Go.Ab
