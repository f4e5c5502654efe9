/- A layer of abstract values over the model's worlds, part Mp: maps that a call made, with texts as keys. It holds for every program. -/
import Derived.Test.YtapfhipodpbflaaGreatDoorAbMc
import Derived.MapKept
set_option linter.unusedVariables false
set_option linter.unusedSimpArgs false
set_option linter.unnecessarySimpa false
namespace Go.Ab
open Go.MapKept

/-! ### Maps as lists -/
section
variable {α : Type}
def lookM : List (Bytes × α) → Bytes → Option α
  | [], _ => none
  | (j, v) :: r, k => if j = k then some v else lookM r k
def putM : List (Bytes × α) → Bytes → α → List (Bytes × α)
  | [], k, v => [(k, v)]
  | (j, u) :: r, k, v => if j = k then (k, v) :: r else (j, u) :: putM r k v
theorem lookM_at : ∀ {l : List (Bytes × α)} {i : Nat} {k : Bytes} {v : α}, (l.map Prod.fst).Nodup → l[i]? = some (k, v) → lookM l k = some v
  | [], i, k, v, _, h => by simp at h
  | (j, u) :: r, 0, k, v, _, h => by
    simp only [List.getElem?_cons_zero, Option.some.injEq, Prod.mk.injEq] at h
    obtain ⟨rfl, rfl⟩ := h
    simp [lookM]
  | (j, u) :: r, i + 1, k, v, hd, h => by
    simp only [List.map_cons, List.nodup_cons] at hd
    simp only [List.getElem?_cons_succ] at h
    have hne : j ≠ k := fun e => hd.1 (by rw [e]; exact List.mem_map.2 ⟨_, List.mem_of_getElem? h, rfl⟩)
    simp only [lookM, if_neg hne]
    exact lookM_at hd.2 h
theorem lookM_none : ∀ {l : List (Bytes × α)} {k : Bytes}, (∀ p ∈ l, p.1 ≠ k) → lookM l k = none
  | [], _, _ => rfl
  | (j, u) :: r, k, h => by
    simp only [lookM, if_neg (h (j, u) (by simp))]
    exact lookM_none fun p hp => h p (List.mem_cons_of_mem _ hp)
theorem putM_new : ∀ {l : List (Bytes × α)} {k : Bytes} {v : α}, (∀ p ∈ l, p.1 ≠ k) → putM l k v = l ++ [(k, v)]
  | [], _, _, _ => rfl
  | (j, u) :: r, k, v, h => by
    simp only [putM, if_neg (h (j, u) (by simp)), List.cons_append]
    rw [putM_new fun p hp => h p (List.mem_cons_of_mem _ hp)]
theorem putM_at : ∀ {l : List (Bytes × α)} {i : Nat} {k : Bytes} {u v : α}, (l.map Prod.fst).Nodup → l[i]? = some (k, u) → putM l k v = l.set i (k, v)
  | [], i, k, u, v, _, h => by simp at h
  | (j, x) :: r, 0, k, u, v, _, h => by
    simp only [List.getElem?_cons_zero, Option.some.injEq, Prod.mk.injEq] at h
    obtain ⟨rfl, rfl⟩ := h
    simp [putM]
  | (j, x) :: r, i + 1, k, u, v, hd, h => by
    simp only [List.map_cons, List.nodup_cons] at hd
    simp only [List.getElem?_cons_succ] at h
    have hne : j ≠ k := fun e => hd.1 (by rw [e]; exact List.mem_map.2 ⟨_, List.mem_of_getElem? h, rfl⟩)
    simp only [putM, if_neg hne, List.set_cons_succ]
    rw [putM_at hd.2 h]
theorem putM_nodup {l : List (Bytes × α)} {k : Bytes} {v : α} (hd : (l.map Prod.fst).Nodup) : ((putM l k v).map Prod.fst).Nodup := by
  by_cases h : ∀ p ∈ l, p.1 ≠ k
  · rw [putM_new h, List.map_append, List.nodup_append]
    refine ⟨hd, by simp, fun a ha b hb e => ?_⟩
    simp only [List.map_cons, List.map_nil, List.mem_singleton] at hb
    subst hb
    obtain ⟨p, hp, hq⟩ := List.mem_map.1 ha
    exact h p hp (hq.trans e)
  · obtain ⟨p, hp, hk⟩ : ∃ p ∈ l, p.1 = k := by
      refine Classical.byContradiction fun q => h fun p hp e => q ⟨p, hp, e⟩
    obtain ⟨i, hi⟩ := List.mem_iff_getElem?.1 hp
    obtain ⟨j, u⟩ := p
    have hk : j = k := hk
    subst hk
    rw [putM_at hd hi]
    have : (l.set i (j, v)).map Prod.fst = l.map Prod.fst := by
      rw [List.map_set]
      apply List.ext_getElem?
      intro q
      rw [List.getElem?_set]
      by_cases e : i = q
      · subst e
        have : i < l.length := (List.getElem?_eq_some_iff.1 hi).1
        rw [if_pos rfl]
        simp only [List.length_map, this, if_true, List.getElem?_map, hi]
        rfl
      · rw [if_neg e]
    rw [this]; exact hd
theorem lookM_map {β : Type} (f : α → β) : ∀ (l : List (Bytes × α)) (k : Bytes), lookM (l.map fun p => (p.1, f p.2)) k = (lookM l k).map f
  | [], _ => rfl
  | (j, v) :: r, k => by
    simp only [List.map_cons, lookM]
    split
    · rfl
    · exact lookM_map f r k
theorem putM_map {β : Type} (f : α → β) : ∀ (l : List (Bytes × α)) (k : Bytes) (v : α), putM (l.map fun p => (p.1, f p.2)) k (f v) = (putM l k v).map fun p => (p.1, f p.2)
  | [], _, _ => rfl
  | (j, u) :: r, k, v => by
    simp only [List.map_cons, putM]
    split
    · rfl
    · rw [putM_map f r k v]; rfl
end

theorem str_inj {a b : Bytes} (h : (Value.string ⟨a.toArray⟩) = .string ⟨b.toArray⟩) : a = b := by
  simpa using h
theorem kind_map {u : TypeDesc} {k e : Nat} (h : kindOf u = .map k e) : u = .map k e := by
  cases u <;> simp [kindOf] at h
  obtain ⟨rfl, rfl⟩ := h; rfl
/-- A key among the entries of a map. -/
theorem find_cases {es : Array MapEntry} {kvs : List (Bytes × PV)} (hn : es.size = kvs.length) (hd : (kvs.map Prod.fst).Nodup) (hk : ∀ (i : Nat) e kv, es[i]? = some e → kvs[i]? = some kv → e.key = .string ⟨kv.1.toArray⟩) (k : Bytes) :
    (∀ x ∈ es.toList, IsKey .string x.key) ∧
    ((Instr.findNow .string (.string ⟨k.toArray⟩) es.toList 0 = some none ∧ (∀ x ∈ es.toList, x.key ≠ .string ⟨k.toArray⟩) ∧ ∀ p ∈ kvs, p.1 ≠ k) ∨
    ∃ j e v, Instr.findNow .string (.string ⟨k.toArray⟩) es.toList 0 = some (some (j, e.val)) ∧ es[j]? = some e ∧ e.key = .string ⟨k.toArray⟩ ∧ kvs[j]? = some (k, v)) := by
  have hks : ∀ x ∈ es.toList, IsKey .string x.key := by
    intro x hx
    obtain ⟨i, hi⟩ := List.mem_iff_getElem?.1 hx
    rw [Array.getElem?_toList] at hi
    have hil := (Array.getElem?_eq_some_iff.1 hi).1
    have := hk i x kvs[i] hi (List.getElem?_eq_getElem (by omega))
    rw [this]; trivial
  refine ⟨hks, ?_⟩
  rcases findNow_spec (k := .string ⟨k.toArray⟩) (d := .string) trivial es.toList 0 hks with ⟨h1, h2⟩ | ⟨j, e, h1, h2, h3⟩
  · refine .inl ⟨h1, h2, fun p hp e => ?_⟩
    obtain ⟨i, hi⟩ := List.mem_iff_getElem?.1 hp
    have hil := (List.getElem?_eq_some_iff.1 hi).1
    have hes : es[i]? = some es[i] := Array.getElem?_eq_getElem (by omega)
    have := hk i es[i] p hes hi
    exact h2 es[i] (Array.getElem_mem_toList (by omega)) (by rw [this, e])
  · rw [Array.getElem?_toList] at h2
    have hil := (Array.getElem?_eq_some_iff.1 h2).1
    have hkv : kvs[j]? = some kvs[j] := List.getElem?_eq_getElem (by omega)
    have := hk j e kvs[j] h2 hkv
    have he : kvs[j].1 = k := str_inj (this.symm.trans h3)
    refine .inr ⟨j, e, kvs[j].2, by rw [h1]; simp, h2, h3, ?_⟩
    rw [hkv, ← he]

/-- All that is known of a map is known of it otherwise; what else goes by its identity is given up. -/
def upA (tok : Nat) (kvs : List (Bytes × PV)) (x : AV) : AV := match x with
  | .mp t l => bif Nat.beq t tok then .mp t kvs else .mp t l
  | x => x.dem (Nat.beq · tok)
def upS (tok : Nat) (kvs : List (Bytes × PV)) : List (Nat × AV) → Option (List (Nat × AV))
  | [] => some []
  | (i, x) :: r => (match frc (upA tok kvs x) with
    | some y => (match upS tok kvs r with | some l => some ((i, y) :: l) | none => none)
    | none => none)
theorem upS_ok {tok : Nat} {kvs : List (Bytes × PV)} : ∀ {l l' : List (Nat × AV)}, upS tok kvs l = some l' → l' = l.map fun p => (p.1, upA tok kvs p.2)
  | [], l', h => by cases h; rfl
  | (i, x) :: r, l', h => by
    unfold upS at h
    split at h
    · rename_i y hy
      split at h
      · rename_i m hm; cases h; rw [frc_ok hy, upS_ok hm]; rfl
      · cases h
    · cases h

section
variable {C : Cx} {o : Oper} {K : AS → Prop} {sl : List (Nat × AV)} {ob : List (Nat × List AV)} {d : Nat}

theorem beq_lo {d : Nat} (hd : d < M1) : ∀ i, Nat.beq i d = true → i < M1 := fun i hi => by have := Nat.eq_of_beq_eq_true hi; omega

/-- A new map. -/
theorem ok_makeMapR {y : AV} {sl' : List (Nat × AV)} {ob' : List (Nat × List AV)} (hd : o.dst = some d) (hn : Nat.blt d C.n = true)
    (hrun : ∀ g a w, St C.n C.w0 C.F g ⟨sl, ob⟩ a w → (execOp a.eval o).run C.P w = .ok (.value (.map (some w.heap.size))) (w.alloc (.map #[] 0)))
    (hy : ∀ (w : World) (g : Gh) (b : Nat), g.ow d = some b → w.heap[b]? = some (.map #[] 0) → ARep w g y (.map (some b)))
    (h1 : dmS (Nat.beq · d) sl = some sl') (h2 : dmO (Nat.beq · d) ob = some ob') (hK : K ⟨(d, y) :: sl', ob'⟩) : OpOk C o K ⟨sl, ob⟩ := by
  intro g a w hs
  have hdl : d < M1 := by have h1 := Nat.le_of_ble_eq_true C.nl; have h2 : d < C.n := Nat.blt_eq ▸ hn; omega
  unfold Oper.wp
  rw [hrun g a w hs]
  have hev : Ev w g.st (w.alloc (.map #[] 0)) g.st := fun b o h => ⟨h, World.cell?_alloc_lt w _ _ (hs.lt b o h)⟩
  obtain ⟨g', hg'⟩ : ∃ g' : Gh, g' = ⟨g.st, fun i => if i = d then some w.heap.size else g.ow i⟩ := ⟨_, rfl⟩
  have hsz : (w.alloc (.map #[] 0)).heap.size = w.heap.size + 1 := by simp
  have hs' : St C.n C.w0 C.F g' (demS (Nat.beq · d) ⟨sl, ob⟩) a (w.alloc (.map #[] 0)) := by
    subst hg'
    refine hs.evolve (Nat.beq · d) (beq_lo hdl) hev (fun id b hD h => ?_) (fun i j b hi hj => ?_) (fun i b hi => ?_) (fun b o h => ?_) (fun b hb => ?_) rfl rfl rfl (by omega) (fun b _ o => Iff.rfl) (fun i hi => ?_)
    · have hne : id ≠ d := fun e => by subst e; simp at hD
      exact ⟨by simp only [if_neg hne]; exact h, heap_alloc_lt (hs.own id b h).1, fun o h => h⟩
    · dsimp only at hi hj
      by_cases e1 : i = d <;> by_cases e2 : j = d
      · omega
      · rw [if_pos e1] at hi; rw [if_neg e2] at hj; cases hi; have := (hs.own j _ hj).1; omega
      · rw [if_neg e1] at hi; rw [if_pos e2] at hj; cases hj; have := (hs.own i _ hi).1; omega
      · rw [if_neg e1] at hi; rw [if_neg e2] at hj; exact hs.inj i j b hi hj
    · dsimp only at hi
      by_cases e1 : i = d
      · rw [if_pos e1] at hi; cases hi
        exact ⟨by omega, fun hF => by have := hs.fl _ hF; have := hs.size; omega⟩
      · rw [if_neg e1] at hi; have := hs.own i b hi; exact ⟨by omega, this.2⟩
    · have := hs.lt b o h; omega
    · exact heap_alloc_lt (by have := hs.fl b hb; have := hs.size; omega)
    · dsimp only
      rw [if_neg (by omega)]
  refine ⟨g', ⟨(d, y) :: sl', ob'⟩, ?_, hK⟩
  have hp := hs'.put (d := o.dst) (fun t ht => by rw [hd] at ht; cases ht; exact Nat.blt_eq ▸ hn) (x := y) (v := .map (some w.heap.size))
    (hy _ _ _ (by rw [hg']; simp) heap_alloc_at)
  rw [hd] at hp ⊢
  rw [dmS_ok h1, dmO_ok h2]
  exact hp
theorem ok_makeMap {t : TypeId} {sl' : List (Nat × AV)} {ob' : List (Nat × List AV)} (ho : o.op = .makeMap t none) (hd : o.dst = some d) (hn : Nat.blt d C.n = true)
    (h1 : dmS (Nat.beq · d) sl = some sl') (h2 : dmO (Nat.beq · d) ob = some ob') (hK : K ⟨(d, .mp d []) :: sl', ob'⟩) : OpOk C o K ⟨sl, ob⟩ :=
  ok_makeMapR hd hn (fun g a w hs => by simp [execOp, ho, Instr.makeMap, newObj, Sem.run]) (fun w g b h1 h2 => .mp h1 h2 rfl (by simp) (by simp) (by simp)) h1 h2 hK
/-- A new map, with a hint. -/
theorem ok_makeMapH {t : TypeId} {x : Operand} {n : Int} {i : TI} {kt et : Nat} {sl' : List (Nat × AV)} {ob' : List (Nat × List AV)} (ho : o.op = .makeMap t (some x)) (hd : o.dst = some d) (hn : Nat.blt d C.n = true)
    (hi : look C.tt t = some i) (hik : i.k = .map kt et) (hx : evo sl x = some (.p (.val (.int .i64 n)))) (h1 : dmS (Nat.beq · d) sl = some sl') (h2 : dmO (Nat.beq · d) ob = some ob') (hK : K ⟨(d, .mp d []) :: sl', ob'⟩) : OpOk C o K ⟨sl, ob⟩ := by
  obtain ⟨u, hu1, hu2⟩ := und_of C.good hi
  obtain rfl := kind_map (hu2.trans hik)
  refine ok_makeMapR hd hn (fun g a w hs => ?_) (fun w g b h1 h2 => .mp h1 h2 rfl (by simp) (by simp) (by simp)) h1 h2 hK
  have hv := evo_val hs hx
  simp [execOp, ho, hv, Instr.makeMap, run_underlying hu1, asInt, asIntOf, newObj, Sem.run, Result.andThen]

/-- What a map has at a key. -/
theorem ok_lookMw {t kt et : TypeId} {x y : Operand} {i j : TI} {tok : Nat} {kvs : List (Bytes × PV)} {k : Bytes} {z : Value} {r : PV} (ho : o.op = .lookup t x y false) (hd : o.dst = some d) (hn : Nat.blt d C.n = true)
    (hi : look C.tt t = some i) (hik : i.k = .map kt et) (hj : look C.tt kt = some j) (hjk : j.k = .string) (hz : (C.P.info? et).map (·.zero) = some (some z))
    (hx : evo sl x = some (.mp tok kvs)) (hy : evo sl y = some (.p (.val (.string ⟨k.toArray⟩)))) (hr : ∀ (w : World) (st : Nat → Nat → Prop) (v : Value), PRep w st ((lookM kvs k).getD (.val z)) v → PRep w st r v) (hK : K ⟨(d, .p r) :: sl, ob⟩) : OpOk C o K ⟨sl, ob⟩ := by
  obtain ⟨u, h1, h2⟩ := und_of C.good hi
  obtain rfl := kind_map (h2.trans hik)
  obtain ⟨u2, h3, h4⟩ := und_of C.good hj
  obtain rfl := kind_string (h4.trans hjk)
  refine ok_one hd hn (fun g a w hs => ?_) hK
  have hm := evo_rep hs hx
  have hkv := evo_val hs hy
  generalize hv : a.eval x = v at hm
  cases hm with
  | mp how hb hN hD hkeys hvals =>
    rename_i b ck es
    obtain ⟨hks, hc⟩ := find_cases hN hD hkeys k
    have hz2 : (zeroValue et).run C.P w = .ok z w := by
      obtain ⟨inf, hinf, hzz⟩ := Option.map_eq_some_iff.1 hz
      simp [zeroValue, typeInfo, hinf, hzz]
    rcases hc with ⟨f1, f2, f3⟩ | ⟨jj, e, v', f1, f2, f3, f4⟩
    · refine ⟨z, ?_, ?_⟩
      · simp [execOp, ho, hv, hkv, Instr.lookup, run_underlying h1, Go.MapKept.run_getObj_map hb, run_checkKey (d := .string) h3 (k := .string ⟨k.toArray⟩) trivial, run_findKey h3 f1, hz2, Result.andThen]
      · exact .p (hr w _ _ (by rw [lookM_none f3]; exact .val _))
    · refine ⟨e.val, ?_, ?_⟩
      · simp [execOp, ho, hv, hkv, Instr.lookup, run_underlying h1, Go.MapKept.run_getObj_map hb, run_checkKey (d := .string) h3 (k := .string ⟨k.toArray⟩) trivial, run_findKey h3 f1, Result.andThen]
      · exact .p (hr w _ _ (by rw [lookM_at hD f4]; exact hvals jj e _ f2 f4))
theorem ok_lookM {t kt et : TypeId} {x y : Operand} {i j : TI} {tok : Nat} {kvs : List (Bytes × PV)} {k : Bytes} {z : Value} {r : PV} (ho : o.op = .lookup t x y false) (hd : o.dst = some d) (hn : Nat.blt d C.n = true)
    (hi : look C.tt t = some i) (hik : i.k = .map kt et) (hj : look C.tt kt = some j) (hjk : j.k = .string) (hz : (C.P.info? et).map (·.zero) = some (some z))
    (hx : evo sl x = some (.mp tok kvs)) (hy : evo sl y = some (.p (.val (.string ⟨k.toArray⟩)))) (hr : (lookM kvs k).getD (.val z) = r) (hK : K ⟨(d, .p r) :: sl, ob⟩) : OpOk C o K ⟨sl, ob⟩ :=
  ok_lookMw ho hd hn hi hik hj hjk hz hx hy (fun _ _ _ h => hr ▸ h) hK

/-- A map is changed at a key. -/
theorem ok_putM {t kt et : TypeId} {x y v : Operand} {i j : TI} {tok : Nat} {kvs kvs' : List (Bytes × PV)} {k : Bytes} {r : PV} {sl' : List (Nat × AV)} {ob' : List (Nat × List AV)} (ho : o.op = .mapUpdate t x y v) (hd : o.dst = none)
    (hi : look C.tt t = some i) (hik : i.k = .map kt et) (hj : look C.tt kt = some j) (hjk : j.k = .string)
    (hx : evo sl x = some (.mp tok kvs)) (hy : evo sl y = some (.p (.val (.string ⟨k.toArray⟩)))) (hv : evo sl v = some (.p r)) (htok : Nat.blt tok M1 = true)
    (hk : putM kvs k r = kvs') (h1 : upS tok kvs' sl = some sl') (h2 : dmO (Nat.beq · tok) ob = some ob') (hK : K ⟨sl', ob'⟩) : OpOk C o K ⟨sl, ob⟩ := by
  obtain ⟨u, hu1, hu2⟩ := und_of C.good hi
  obtain rfl := kind_map (hu2.trans hik)
  obtain ⟨u2, hu3, hu4⟩ := und_of C.good hj
  obtain rfl := kind_string (hu4.trans hjk)
  have htl : tok < M1 := Nat.blt_eq ▸ htok
  intro g a w hs
  have hm := evo_rep hs hx
  have hkv := evo_val hs hy
  have hrep := evo_rep hs hv
  generalize hvx : a.eval x = vx at hm
  generalize hvv : a.eval v = vv at hrep
  cases hrep with
  | p hrep =>
  cases hm with
  | mp how hb hN hD hkeys hvals =>
    rename_i b ck es
    obtain ⟨hks, hc⟩ := find_cases hN hD hkeys k
    have hbl : b < w.heap.size := (hs.own tok b how).1
    -- the entries behind the change
    obtain ⟨es', ck', hrun, hN', hkeys', hvals'⟩ : ∃ (es' : Array MapEntry) (ck' : Nat), (execOp a.eval o).run C.P w = .ok .skip { w with heap := w.heap.setIfInBounds b (.map es' ck') } ∧ es'.size = kvs'.length ∧
        (∀ (i : Nat) e kv, es'[i]? = some e → kvs'[i]? = some kv → e.key = .string ⟨kv.1.toArray⟩) ∧ (∀ (i : Nat) e kv, es'[i]? = some e → kvs'[i]? = some kv → PRep w g.st kv.2 e.val) := by
      rcases hc with ⟨f1, f2, f3⟩ | ⟨jj, e, v', f1, f2, f3, f4⟩
      · refine ⟨es.push { key := .string ⟨k.toArray⟩, val := vv, born := ck }, ck + 1, ?_, ?_, ?_, ?_⟩
        · simp [execOp, ho, hvx, hkv, hvv, Instr.mapUpdate, run_underlying hu1, Go.MapKept.run_getObj_map hb, run_checkKey (d := .string) hu3 (k := .string ⟨k.toArray⟩) trivial, run_findKey hu3 f1, run_setObj_map _ hb, Result.andThen]
        · rw [← hk, putM_new f3]; simp [hN]
        · intro i e kv h3 h4
          rw [← hk, putM_new f3] at h4
          rw [Array.getElem?_push] at h3
          split at h3
          · rename_i hi2
            cases h3
            rw [hi2, List.getElem?_append_right (by omega), hN] at h4
            simp at h4
            rw [← h4]
          · have hil : i < es.size := (Array.getElem?_eq_some_iff.1 h3).1
            rw [List.getElem?_append_left (by omega)] at h4
            exact hkeys i e kv h3 h4
        · intro i e kv h3 h4
          rw [← hk, putM_new f3] at h4
          rw [Array.getElem?_push] at h3
          split at h3
          · rename_i hi2
            cases h3
            rw [hi2, List.getElem?_append_right (by omega), hN] at h4
            simp at h4
            rw [← h4]
            exact hrep
          · have hil : i < es.size := (Array.getElem?_eq_some_iff.1 h3).1
            rw [List.getElem?_append_left (by omega)] at h4
            exact hvals i e kv h3 h4
      · have hjl : jj < es.size := (Array.getElem?_eq_some_iff.1 f2).1
        refine ⟨es.modify jj fun e => { e with key := .string ⟨k.toArray⟩, val := vv }, ck, ?_, ?_, ?_, ?_⟩
        · have hkey := run_keyThatStays (P := C.P) (w := w) (d := .string) (k := .string ⟨k.toArray⟩) trivial
          simp [execOp, ho, hvx, hkv, hvv, Instr.mapUpdate, run_underlying hu1, Go.MapKept.run_getObj_map hb, run_checkKey (d := .string) hu3 (k := .string ⟨k.toArray⟩) trivial, run_findKey hu3 f1, f2, f3, hkey, run_setObj_map _ hb, Result.andThen]
        · rw [← hk, putM_at hD f4]; simp [hN]
        · intro i e2 kv h3 h4
          rw [← hk, putM_at hD f4] at h4
          rw [Array.getElem?_modify] at h3
          rw [List.getElem?_set] at h4
          split at h3
          · rename_i hji
            subst hji
            rw [f2] at h3
            cases h3
            rw [if_pos rfl, if_pos (by omega)] at h4
            cases h4
            rfl
          · rename_i hji
            rw [if_neg hji] at h4
            exact hkeys i e2 kv h3 h4
        · intro i e2 kv h3 h4
          rw [← hk, putM_at hD f4] at h4
          rw [Array.getElem?_modify] at h3
          rw [List.getElem?_set] at h4
          split at h3
          · rename_i hji
            subst hji
            rw [f2] at h3
            cases h3
            rw [if_pos rfl, if_pos (by omega)] at h4
            cases h4
            exact hrep
          · rename_i hji
            rw [if_neg hji] at h4
            exact hvals i e2 kv h3 h4
    unfold Oper.wp
    rw [hrun]
    simp only [Oper.upon, hd, Act.put]
    obtain ⟨w', hw'⟩ : ∃ w' : World, w' = { w with heap := w.heap.setIfInBounds b (.map es' ck') } := ⟨_, rfl⟩
    rw [← hw']
    have hat : w'.heap[b]? = some (.map es' ck') := by rw [hw']; exact (heap_set hb).1
    have hother : ∀ b2, b2 ≠ b → w'.heap[b2]? = w.heap[b2]? := fun b2 h => by rw [hw']; exact (heap_set hb).2 b2 h
    have hsz : w'.heap.size = w.heap.size := by rw [hw']; simp
    have hev : Ev w g.st w' g.st := by
      intro b2 o2 h
      refine ⟨h, ?_⟩
      by_cases e : b2 = b
      · subst e; simp [World.cell?, hat, hb]
      · simp only [World.cell?, hother b2 e]
    have hneq : ∀ id b2, Nat.beq id tok = false → g.ow id = some b2 → b2 ≠ b := fun id b2 hq h e => by
      subst e
      have := hs.inj id tok b2 h how
      subst this
      simp at hq
    have hs' := hs.evolve (g' := g) (w' := w') (Nat.beq · tok) (beq_lo htl) hev (fun id b2 hq h => ⟨h, hother b2 (hneq id b2 hq h), fun o h => h⟩) hs.inj (fun i b2 h => by have := hs.own i b2 h; rw [hsz]; exact this)
      (fun b2 o2 h => by have := hs.lt b2 o2 h; omega) (fun b2 h => hother b2 (fun e => (hs.own tok b how).2 (e ▸ h))) (by rw [hw']) (by rw [hw']) (by rw [hw']) (by omega) (fun b2 _ o2 => Iff.rfl) (fun i _ => rfl)
    refine ⟨g, ⟨sl', ob'⟩, ?_, hK⟩
    rw [upS_ok h1, dmO_ok h2]
    refine { hs' with sl := fun q => ?_ }
    have hq := hs'.sl q
    have hq0 := hs.sl q
    simp only [AS.get, demS, look_map] at hq hq0 ⊢
    cases hl : look sl q with
    | none => simp only [Option.map_none, Option.getD_none]; exact .undef _
    | some z =>
      rw [hl] at hq hq0
      simp only [Option.map_some, Option.getD_some] at hq hq0 ⊢
      unfold upA
      split
      · rename_i tk l
        cases hbt : Nat.beq tk tok
        · simp only [AV.dem, hbt, cond_false] at hq ⊢; exact hq
        · simp only [cond_true]
          have := Nat.eq_of_beq_eq_true hbt
          subst this
          generalize a.tmps.getD q Go.undef = vq at hq0
          cases hq0 with
          | mp how2 _ _ _ _ _ =>
            rw [how] at how2; cases how2
            exact .mp how hat hN' (by rw [← hk]; exact putM_nodup hD) hkeys' (fun i e kv h3 h4 => (hvals' i e kv h3 h4).mono hev)
      · exact hq
end
end Go.Ab
