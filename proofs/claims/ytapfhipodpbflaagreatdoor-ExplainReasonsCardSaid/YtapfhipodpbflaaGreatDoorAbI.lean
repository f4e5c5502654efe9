/- A layer of abstract values over the model's worlds, part I: rows that are written, settling them, and calls that are handed objects. It holds for every program. -/
import Derived.Test.YtapfhipodpbflaaGreatDoorAbH
set_option linter.unusedVariables false
set_option linter.unusedSimpArgs false
set_option linter.unnecessarySimpa false
namespace Go.Ab

theorem St.addOb {n : Nat} {w0 : Base} {w : World} {F : Nat → Prop} {g : Gh} {sl : List (Nat × AV)} {ob : List (Nat × List AV)} {a : Act} (hs : St n w0 F g ⟨sl, ob⟩ a w) {d : Nat} {cs : List AV} (h : ObRep w g d cs) :
    St n w0 F g ⟨sl, (d, cs) :: ob⟩ a w := by
  refine { hs with ob := fun id ds hd => ?_, sl := hs.sl }
  simp only [look_cons] at hd
  by_cases e : d = id
  · subst e; simp only [if_true, Option.some.injEq] at hd; subst hd; exact h
  · rw [if_neg e] at hd; exact hs.ob id ds hd

theorem onesB_of_all : ∀ {l : List PV}, (∀ c ∈ l, c.one = true) → PV.onesB l = true
  | [], _ => rfl
  | x :: r, h => by
    simp only [PV.onesB, Bool.and_eq_true]
    exact ⟨h x (by simp), onesB_of_all fun c hc => h c (by simp [hc])⟩

section
variable {C : Cx} {o : Oper} {K : AS → Prop} {sl : List (Nat × AV)} {ob : List (Nat × List AV)} {d : Nat}

/-- make([]T, n), a row that is to be written (elements of one cell). -/
theorem ok_make {t e : Nat} {x y : Operand} {i ie : TI} {k k' : IntKind} {n : Int} {z : Value} (ho : o.op = .makeSlice t x y) (hd : o.dst = some d) (hn : Nat.blt d C.n = true)
    (hi : look C.tt t = some i) (hik : i.k = .slice e) (hie : look C.tt e = some ie) (hs1 : ie.size = 1) (hz : ie.zero = [z]) (hx : evo sl x = some (.p (.val (.int k n)))) (hy : evo sl y = some (.p (.val (.int k' n))))
    (hb : 0 ≤ n ∧ n ≤ 9223372036854775807 ∧ (ie.bytes : Int) * n ≤ 281474976710656)
    (hK : K ⟨(d, .arr d 1 0 n.toNat) :: (demS (fun i => Nat.beq i d) ⟨sl, ob⟩).sl, (d, (List.replicate n.toNat (.val z)).map .p) :: (demS (fun i => Nat.beq i d) ⟨sl, ob⟩).ob⟩) : OpOk C o K ⟨sl, ob⟩ := by
  obtain ⟨u, h1, h2⟩ := und_of C.good hi
  have h3 := kind_slice (h2.trans hik)
  subst h3
  obtain ⟨j, hj, hj1, hj2, zz, hz1, hz2⟩ := info_of C.good hie
  have hdl : d < M1 := by have h1 := Nat.le_of_ble_eq_true C.nl; have h2 : d < C.n := Nat.blt_eq ▸ hn; omega
  intro g a w hs
  have hrun := run_make (P := C.P) w t e j zz h1 hj hz1 k k' n n hb.1 (Int.le_refl _) (by rw [hj2]; exact hb.2.2) hb.2.1
  have hzs : zz.cells = #[z] := by rw [← Array.toList_inj]; rw [hz2, hz]
  rw [hzs, hj1, hs1, Nat.mul_one] at hrun
  have hf := hs.fresh (fun i => Nat.beq i d) (fun i hi => by have := Nat.eq_of_beq_eq_true hi; omega) d (by simp) (fun _ => False) (madeCells #[z] n.toNat) e
  have hp := hf.put (d := some d) (fun t ht => by cases ht; exact Nat.blt_eq ▸ hn) (x := .arr d 1 0 n.toNat) (v := .slice (some ⟨w.heap.size, 0, none⟩) n.toNat n.toNat)
    (.arr (by simp) heap_alloc_at (by rw [size_madeCells]; omega) (Nat.le_refl _))
  have hob := hp.addOb (d := d) (cs := (List.replicate n.toNat (.val z)).map .p) (by
    refine ⟨w.heap.size, madeCells #[z] n.toNat, e, by simp, heap_alloc_at, by simp [size_madeCells], fun o ho => ?_, fun i x hx => ?_⟩
    · rcases ho with ho | ⟨_, ho⟩
      · exact absurd (hs.lt _ _ ho) (Nat.lt_irrefl _)
      · exact ho
    · simp only [List.getElem?_map, Option.map_eq_some_iff, List.getElem?_replicate] at hx
      obtain ⟨y, hy, rfl⟩ := hx
      split at hy
      · rename_i hlt
        cases hy
        exact ⟨z, by simp [madeCells, hlt, Nat.mod_one], .p (.val _)⟩
      · cases hy)
  unfold Oper.wp
  have hrun' : (execOp a.eval o).run C.P w = .ok (.value (.slice (some ⟨w.heap.size, 0, none⟩) n.toNat n.toNat)) (w.alloc (.cells (madeCells #[z] n.toNat) e)) := by
    simp only [execOp, ho, evo_val hs hx, evo_val hs hy, Sem.run_bind, hrun, Result.andThen_ok, Sem.run_pure]
  rw [hrun']
  simp only [Oper.upon, hd]
  exact ⟨_, _, hob, hK⟩

/-- append to a row that is written, of elements of one cell. -/
theorem app_grow {es ys : List PV} {t tx e e' : TypeId} {i ie j : TI} {y : Operand} {Y : AV} (D : Nat → Bool) (hDl : ∀ i, D i = true → i < M1) (hDd : D d = true)
    (hi : look C.tt t = some i) (hik : i.k = .slice e) (hie : look C.tt e = some ie) (hj : look C.tt tx = some j) (hjk : j.k = .slice e')
    (hy : evo sl y = some Y) (hY : Y.elems? = some ys) (hsz : ∀ y ∈ ys, y.cells = [y]) (h1s : ie.size = 1) (hzl : ie.zero.length = ie.size)
    (hlen : (es.length + ys.length) * ie.bytes ≤ 140737488355328) (hlen' : es.length + ys.length ≤ 9223372036854775807)
    {g : Gh} {a : Act} {w : World} (hs : St C.n C.w0 C.F g ⟨sl, ob⟩ a w) (base : Option Addr) (cap : Nat) (olds : List Value)
    (hold : (Builtin.firstCells ie.size es.length (.slice base es.length cap)).run C.P w.drew = .ok olds.toArray w.drew) (hol : olds.length = es.length)
    (hoc : ∀ (i : Nat) x, es[i]? = some x → ∃ u, olds[i]? = some u ∧ PRep w g.st x u)
    (hg : cap < es.length + ys.length) (ty : TypeId) (hn : Nat.blt d C.n = true) :
    ∃ v w' g', (Builtin.append_ #[t, tx] ty #[.slice base es.length cap, a.eval y]).run C.P w = .ok v w' ∧
      St C.n C.w0 C.F g' ⟨(d, .arr d 1 0 (es.length + ys.length)) :: (demS D ⟨sl, ob⟩).sl, (d, (es ++ ys).map .p) :: (demS D ⟨sl, ob⟩).ob⟩ (a.put (some d) v) w' := by
  obtain ⟨u, h1, h2⟩ := und_of C.good hi
  have h3 := kind_slice (h2.trans hik)
  subst h3
  obtain ⟨u', h1', h2'⟩ := und_of C.good hj
  have h3' := kind_slice (h2'.trans hjk)
  subst h3'
  obtain ⟨info, hf1, hf2, hf3, z, hf4, hf5⟩ := info_of C.good hie
  have hyv := elems_view hY (evo_rep hs hy)
  obtain ⟨news, hsrc, hnews⟩ := src_of (P := C.P) (sz := ie.size) h1' hyv (fun y hy => by rw [hsz y hy, h1s]; rfl) (by omega)
  have hfit := growslice_fits (bytes := ie.bytes) hg hlen
  have hrun := run_append_grow_src w t tx ty e info z h1 hf1 hf4 base es.length cap olds (by rw [hf2]; exact hold) (a.eval y) ys.length news (by rw [hf2]; exact hsrc) hg (by omega) (by rw [hf3]; exact hfit)
  obtain ⟨q, hq⟩ : ∃ q, q = grownCap w (es.length + ys.length) cap e := ⟨_, rfl⟩
  rw [← hq] at hrun
  have hqn : es.length + ys.length ≤ q := by
    rw [hq]; unfold grownCap; simp only [Question.cut]; omega
  have hzs : z.cells.size = 1 := by rw [← h1s, ← hzl, ← hf5, Array.length_toList]
  have hnl : news.length = ys.length := by rw [hsrc.newsLen, h1s, Nat.mul_one]
  obtain ⟨c, hc⟩ : ∃ c, c = (olds ++ news).toArray ++ Builtin.zeroCells z.cells (q - (es.length + ys.length)) := ⟨_, rfl⟩
  rw [← hc] at hrun
  have hcs : c.size = q := by
    rw [hc]
    simp only [Array.size_append, List.size_toArray, List.length_append, hol, hnl, size_zeroCells, hzs]
    omega
  have hf := hs.drew.fresh D hDl d hDd (fun _ => False) c e
  have hp := hf.put (d := some d) (fun t ht => by cases ht; exact Nat.blt_eq ▸ hn) (x := .arr d 1 0 (es.length + ys.length)) (v := .slice (some ⟨w.drew.heap.size, 0, none⟩) (es.length + ys.length) q)
    (.arr (by simp) heap_alloc_at (by omega) hqn)
  have hev := Ev_alloc (w := w.drew) (T := fun _ => False) (ob := .cells c e) hs.drew.lt
  have hob := hp.addOb (d := d) (cs := (es ++ ys).map .p) (by
    refine ⟨w.drew.heap.size, c, e, by simp, heap_alloc_at, by simp; omega, fun o ho => ?_, fun i x hx => ?_⟩
    · rcases ho with ho | ⟨_, ho⟩
      · exact absurd (hs.lt _ _ ho) (Nat.lt_irrefl _)
      · exact ho
    · simp only [List.getElem?_map, Option.map_eq_some_iff] at hx
      obtain ⟨y, hy, rfl⟩ := hx
      have hil : i < (es ++ ys).length := (List.getElem?_eq_some_iff.1 hy).1
      simp only [List.length_append] at hil
      have hget : c[i]? = if i < es.length then olds[i]? else news[i - es.length]? := by
        rw [hc, Array.getElem?_append]
        simp only [List.size_toArray, List.length_append, hol, hnl]
        rw [if_pos hil, List.getElem?_toArray, List.getElem?_append, hol]
      rw [List.getElem?_append] at hy
      split at hy
      · rename_i hlt
        obtain ⟨u, hu, hr⟩ := hoc i y hy
        exact ⟨u, by rw [hget, if_pos hlt]; exact hu, .p ((PRep.mono (w := w) (w' := w.drew) (st := g.st) (st' := g.st) (fun b o h => ⟨h, rfl⟩) hr).mono hev)⟩
      · rename_i hge
        obtain ⟨k1, u, hu, hr⟩ := hnews (i - es.length) y 0 y hy (by rw [hsz y (List.mem_of_getElem? hy)]; rfl)
        rw [h1s, Nat.mul_one, Nat.add_zero] at hu
        exact ⟨u, by rw [hget, if_neg hge]; exact hu, .p ((PRep.mono (w := w) (w' := w.drew) (st := g.st) (st' := g.st) (fun b o h => ⟨h, rfl⟩) hr).mono hev)⟩)
  exact ⟨_, _, _, hrun, hob⟩

theorem ok_appendA {t tx e e' : TypeId} {x y : Operand} {k : Nat} {es : List PV} {n : Nat} {Y : AV} {ys : List PV} {i ie j : TI} (ho : o.op = .call { callee := .builtin .append, args := #[x, y], argTypes := #[t, tx] }) (hd : o.dst = some d) (hn : Nat.blt d C.n = true)
    (hi : look C.tt t = some i) (hik : i.k = .slice e) (hie : look C.tt e = some ie) (hj : look C.tt tx = some j) (hjk : j.k = .slice e') (hx : evo sl x = some (.arr k 1 0 n)) (hk : Nat.blt k M1 = true) (hob : look ob k = some (es.map .p)) (hnl : n = es.length)
    (hy : evo sl y = some Y) (hY : Y.elems? = some ys) (hsz : ∀ y ∈ ys, y.cells = [y]) (h1s : ie.size = 1) (hzl : Nat.beq ie.zero.length ie.size = true)
    (hlen : (es.length + ys.length) * ie.bytes ≤ 140737488355328) (hlen' : es.length + ys.length ≤ 9223372036854775807)
    (hK : K ⟨(d, .arr d 1 0 (es.length + ys.length)) :: (demS (fun i => Nat.beq i k || Nat.beq i d) ⟨sl, ob⟩).sl, (d, (es ++ ys).map .p) :: (demS (fun i => Nat.beq i k || Nat.beq i d) ⟨sl, ob⟩).ob⟩) : OpOk C o K ⟨sl, ob⟩ := by
  subst hnl
  have hzl' := Nat.eq_of_beq_eq_true hzl
  have hk' : k < M1 := Nat.blt_eq ▸ hk
  have hdl : d < M1 := by have h1 := Nat.le_of_ble_eq_true C.nl; have h2 : d < C.n := Nat.blt_eq ▸ hn; omega
  have hDl : ∀ i, (Nat.beq i k || Nat.beq i d) = true → i < M1 := by
    intro i hi
    simp only [Bool.or_eq_true] at hi
    rcases hi with hi | hi <;> (have := Nat.eq_of_beq_eq_true hi; omega)
  intro g a w hs
  have hxr := evo_rep hs hx
  generalize hxv : a.eval x = xv at hxr
  have hrun0 : ∀ v w', (Builtin.append_ #[t, tx] o.type #[xv, a.eval y]).run C.P w = .ok v w' → (execOp a.eval o).run C.P w = .ok (.value v) w' := by
    intro v w' h
    rw [run_builtin ho]
    simp [builtin, hxv, h]
  cases hxr with
  | arr how hb hcs hn' =>
    rename_i b cap c e0
    obtain ⟨b', c1, e1, k1, k2, k3, k4, k5⟩ := hs.ob k _ hob
    rw [how] at k1; cases k1
    rw [hb] at k2; cases k2
    simp only [Nat.mul_one, Nat.zero_add] at hcs
    have hcell : ∀ (i : Nat) x, es[i]? = some x → ∃ u, c[i]? = some u ∧ PRep w g.st x u := by
      intro i x hx
      obtain ⟨u, hu, hr⟩ := k5 i (.p x) (by simp [hx])
      cases hr with | p hr => exact ⟨u, hu, hr⟩
    by_cases hroom : es.length + ys.length ≤ cap
    · obtain ⟨u, h1, h2⟩ := und_of C.good hi
      have h3 := kind_slice (h2.trans hik)
      subst h3
      obtain ⟨u', h1', h2'⟩ := und_of C.good hj
      have h3' := kind_slice (h2'.trans hjk)
      subst h3'
      obtain ⟨info, hf1, hf2, hf3, z, hf4, hf5⟩ := info_of C.good hie
      have hyv := elems_view hY (evo_rep hs hy)
      obtain ⟨news, hsrc, hnews⟩ := src_of (P := C.P) (sz := ie.size) h1' hyv (fun y hy => by rw [hsz y hy, h1s]; rfl) (by omega)
      have hnl : news.length = ys.length := by rw [hsrc.newsLen, h1s, Nat.mul_one]
      have hstc := run_storeCells_at C.P b (es.length * ie.size) e0 news 0 c w hb (by rw [h1s]; simp; omega) hsrc.one
      simp only [Nat.add_zero] at hstc
      rw [h1s, Nat.mul_one] at hstc
      obtain ⟨c', hc'⟩ : ∃ c', c' = (c.toList.take es.length ++ news ++ c.toList.drop (es.length + news.length)).toArray := ⟨_, rfl⟩
      rw [← hc'] at hstc
      have hrr := run_append_room' t tx o.type e info h1 hf1 b es.length cap (a.eval y) ys.length news (by rw [hf2]; exact hsrc) hroom (by rw [hf2, h1s, Nat.mul_one]; exact hstc)
      have hcell' : ∀ j, c'[j]? = if es.length ≤ j ∧ j < es.length + news.length then news[j - es.length]? else c[j]? := by
        intro j
        rw [hc']
        have := splice_get c.toList news es.length (by simp; omega) j
        simpa using this
      have hcs' : c'.size = cap := by rw [← hcs, hc']; simp; omega
      have hin := hs.inplace (fun i => Nat.beq i k || Nat.beq i d) hDl (k := k) (d := d) how (by simp) (by simp) hb (c' := c') (hcs'.trans hcs.symm) (fun o h => absurd h (k4 o)) (fun _ => False) (fun o h => k4 o h)
      have hp := hin.put (d := some d) (fun t ht => by cases ht; exact Nat.blt_eq ▸ hn) (x := .arr d 1 0 (es.length + ys.length)) (v := .slice (some ⟨b, 0, none⟩) (es.length + ys.length) cap)
        (.arr (by simp) (setRow_heap w b c c' e0 (0, 0) hb) (by omega) hroom)
      have hEv : Ev w g.st (w.setRow b c') (fun b' o => (b' = b ∧ False) ∨ (b' ≠ b ∧ g.st b' o)) := by
        intro b' o h
        have hne : b' ≠ b := fun e => k4 o (e ▸ h)
        exact ⟨.inr ⟨hne, h⟩, by simp only [World.cell?, setRow_other w b b' c' hne]⟩
      have hfin := hp.addOb (d := d) (cs := (es ++ ys).map .p) (by
        refine ⟨b, c', e0, by simp, setRow_heap w b c c' e0 (0, 0) hb, by simp; omega, fun o ho => ?_, fun i x hx => ?_⟩
        · rcases ho with ⟨_, ho⟩ | ⟨ho, _⟩
          · exact ho
          · exact ho rfl
        · simp only [List.getElem?_map, Option.map_eq_some_iff] at hx
          obtain ⟨y, hy, rfl⟩ := hx
          rw [List.getElem?_append] at hy
          split at hy
          · rename_i hlt
            obtain ⟨u, hu, hr⟩ := hcell i y hy
            exact ⟨u, by rw [hcell', if_neg (by omega)]; exact hu, .p (hr.mono hEv)⟩
          · rename_i hge
            have hi2 : i - es.length < ys.length := (List.getElem?_eq_some_iff.1 hy).1
            obtain ⟨_, u, hu, hr⟩ := hnews (i - es.length) y 0 y hy (by rw [hsz y (List.mem_of_getElem? hy)]; rfl)
            rw [h1s, Nat.mul_one, Nat.add_zero] at hu
            exact ⟨u, by rw [hcell', if_pos (by omega)]; exact hu, .p (hr.mono hEv)⟩)
      unfold Oper.wp
      rw [hrun0 _ _ hrr]
      simp only [Oper.upon, hd]
      exact ⟨_, _, hfin, hK⟩
    · have hlenT : (c.toList.take es.length).length = es.length := by
        rw [List.length_take, show c.toList.length = cap from Array.length_toList.trans hcs]; omega
      have hold : (Builtin.firstCells ie.size es.length (.slice (some ⟨b, 0, none⟩) es.length cap)).run C.P w.drew = .ok (c.toList.take es.length).toArray w.drew := by
        refine run_firstCells_some w.drew ie.size es.length ⟨b, 0, none⟩ es.length cap _ (by rw [hlenT, h1s, Nat.mul_one]) (fun j v hv => ?_)
        rw [List.getElem?_take] at hv
        split at hv
        · rw [add_lit, Nat.zero_add, World.cell?_drew]
          simp only [World.cell?, hb]
          simpa using hv
        · cases hv
      obtain ⟨v, w', g', hr', hst'⟩ := app_grow (es := es) (fun i => Nat.beq i k || Nat.beq i d) hDl (by simp) hi hik hie hj hjk hy hY hsz h1s hzl' hlen hlen' hs (some ⟨b, 0, none⟩) cap (c.toList.take es.length)
        hold hlenT (fun i x hx => by
          obtain ⟨u, hu, hr⟩ := hcell i x hx
          exact ⟨u, by rw [List.getElem?_take, if_pos (List.getElem?_eq_some_iff.1 hx).1]; simpa using hu, hr⟩) (by omega) o.type hn
      unfold Oper.wp
      rw [hrun0 _ _ hr']
      simp only [Oper.upon, hd]
      exact ⟨g', _, hst', hK⟩

/-- append of something to a slice that is nil: a row that is to be written. -/
theorem ok_appendNA {t tx e e' : TypeId} {x y : Operand} {Y : AV} {ys : List PV} {i ie j : TI} (ho : o.op = .call { callee := .builtin .append, args := #[x, y], argTypes := #[t, tx] }) (hd : o.dst = some d) (hn : Nat.blt d C.n = true)
    (hi : look C.tt t = some i) (hik : i.k = .slice e) (hie : look C.tt e = some ie) (hj : look C.tt tx = some j) (hjk : j.k = .slice e') (hx : evo sl x = some (.p (.val (.slice none 0 0))))
    (hy : evo sl y = some Y) (hY : Y.elems? = some ys) (hsz : ∀ y ∈ ys, y.cells = [y]) (hys : 0 < ys.length) (h1s : ie.size = 1) (hzl : Nat.beq ie.zero.length ie.size = true)
    (hlen : ys.length * ie.bytes ≤ 140737488355328) (hlen' : ys.length ≤ 9223372036854775807)
    (hK : K ⟨(d, .arr d 1 0 ys.length) :: (demS (fun i => Nat.beq i d) ⟨sl, ob⟩).sl, (d, ys.map .p) :: (demS (fun i => Nat.beq i d) ⟨sl, ob⟩).ob⟩) : OpOk C o K ⟨sl, ob⟩ := by
  have hzl' := Nat.eq_of_beq_eq_true hzl
  have hdl : d < M1 := by have h1 := Nat.le_of_ble_eq_true C.nl; have h2 : d < C.n := Nat.blt_eq ▸ hn; omega
  intro g a w hs
  have hx' := evo_val hs hx
  have hrun0 : ∀ v w', (Builtin.append_ #[t, tx] o.type #[.slice none 0 0, a.eval y]).run C.P w = .ok v w' → (execOp a.eval o).run C.P w = .ok (.value v) w' := by
    intro v w' h
    rw [run_builtin ho]
    simp [builtin, hx', h]
  obtain ⟨v, w', g', hr, hst⟩ := app_grow (es := []) (fun i => Nat.beq i d) (fun i hi => by have := Nat.eq_of_beq_eq_true hi; omega) (by simp) hi hik hie hj hjk hy hY hsz h1s hzl' (by simpa using hlen) (by simpa using hlen') hs none 0 []
    (run_firstCells_none w.drew ie.size 0 0 0) rfl (by simp) (by simpa using hys) o.type hn
  unfold Oper.wp
  rw [hrun0 _ _ hr]
  simp only [Oper.upon, hd]
  simp only [List.length_nil, Nat.zero_add, List.nil_append] at hst
  exact ⟨g', _, hst, hK⟩

end

/-- A row that was written is settled: from now on nobody writes it. -/
theorem St.freeze {n : Nat} {w0 : Base} {w : World} {F : Nat → Prop} {g : Gh} {sl : List (Nat × AV)} {ob : List (Nat × List AV)} {a : Act} (hs : St n w0 F g ⟨sl, ob⟩ a w) {k : Nat} {es : List PV} {j : Nat}
    (hk : k < M1) (hob : look ob k = some (es.map .p)) (hj : look sl j = some (.arr k 1 0 es.length)) (hone : ∀ x ∈ es, x.cells = [x]) (hone' : ∀ x ∈ es, x.one = true) :
    ∃ g', St n w0 F g' ⟨(j, .p (.slice es)) :: (demS (fun i => Nat.beq i k) ⟨sl, ob⟩).sl, (demS (fun i => Nat.beq i k) ⟨sl, ob⟩).ob⟩ a w := by
  obtain ⟨b, c, e, k1, k2, k3, k4, k5⟩ := hs.ob k _ hob
  have hlt : b < w.heap.size := (hs.own k b k1).1
  have keyD : ∀ i b', Nat.beq i k = false → g.ow i = some b' → b' ≠ b := fun i b' hD hi e => by
    subst e
    have := hs.inj i k b' hi k1
    subst this
    simp at hD
  have hev : Ev w g.st w (fun b' o => g.st b' o ∨ (b' = b ∧ o < es.length)) := fun b' o h => ⟨.inl h, rfl⟩
  have hs' := hs.evolve (fun i => Nat.beq i k) (fun i hi => by have := Nat.eq_of_beq_eq_true hi; omega) (g' := ⟨fun b' o => g.st b' o ∨ (b' = b ∧ o < es.length), fun i => if Nat.beq i k then none else g.ow i⟩) hev (fun id b' hD h => ⟨by simp only [hD]; exact h, rfl, fun o ho => ho.resolve_right fun h' => keyD id b' hD h h'.1⟩)
    (fun i j b h1 h2 => by
      dsimp only at h1 h2
      split at h1
      · cases h1
      · split at h2
        · cases h2
        · exact hs.inj i j b h1 h2) (fun i b h => by
      dsimp only at h
      split at h
      · cases h
      · exact hs.own i b h) (fun b' o h => by
      rcases h with h | ⟨rfl, _⟩
      · exact hs.lt b' o h
      · exact hlt) (fun b h => rfl) rfl rfl rfl (Nat.le_refl _) (fun b' hb' o => ⟨fun h => h.resolve_right fun h' => (hs.own k b k1).2 (h'.1 ▸ hb'), .inl⟩) (fun i hi => by
        have hne : Nat.beq i k = false := by
          cases hq : Nat.beq i k
          · rfl
          · have := Nat.eq_of_beq_eq_true hq; omega
        simp only [hne]; rfl)
  refine ⟨_, { hs' with sl := fun i => ?_, ob := hs'.ob }⟩
  simp only [AS.get, look_cons]
  by_cases e1 : j = i
  · subst e1
    simp only [if_true, Option.getD_some]
    have h0 := hs.sl j
    simp only [AS.get, hj, Option.getD_some] at h0
    generalize a.tmps.getD j Go.undef = v at h0
    cases h0 with
    | arr how hb hcs hn =>
      rw [k1] at how; cases how
      rw [k2] at hb; cases hb
      refine .p (.slice 1 (fun i _ => c.getD i Go.undef) hn (fun y hy => by rw [hone y hy]; rfl) (fun x hx y hy => ?_) (fun i x j y hx hy => ?_) (fun i x j y hx hy => ?_))
      · rw [hone x hx] at hy; simp at hy; rw [hy]; exact hone' x hx
      · rw [hone x (List.mem_of_getElem? hx)] at hy
        cases j with
        | succ j => simp at hy
        | zero =>
          have hi : i < es.length := (List.getElem?_eq_some_iff.1 hx).1
          have hci : i < c.size := by simp at k3; omega
          refine ⟨.inr ⟨rfl, by omega⟩, ?_⟩
          simp only [World.cell?, k2, Nat.zero_add, Nat.mul_one, Nat.add_zero]
          simp [Array.getD, hci]
      · rw [hone x (List.mem_of_getElem? hx)] at hy
        cases j with
        | succ j => simp at hy
        | zero =>
          simp only [List.getElem?_cons_zero, Option.some.injEq] at hy
          subst hy
          obtain ⟨u, hu, hr⟩ := k5 i (.p x) (by simp [hx])
          rw [Array.getD_eq_getD_getElem?, hu]
          cases hr with | p hr => exact hr.mono hev
  · rw [if_neg e1]
    exact hs'.sl i

theorem awp_freeze {C : Cx} {c : Code} {Q : Exit → AS → Prop} {sl : List (Nat × AV)} {ob : List (Nat × List AV)} (j : Nat) {k n : Nat} {es : List PV} (hj : look sl j = some (.arr k 1 0 n)) (hk : Nat.blt k M1 = true) (hob : look ob k = some (es.map .p)) (hn : n = es.length)
    (hone : ∀ x ∈ es, x.cells = [x]) (hone' : ∀ x ∈ es, x.one = true)
    (h : awp C c Q ⟨(j, .p (.slice es)) :: (demS (fun i => Nat.beq i k) ⟨sl, ob⟩).sl, (demS (fun i => Nat.beq i k) ⟨sl, ob⟩).ob⟩) : awp C c Q ⟨sl, ob⟩ := by
  subst hn
  intro g a w hs
  obtain ⟨g', hs'⟩ := hs.freeze (Nat.blt_eq ▸ hk) hob hj hone hone'
  exact h g' a w hs'

end Go.Ab
