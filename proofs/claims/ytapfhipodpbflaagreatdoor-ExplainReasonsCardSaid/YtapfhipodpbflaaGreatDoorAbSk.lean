/- A layer of abstract values over the model's worlds, part Sk: stacks, rows of one-cell elements that grow and shrink and are settled late. It holds for every program. -/
import Derived.Test.YtapfhipodpbflaaGreatDoorAbMr
set_option linter.unusedVariables false
set_option linter.unusedSimpArgs false
set_option linter.unnecessarySimpa false
namespace Go.Ab

section
variable {C : Cx} {o : Oper} {K : AS → Prop} {sl : List (Nat × AV)} {ob : List (Nat × List AV)} {d : Nat}

theorem sk_grow {es ys : List PV} {t tx e e' : TypeId} {i ie j : TI} {y : Operand} {Y : AV} {k : Nat} (D : Nat → Bool) (hDl : ∀ i, D i = true → i < M1) (hDk : D k = true)
    (hi : look C.tt t = some i) (hik : i.k = .slice e) (hie : look C.tt e = some ie) (hj : look C.tt tx = some j) (hjk : j.k = .slice e')
    (hy : evo sl y = some Y) (hY : Y.elems? = some ys) (hsz : ∀ y ∈ es ++ ys, y.cells = [y] ∧ y.one = true) (h1s : ie.size = 1) (hzl : ie.zero.length = ie.size)
    (hlen : (es.length + ys.length) * ie.bytes ≤ 140737488355328) (hlen' : es.length + ys.length ≤ 9223372036854775807)
    {g : Gh} {a : Act} {w : World} (hs : St C.n C.w0 C.F g ⟨sl, ob⟩ a w) (base : Option Addr) (cap : Nat) (olds : List Value)
    (hold : (Builtin.firstCells ie.size es.length (.slice base es.length cap)).run C.P w.drew = .ok olds.toArray w.drew) (hol : olds.length = es.length)
    (hoc : ∀ (i : Nat) x, es[i]? = some x → ∃ u, olds[i]? = some u ∧ PRep w g.st x u)
    (hg : cap < es.length + ys.length) (ty : TypeId) (hn : Nat.blt d C.n = true) :
    ∃ v w' g', (Builtin.append_ #[t, tx] ty #[.slice base es.length cap, a.eval y]).run C.P w = .ok v w' ∧
      St C.n C.w0 C.F g' ⟨(d, .stk k 1 (es ++ ys)) :: (demS D ⟨sl, ob⟩).sl, (demS D ⟨sl, ob⟩).ob⟩ (a.put (some d) v) w' := by
  obtain ⟨u, h1, h2⟩ := und_of C.good hi
  have h3 := kind_slice (h2.trans hik)
  subst h3
  obtain ⟨u', h1', h2'⟩ := und_of C.good hj
  have h3' := kind_slice (h2'.trans hjk)
  subst h3'
  obtain ⟨info, hf1, hf2, hf3, z, hf4, hf5⟩ := info_of C.good hie
  have hyv := elems_view hY (evo_rep hs hy)
  have hszy : ∀ y ∈ ys, y.cells = [y] := fun y hy => (hsz y (List.mem_append_right _ hy)).1
  obtain ⟨news, hsrc, hnews⟩ := src_of (P := C.P) (sz := ie.size) h1' hyv (fun y hy => by rw [hszy y hy, h1s]; rfl) (by omega)
  have hfit := growslice_fits (bytes := ie.bytes) hg hlen
  have hrun := run_append_grow_src w t tx ty e info z h1 hf1 hf4 base es.length cap olds (by rw [hf2]; exact hold) (a.eval y) ys.length news (by rw [hf2]; exact hsrc) hg (by omega) (by rw [hf3]; exact hfit)
  obtain ⟨q, hq⟩ : ∃ q, q = grownCap w (es.length + ys.length) cap e := ⟨_, rfl⟩
  rw [← hq] at hrun
  have hqn : es.length + ys.length ≤ q := by
    rw [hq]; unfold grownCap; simp only [Question.cut]; omega
  have hzs : z.cells.size = 1 := by rw [← h1s, ← hzl, ← hf5, Array.length_toList]
  have hnl : news.length = ys.length := by rw [hsrc.newsLen, h1s, Nat.mul_one]
  obtain ⟨c, hc⟩ : ∃ c, c = (olds ++ news).toArray ++ Builtin.zeroCells z.cells (q - (es.length + ys.length)) := ⟨_, rfl⟩
  rw [← hc] at hrun
  have hcs : c.size = q := by
    rw [hc]
    simp only [Array.size_append, List.size_toArray, List.length_append, hol, hnl, size_zeroCells, hzs]
    omega
  have hf := hs.drew.fresh D hDl k hDk (fun o => o = q * 1) c e
  have hev := Ev_alloc (w := w.drew) (T := fun o => o = q * 1) (ob := .cells c e) hs.drew.lt
  have hlenA : (es ++ ys).length = es.length + ys.length := List.length_append
  have hrep : ARep (w.drew.alloc (.cells c e)) ⟨fun b o => g.st b o ∨ (b = w.drew.heap.size ∧ o = q * 1), fun i => if i = k then some w.drew.heap.size else if D i then none else g.ow i⟩ (.stk k 1 (es ++ ys)) (.slice (some ⟨w.drew.heap.size, 0, none⟩) (es ++ ys).length q) := by
    refine .stk (by simp) heap_alloc_at (by omega) (by omega) (fun x hx => by rw [(hsz x hx).1]; rfl) (fun x hx c hc => by rw [(hsz x hx).1] at hc; obtain rfl := List.mem_singleton.1 hc; exact (hsz c hx).2) (fun o => ?_) (fun i x j p hx hp => ?_)
    · constructor
      · rintro (h | ⟨_, h⟩)
        · exact absurd (hs.lt _ _ h) (Nat.lt_irrefl _)
        · exact h
      · intro h; exact .inr ⟨rfl, h⟩
    · rw [(hsz x (List.mem_of_getElem? hx)).1] at hp
      have hj : j = 0 := by
        have := (List.getElem?_eq_some_iff.1 hp).1
        simpa using this
      subst hj
      simp only [List.getElem?_cons_zero, Option.some.injEq] at hp
      subst hp
      have hil : i < (es ++ ys).length := (List.getElem?_eq_some_iff.1 hx).1
      have hget : c[i]? = if i < es.length then olds[i]? else news[i - es.length]? := by
        rw [hc, Array.getElem?_append]
        simp only [List.size_toArray, List.length_append, hol, hnl]
        rw [if_pos (by omega), List.getElem?_toArray, List.getElem?_append, hol]
      rw [Nat.mul_one, Nat.add_zero]
      rw [List.getElem?_append] at hx
      split at hx
      · rename_i hlt
        obtain ⟨u, hu, hr⟩ := hoc i x hx
        exact ⟨u, by rw [hget, if_pos hlt]; exact hu, (PRep.mono (w := w) (w' := w.drew) (st := g.st) (st' := g.st) (fun b o h => ⟨h, rfl⟩) hr).mono hev⟩
      · rename_i hge
        obtain ⟨k1, u, hu, hr⟩ := hnews (i - es.length) x 0 x hx (by rw [hszy x (List.mem_of_getElem? hx)]; rfl)
        rw [h1s, Nat.mul_one, Nat.add_zero] at hu
        exact ⟨u, by rw [hget, if_neg hge]; exact hu, (PRep.mono (w := w) (w' := w.drew) (st := g.st) (st' := g.st) (fun b o h => ⟨h, rfl⟩) hr).mono hev⟩
  rw [hlenA] at hrep
  have hp := hf.put (d := some d) (fun t ht => by cases ht; exact Nat.blt_eq ▸ hn) hrep
  exact ⟨_, _, _, hrun, hp⟩

/-- append to a stack. -/
theorem ok_appendSk {t tx e e' : TypeId} {x y : Operand} {k : Nat} {es : List PV} {Y : AV} {ys : List PV} {i ie j : TI} (ho : o.op = .call { callee := .builtin .append, args := #[x, y], argTypes := #[t, tx] }) (hd : o.dst = some d) (hn : Nat.blt d C.n = true)
    (hi : look C.tt t = some i) (hik : i.k = .slice e) (hie : look C.tt e = some ie) (hj : look C.tt tx = some j) (hjk : j.k = .slice e') (hx : evo sl x = some (.stk k 1 es)) (hk : Nat.blt k M1 = true)
    (hy : evo sl y = some Y) (hY : Y.elems? = some ys) (hsz : ∀ y ∈ es ++ ys, y.cells = [y] ∧ y.one = true) (hys : 0 < ys.length) (h1s : ie.size = 1) (hzl : Nat.beq ie.zero.length ie.size = true)
    (hlen : (es.length + ys.length) * ie.bytes ≤ 140737488355328) (hlen' : es.length + ys.length ≤ 9223372036854775807)
    (hK : K ⟨(d, .stk k 1 (es ++ ys)) :: (demS (fun i => Nat.beq i k) ⟨sl, ob⟩).sl, (demS (fun i => Nat.beq i k) ⟨sl, ob⟩).ob⟩) : OpOk C o K ⟨sl, ob⟩ := by
  have hzl' := Nat.eq_of_beq_eq_true hzl
  have hk' : k < M1 := Nat.blt_eq ▸ hk
  have hDl : ∀ i, (Nat.beq i k) = true → i < M1 := by
    intro i hi
    have := Nat.eq_of_beq_eq_true hi; omega
  intro g a w hs
  have hxr := evo_rep hs hx
  generalize hxv : a.eval x = xv at hxr
  have hrun0 : ∀ v w', (Builtin.append_ #[t, tx] o.type #[xv, a.eval y]).run C.P w = .ok v w' → (execOp a.eval o).run C.P w = .ok (.value v) w' := by
    intro v w' h
    rw [run_builtin ho]
    simp [builtin, hxv, h]
  cases hxr with
  | stkn =>
    obtain ⟨v, w', g', hr', hst'⟩ := sk_grow (es := []) (k := k) (fun i => Nat.beq i k) hDl (by simp) hi hik hie hj hjk hy hY hsz h1s hzl' hlen hlen' hs none 0 [] (run_firstCells_none w.drew ie.size 0 0 0) rfl (fun i x hx => by simp at hx) (by simpa using hys) o.type hn
    unfold Oper.wp
    rw [hrun0 _ _ hr']
    simp only [Oper.upon, hd]
    exact ⟨g', _, hst', hK⟩
  | stke =>
    rename_i a0
    obtain ⟨v, w', g', hr', hst'⟩ := sk_grow (es := []) (k := k) (fun i => Nat.beq i k) hDl (by simp) hi hik hie hj hjk hy hY hsz h1s hzl' hlen hlen' hs (some a0) 0 [] (run_firstCells_some w.drew ie.size 0 a0 0 0 [] (by simp) (by simp)) rfl (fun i x hx => by simp at hx) (by simpa using hys) o.type hn
    unfold Oper.wp
    rw [hrun0 _ _ hr']
    simp only [Oper.upon, hd]
    exact ⟨g', _, hst', hK⟩
  | stk how hb hcs hlenc hszc hone hst hr =>
    rename_i b cap c e0
    rw [Nat.mul_one] at hcs
    have hcell : ∀ (i : Nat) x, es[i]? = some x → ∃ u, c[i]? = some u ∧ PRep w g.st x u := by
      intro i x hx
      obtain ⟨v, h1, h2⟩ := hr i x 0 x hx (by rw [(hsz x (List.mem_append_left _ (List.mem_of_getElem? hx))).1]; rfl)
      exact ⟨v, by rw [Nat.mul_one, Nat.add_zero] at h1; exact h1, h2⟩
    by_cases hroom : es.length + ys.length ≤ cap
    · obtain ⟨u, h1, h2⟩ := und_of C.good hi
      have h3 := kind_slice (h2.trans hik)
      subst h3
      obtain ⟨u', h1', h2'⟩ := und_of C.good hj
      have h3' := kind_slice (h2'.trans hjk)
      subst h3'
      obtain ⟨info, hf1, hf2, hf3, z, hf4, hf5⟩ := info_of C.good hie
      have hyv := elems_view hY (evo_rep hs hy)
      have hszy : ∀ y ∈ ys, y.cells = [y] := fun y hy => (hsz y (List.mem_append_right _ hy)).1
      obtain ⟨news, hsrc, hnews⟩ := src_of (P := C.P) (sz := ie.size) h1' hyv (fun y hy => by rw [hszy y hy, h1s]; rfl) (by omega)
      have hnl : news.length = ys.length := by rw [hsrc.newsLen, h1s, Nat.mul_one]
      have hstc := run_storeCells_at C.P b (es.length * ie.size) e0 news 0 c w hb (by rw [h1s]; simp; omega) hsrc.one
      simp only [Nat.add_zero] at hstc
      rw [h1s, Nat.mul_one] at hstc
      obtain ⟨c', hc'⟩ : ∃ c', c' = (c.toList.take es.length ++ news ++ c.toList.drop (es.length + news.length)).toArray := ⟨_, rfl⟩
      rw [← hc'] at hstc
      have hrr := run_append_room' t tx o.type e info h1 hf1 b es.length cap (a.eval y) ys.length news (by rw [hf2]; exact hsrc) hroom (by rw [hf2, h1s, Nat.mul_one]; exact hstc)
      have hcell' : ∀ j, c'[j]? = if es.length ≤ j ∧ j < es.length + news.length then news[j - es.length]? else c[j]? := by
        intro j
        rw [hc']
        have := splice_get c.toList news es.length (by simp; omega) j
        simpa using this
      have hcs' : c'.size = cap := by rw [← hcs, hc']; simp; omega
      have hin := hs.inplace (fun i => Nat.beq i k) hDl (k := k) (d := k) how (by simp) (by simp) hb (c' := c') (hcs'.trans hcs.symm) (fun o h => by
        have := (hst o).1 h
        rw [Array.getElem?_eq_none (by omega), Array.getElem?_eq_none (by omega)]) (fun o => o = cap * 1) (fun o h => (hst o).1 h)
      have hEv : Ev w g.st (w.setRow b c') (fun b' o => (b' = b ∧ o = cap * 1) ∨ (b' ≠ b ∧ g.st b' o)) := by
        intro b' o h
        by_cases e1 : b' = b
        · subst e1
          have ho := (hst o).1 h
          refine ⟨.inl ⟨rfl, ho⟩, ?_⟩
          simp only [World.cell?, setRow_heap w b' c c' e0 (0, 0) hb, hb]
          rw [Array.getElem?_eq_none (by omega), Array.getElem?_eq_none (by omega)]
        · exact ⟨.inr ⟨e1, h⟩, by simp only [World.cell?, setRow_other w b b' c' e1]⟩
      have hlenA : (es ++ ys).length = es.length + ys.length := List.length_append
      have hrep : ARep (w.setRow b c') ⟨fun b' o => (b' = b ∧ o = cap * 1) ∨ (b' ≠ b ∧ g.st b' o), fun i => if i = k then some b else if (Nat.beq i k) then none else g.ow i⟩ (.stk k 1 (es ++ ys)) (.slice (some ⟨b, 0, none⟩) (es ++ ys).length cap) := by
        refine .stk (by simp) (setRow_heap w b c c' e0 (0, 0) hb) (by omega) (by omega) (fun x hx => by rw [(hsz x hx).1]; rfl) (fun x hx c hc => by rw [(hsz x hx).1] at hc; obtain rfl := List.mem_singleton.1 hc; exact (hsz c hx).2) (fun o => ?_) (fun i x j p hx hp => ?_)
        · constructor
          · rintro (⟨_, h⟩ | ⟨h, _⟩)
            · exact h
            · exact absurd rfl h
          · intro h; exact .inl ⟨rfl, h⟩
        · rw [(hsz x (List.mem_of_getElem? hx)).1] at hp
          have hj : j = 0 := by
            have := (List.getElem?_eq_some_iff.1 hp).1
            simpa using this
          subst hj
          simp only [List.getElem?_cons_zero, Option.some.injEq] at hp
          subst hp
          rw [Nat.mul_one, Nat.add_zero]
          rw [List.getElem?_append] at hx
          split at hx
          · rename_i hlt
            obtain ⟨u, hu, hr⟩ := hcell i x hx
            exact ⟨u, by rw [hcell', if_neg (by omega)]; exact hu, hr.mono hEv⟩
          · rename_i hge
            have hi2 : i - es.length < ys.length := (List.getElem?_eq_some_iff.1 hx).1
            obtain ⟨_, u, hu, hr⟩ := hnews (i - es.length) x 0 x hx (by rw [hszy x (List.mem_of_getElem? hx)]; rfl)
            rw [h1s, Nat.mul_one, Nat.add_zero] at hu
            exact ⟨u, by rw [hcell', if_pos (by omega)]; exact hu, hr.mono hEv⟩
      rw [hlenA] at hrep
      have hp := hin.put (d := some d) (fun t ht => by cases ht; exact Nat.blt_eq ▸ hn) hrep
      unfold Oper.wp
      rw [hrun0 _ _ hrr]
      simp only [Oper.upon, hd]
      exact ⟨_, _, hp, hK⟩
    · have hlenT : (c.toList.take es.length).length = es.length := by
        rw [List.length_take, show c.toList.length = cap from Array.length_toList.trans hcs]; omega
      have hold : (Builtin.firstCells ie.size es.length (.slice (some ⟨b, 0, none⟩) es.length cap)).run C.P w.drew = .ok (c.toList.take es.length).toArray w.drew := by
        refine run_firstCells_some w.drew ie.size es.length ⟨b, 0, none⟩ es.length cap _ (by rw [hlenT, h1s, Nat.mul_one]) (fun j v hv => ?_)
        rw [List.getElem?_take] at hv
        split at hv
        · rw [add_lit, Nat.zero_add, World.cell?_drew]
          simp only [World.cell?, hb]
          simpa using hv
        · cases hv
      obtain ⟨v, w', g', hr', hst'⟩ := sk_grow (es := es) (k := k) (fun i => Nat.beq i k) hDl (by simp) hi hik hie hj hjk hy hY hsz h1s hzl' hlen hlen' hs (some ⟨b, 0, none⟩) cap (c.toList.take es.length)
        hold hlenT (fun i x hx => by
          obtain ⟨u, hu, hr⟩ := hcell i x hx
          exact ⟨u, by rw [List.getElem?_take, if_pos (List.getElem?_eq_some_iff.1 hx).1]; simpa using hu, hr⟩) (by omega) o.type hn
      unfold Oper.wp
      rw [hrun0 _ _ hr']
      simp only [Oper.upon, hd]
      exact ⟨g', _, hst', hK⟩

theorem ok_lenSk {t e : TypeId} {x : Operand} {i : TI} {k sz : Nat} {es : List PV} (ho : o.op = .call { callee := .builtin .len, args := #[x], argTypes := #[t] }) (hd : o.dst = some d) (hn : Nat.blt d C.n = true)
    (hi : look C.tt t = some i) (hik : i.k = .slice e) (hx : evo sl x = some (.stk k sz es))
    (hK : K ⟨(d, .p (.val (.int .i64 (es.length : Int)))) :: sl, ob⟩) : OpOk C o K ⟨sl, ob⟩ := by
  obtain ⟨u, h1, h2⟩ := und_of C.good hi
  have h3 := kind_slice (h2.trans hik)
  subst h3
  refine ok_one hd hn (fun g a w hs => ?_) hK
  have h5 := evo_rep hs hx
  generalize hv : a.eval x = v at h5
  cases h5 with
  | stkn => exact ⟨.int .i64 0, by rw [run_builtin ho]; simp [builtin, hv, Builtin.len_, run_underlying h1, goInt], .p (.val _)⟩
  | stke => exact ⟨.int .i64 0, by rw [run_builtin ho]; simp [builtin, hv, Builtin.len_, run_underlying h1, goInt], .p (.val _)⟩
  | stk how hb hcs hlenc hszc hone hst hr => exact ⟨.int .i64 (es.length : Int), by rw [run_builtin ho]; simp [builtin, hv, Builtin.len_, run_underlying h1, goInt], .p (.val _)⟩

/-- The address of an element of a stack. -/
theorem ok_indexAddrSk {t e : TypeId} {x y : Operand} {i ie : TI} {k : IntKind} {n : Int} {id : Nat} {es : List PV} (ho : o.op = .indexAddr t x y) (hd : o.dst = some d) (hn : Nat.blt d C.n = true)
    (hi : look C.tt t = some i) (hik : i.k = .slice e) (hie : look C.tt e = some ie) (hx : evo sl x = some (.stk id 1 es))
    (hy : evo sl y = some (.p (.val (.int k n)))) (hsz : ie.size = 1) (hb : 0 ≤ n ∧ n < (es.length : Int))
    (hK : K ⟨(d, .ptr id n.toNat) :: sl, ob⟩) : OpOk C o K ⟨sl, ob⟩ := by
  obtain ⟨u, h1, h2⟩ := und_of C.good hi
  have h3 := kind_slice (h2.trans hik)
  subst h3
  refine ok_one hd hn (fun g a w hs => ?_) hK
  have h5 := evo_rep hs hx
  generalize hv : a.eval x = v at h5
  cases h5 with
  | stkn => simp at hb; omega
  | stke => simp at hb; omega
  | stk how hb' hcs hlenc hszc hone hst hr =>
    rename_i b cap c e'
    exact ⟨.pointer (some ⟨b, n.toNat, none⟩), by simp [execOp, ho, hv, evo_val hs hy, Instr.indexAt, asIntOf, run_underlying h1, hb.1, hb.2, run_sizeOf C.good hie, hsz, add_lit], .ptr how⟩

/-- What lies at an address in a stack. -/
theorem ok_loadSk {t : TypeId} {x : Operand} {i : TI} {id n q : Nat} {es : List PV} {y : PV} (ho : o.op = .load t x) (hd : o.dst = some d) (hn : Nat.blt d C.n = true)
    (hi : look C.tt t = some i) (hia : i.k.isAgg = false) (hx : evo sl x = some (.ptr id n)) (hq : look sl q = some (.stk id 1 es)) (hy : es[n]? = some y) (hyc : y.cells = [y])
    (hK : K ⟨(d, .p y) :: sl, ob⟩) : OpOk C o K ⟨sl, ob⟩ := by
  refine ok_one hd hn (fun g a w hs => ?_) hK
  have h5 := evo_rep hs hx
  generalize hv : a.eval x = v at h5
  cases h5 with
  | ptr how =>
    rename_i b
    have h6 := hs.sl q
    simp only [AS.get, hq, Option.getD_some] at h6
    generalize a.tmps.getD q Go.undef = vq at h6
    cases h6 with
    | stkn => simp at hy
    | stke => simp at hy
    | stk how2 hb hcs hlen hsz hone hst hr =>
      rw [how] at how2; cases how2
      obtain ⟨u, hu, hr2⟩ := hr n y 0 y hy (by rw [hyc]; rfl)
      rw [Nat.mul_one, Nat.add_zero] at hu
      have hc := (find_block hs hb n).trans hu
      exact ⟨u, by simp [execOp, ho, hv, Instr.loadAt, Instr.sureAddr, run_loadOne C.good hi hia hc], .p hr2⟩

/-- The first elements of a stack: it shrinks. -/
theorem ok_sliceSk {t e : TypeId} {x : Operand} {hi : Option Operand} {id : Nat} {es : List PV} {h : Int} {i ie : TI} (ho : o.op = .slice t x none hi none) (hd : o.dst = some d) (hn : Nat.blt d C.n = true)
    (hi' : look C.tt t = some i) (hik : i.k = .slice e) (hie : look C.tt e = some ie) (hx : evo sl x = some (.stk id 1 es)) (hhi : hiI sl (es.length : Int) hi = some h)
    (hb : 0 ≤ h ∧ h ≤ es.length) (hsz1 : ie.size = 1) (hK : K ⟨(d, .stk id 1 (es.take h.toNat)) :: sl, ob⟩) : OpOk C o K ⟨sl, ob⟩ := by
  obtain ⟨u, h1, h2⟩ := und_of C.good hi'
  have h3 := kind_slice (h2.trans hik)
  subst h3
  refine ok_one hd hn (fun g a w hs => ?_) hK
  have hv := evo_rep hs hx
  generalize hq : a.eval x = v at hv
  cases hv with
  | stkn =>
    simp only [List.length_nil] at hb hhi
    have e2 : h = 0 := by omega
    subst e2
    have e := run_bounds (P := C.P) hs true 0 0 none hi (l := 0) rfl hhi (by omega) (Nat.le_refl _)
    refine ⟨.slice none 0 0, ?_, by simpa using ARep.stkn _ _⟩
    simp at e
    simp [execOp, ho, hq, Instr.sliceAt, Instr.slice, run_underlying h1, e, run_sizeOf C.good hie]
  | stke =>
    rename_i a0
    simp only [List.length_nil] at hb hhi
    have e2 : h = 0 := by omega
    subst e2
    have e := run_bounds (P := C.P) hs true 0 0 none hi (l := 0) rfl hhi (by omega) (Nat.le_refl _)
    refine ⟨.slice (some a0) 0 0, ?_, by simpa using ARep.stke _ _ a0⟩
    simp at e
    simp [execOp, ho, hq, Instr.sliceAt, Instr.slice, run_underlying h1, e, run_sizeOf C.good hie]
  | stk how hb2 hcs hlen hszc hone hst hr =>
    rename_i b cap c e0
    have e := run_bounds (P := C.P) hs true es.length cap none hi (l := 0) rfl hhi ⟨by omega, hb.1, by omega⟩ hlen
    have hlt : (es.take h.toNat).length = h.toNat := by rw [List.length_take]; omega
    refine ⟨.slice (some ⟨b, 0, none⟩) (es.take h.toNat).length cap, ?_, .stk how hb2 hcs (by omega) (fun x hx => hszc x (List.mem_of_mem_take hx)) (fun x hx => hone x (List.mem_of_mem_take hx)) hst (fun i x j p hx hp => ?_)⟩
    · simp at e
      simp [execOp, ho, hq, Instr.sliceAt, Instr.slice, run_underlying h1, e, run_sizeOf C.good hie, add_lit, hlt]
      try omega
    · rw [List.getElem?_take] at hx
      split at hx
      · exact hr i x j p hx hp
      · cases hx

/-- A stack is settled, wherever it is named. -/
theorem ghost_settle {id : Nat} {es : List PV} {q : Nat} {sl' : List (Nat × AV)} {ob' : List (Nat × List AV)} (hid : id < M1) (hq : look sl q = some (.stk id 1 es)) (h1 : dmS (Nat.beq · id) sl = some sl') (h2 : dmO (Nat.beq · id) ob = some ob') :
    Ghost C ⟨sl, ob⟩ ⟨(q, .p (.slice es)) :: sl', ob'⟩ := by
  intro g a w hs
  have h6 := hs.sl q
  simp only [AS.get, hq, Option.getD_some] at h6
  have drop : ∀ (st' : Nat → Nat → Prop), (∀ b o, g.st b o → st' b o) → (∀ i b, i ≠ id → g.ow i = some b → ∀ o, st' b o → g.st b o) → (∀ b o, st' b o → b < w.heap.size) → (∀ b, C.F b → ∀ o, st' b o ↔ g.st b o) →
      St C.n C.w0 C.F ⟨st', fun i => if i = id then none else g.ow i⟩ (demS (Nat.beq · id) ⟨sl, ob⟩) a w := by
    intro st' k1 k2 k3 k4
    refine hs.evolve (Nat.beq · id) (beq_lo hid) (fun b o h => ⟨k1 b o h, rfl⟩) (fun i b hD h => ?_) (fun i j b h1 h2 => ?_) (fun i b h => ?_) k3 (fun b h => rfl) rfl rfl rfl (Nat.le_refl _) k4 (fun i hi => ?_)
    · have hne : i ≠ id := fun e => by subst e; simp at hD
      exact ⟨by simp only [if_neg hne]; exact h, rfl, k2 i b hne h⟩
    · dsimp only at h1 h2
      split at h1
      · cases h1
      · split at h2
        · cases h2
        · exact hs.inj i j b h1 h2
    · dsimp only at h
      split at h
      · cases h
      · exact hs.own i b h
    · dsimp only; rw [if_neg (by omega)]
  obtain ⟨g', hs', hrep⟩ : ∃ g', St C.n C.w0 C.F g' (demS (Nat.beq · id) ⟨sl, ob⟩) a w ∧ ARep w g' (.p (.slice es)) (a.tmps.getD q Go.undef) := by
    generalize a.tmps.getD q Go.undef = vq at h6
    cases h6 with
    | stkn => exact ⟨_, drop g.st (fun _ _ h => h) (fun _ _ _ _ _ h => h) hs.lt (fun _ _ _ => Iff.rfl), .p .nils⟩
    | stke => exact ⟨_, drop g.st (fun _ _ h => h) (fun _ _ _ _ _ h => h) hs.lt (fun _ _ _ => Iff.rfl), .p (.nile _)⟩
    | stk how hb hcs hlen hsz hone hst hr =>
      rename_i b cap c e
      have hown := hs.own id b how
      refine ⟨_, drop (fun b' o => g.st b' o ∨ (b' = b ∧ o < es.length)) (fun _ _ h => .inl h) (fun i b' hne h o h2 => ?_) (fun b' o h => ?_) (fun b' hF o => ?_), .p ?_⟩
      · rcases h2 with h2 | ⟨h2, _⟩
        · exact h2
        · subst h2; exact absurd (hs.inj i id b' h how) hne
      · rcases h with h | ⟨h, _⟩
        · exact hs.lt b' o h
        · subst h; exact hown.1
      · constructor
        · rintro (h | ⟨h, _⟩)
          · exact h
          · subst h; exact absurd hF hown.2
        · exact .inl
      · refine .slice 1 (fun i j => (c[i * 1 + j]?).getD Go.undef) hlen hsz hone (fun i x j p hx hp => ?_) (fun i x j p hx hp => ?_)
        · obtain ⟨v, h3, h4⟩ := hr i x j p hx hp
          have hil : i < es.length := (List.getElem?_eq_some_iff.1 hx).1
          have hjl : j < 1 := by have := (List.getElem?_eq_some_iff.1 hp).1; rw [hsz x (List.mem_of_getElem? hx)] at this; exact this
          refine ⟨.inr ⟨rfl, by omega⟩, ?_⟩
          simp only [World.cell?, hb, Nat.zero_add]
          rw [h3]
          simp
        · obtain ⟨v, h3, h4⟩ := hr i x j p hx hp
          rw [h3]
          exact h4.mono fun b o h => ⟨.inl h, rfl⟩
  refine ⟨g', ?_⟩
  rw [dmS_ok h1, dmO_ok h2]
  refine { hs' with sl := fun i => ?_ }
  simp only [AS.get, look_cons]
  by_cases e : q = i
  · subst e; rw [if_pos rfl]; exact hrep
  · rw [if_neg e]; exact hs'.sl i
end

/-! ### The rules over plain lists -/
theorem dmC_p (D : Nat → Bool) : ∀ (l : List PV), dmC D (l.map .p) = some (l.map .p)
  | [] => rfl
  | x :: r => by
    have h := dmC_p D r
    simp only [List.map_cons, dmC, AV.dem, h]
    first | rfl | (simp [frc])
theorem dmO_row {D : Nat → Bool} {i : Nat} {l : List PV} {r r' : List (Nat × List AV)} (h : D i = false) (hr : dmO D r = some r') : dmO D ((i, l.map .p) :: r) = some ((i, l.map .p) :: r') := by
  simp only [dmO, h, dmC_p, hr]
theorem dmO_drop {D : Nat → Bool} {i : Nat} {cs : List AV} {r r' : List (Nat × List AV)} (h : D i = true) (hr : dmO D r = some r') : dmO D ((i, cs) :: r) = some r' := by
  simp only [dmO, h, hr]
theorem dmO_one {D : Nat → Bool} {i : Nat} {cs ds : List AV} {r r' : List (Nat × List AV)} (h : D i = false) (hc : dmC D cs = some ds) (hr : dmO D r = some r') : dmO D ((i, cs) :: r) = some ((i, ds) :: r') := by
  simp only [dmO, h, hc, hr]
theorem AV.sub_nilstk (tok sz : Nat) : (AV.p (.val (.slice none 0 0))).sub (.stk tok sz []) := by
  intro w g v h
  cases h with
  | p h => cases h; exact .stkn _ _
section
variable {C : Cx} {o : Oper} {K : AS → Prop} {sl : List (Nat × AV)} {ob : List (Nat × List AV)} {d : Nat}

theorem op_lookMp {α : Type} (f : α → PV) (L : List (Bytes × α)) (z : α) {t kt et : TypeId} {x y : Operand} {i j : TI} {tok : Nat} {k : Bytes} {zv : Value} (ho : o.op = .lookup t x y false) (hd : o.dst = some d) (hn : Nat.blt d C.n = true)
    (hi : look C.tt t = some i) (hik : i.k = .map kt et) (hj : look C.tt kt = some j) (hjk : j.k = .string) (hz : (C.P.info? et).map (·.zero) = some (some zv)) (hfz : f z = .val zv)
    (hx : evo sl x = some (.mp tok (L.map fun p => (p.1, f p.2)))) (hy : evo sl y = some (.p (eS k))) (hK : K ⟨(d, .p (f ((lookM L k).getD z))) :: sl, ob⟩) : OpOk C o K ⟨sl, ob⟩ := by
  refine ok_lookM ho hd hn hi hik hj hjk hz hx hy ?_ hK
  rw [lookM_map]
  cases lookM L k with
  | none => exact hfz.symm
  | some v => rfl
theorem op_putMp {α : Type} (f : α → PV) (L : List (Bytes × α)) (u : α) {t kt et : TypeId} {x y v : Operand} {i j : TI} {tok : Nat} {k : Bytes} {sl' : List (Nat × AV)} {ob' : List (Nat × List AV)} (ho : o.op = .mapUpdate t x y v) (hd : o.dst = none)
    (hi : look C.tt t = some i) (hik : i.k = .map kt et) (hj : look C.tt kt = some j) (hjk : j.k = .string)
    (hx : evo sl x = some (.mp tok (L.map fun p => (p.1, f p.2)))) (hy : evo sl y = some (.p (eS k))) (hv : evo sl v = some (.p (f u))) (htok : Nat.blt tok M1 = true)
    (h1 : upS tok ((putM L k u).map fun p => (p.1, f p.2)) sl = some sl') (h2 : dmO (Nat.beq · tok) ob = some ob') (hK : K ⟨sl', ob'⟩) : OpOk C o K ⟨sl, ob⟩ :=
  ok_putM ho hd hi hik hj hjk hx hy hv htok (putM_map f L k u) h1 h2 hK
theorem op_lookMr {α : Type} (f : α → PV) (L : List (Bytes × List α)) {t kt et : TypeId} {x y : Operand} {i j : TI} {tok sz ty : Nat} {tk : Option Bytes} {k : Bytes} (ho : o.op = .lookup t x y false) (hd : o.dst = some d) (hn : Nat.blt d C.n = true)
    (hi : look C.tt t = some i) (hik : i.k = .map kt et) (hj : look C.tt kt = some j) (hjk : j.k = .string) (hz : (C.P.info? et).map (·.zero) = some (some (.slice none 0 0)))
    (hx : evo sl x = some (.mpr tok sz ty tk (L.map fun p => (p.1, p.2.map f)))) (hy : evo sl y = some (.p (eS k))) (hK : K ⟨(d, .p (.slice (((lookM L k).getD []).map f))) :: sl, ob⟩) : OpOk C o K ⟨sl, ob⟩ := by
  refine ok_lookR ho hd hn hi hik hj hjk hz hx hy ?_ hK
  rw [lookM_map (fun l : List α => l.map f)]
  cases lookM L k with
  | none => rfl
  | some v => rfl
theorem op_takeMr {α : Type} (f : α → PV) (L : List (Bytes × List α)) {t kt et : TypeId} {x y : Operand} {i j : TI} {tok sz ty : Nat} {k : Bytes} {sl' : List (Nat × AV)} {ob' : List (Nat × List AV)} (ho : o.op = .lookup t x y false) (hd : o.dst = some d) (hn : Nat.blt d C.n = true)
    (hi : look C.tt t = some i) (hik : i.k = .map kt et) (hj : look C.tt kt = some j) (hjk : j.k = .string) (hz : (C.P.info? et).map (·.zero) = some (some (.slice none 0 0)))
    (hx : evo sl x = some (.mpr tok sz ty none (L.map fun p => (p.1, p.2.map f)))) (hy : evo sl y = some (.p (eS k))) (htok : Nat.blt tok M1 = true) (hdt : Nat.beq d tok = false)
    (h1 : tkS tok d (.mpr tok sz ty (some k) (L.map fun p => (p.1, p.2.map f))) sl = some sl') (h2 : tkO d tok ob = some ob') (hK : K ⟨(d, .vec d sz ty (((lookM L k).getD []).map f)) :: sl', ob'⟩) : OpOk C o K ⟨sl, ob⟩ := by
  refine ok_takeR ho hd hn hi hik hj hjk hz hx hy ?_ htok hdt h1 h2 hK
  rw [lookM_map (fun l : List α => l.map f)]
  cases lookM L k with
  | none => rfl
  | some v => rfl
theorem op_putMr {α : Type} (f : α → PV) (L : List (Bytes × List α)) (u : List α) {t kt et : TypeId} {x y v : Operand} {i j : TI} {tok sz ty e : Nat} {k : Bytes} {sl' : List (Nat × AV)} {ob' : List (Nat × List AV)} (ho : o.op = .mapUpdate t x y v) (hd : o.dst = none)
    (hi : look C.tt t = some i) (hik : i.k = .map kt et) (hj : look C.tt kt = some j) (hjk : j.k = .string)
    (hx : evo sl x = some (.mpr tok sz ty (some k) (L.map fun p => (p.1, p.2.map f)))) (hy : evo sl y = some (.p (eS k))) (hv : evo sl v = some (.vec e sz ty (u.map f))) (htok : Nat.blt tok M1 = true) (hel : Nat.blt e M1 = true) (het : Nat.beq e tok = false)
    (h1 : tkS tok e (.mpr tok sz ty none ((putM L k u).map fun p => (p.1, p.2.map f))) sl = some sl') (h2 : tkO e tok ob = some ob') (hK : K ⟨sl', ob'⟩) : OpOk C o K ⟨sl, ob⟩ :=
  ok_putR ho hd hi hik hj hjk hx hy hv htok hel het (putM_map (fun l : List α => l.map f) L k u) h1 h2 hK
theorem op_appSk {α : Type} (f : α → PV) (hf : ∀ x, (f x).cells = [f x] ∧ (f x).one = true) (l0 l : List α) {t tx e e' : TypeId} {x y : Operand} {k : Nat} {Y : AV} {i ie j : TI} {sl' : List (Nat × AV)} {ob' : List (Nat × List AV)} (ho : o.op = .call { callee := .builtin .append, args := #[x, y], argTypes := #[t, tx] }) (hd : o.dst = some d) (hn : Nat.blt d C.n = true)
    (hi : look C.tt t = some i) (hik : i.k = .slice e) (hie : look C.tt e = some ie) (hj : look C.tt tx = some j) (hjk : j.k = .slice e') (hx : evo sl x = some (.stk k 1 (l0.map f))) (hk : Nat.blt k M1 = true)
    (hy : evo sl y = some Y) (hY : Y.elems? = some (l.map f)) (hys : 0 < l.length) (h1s : ie.size = 1) (hzl : Nat.beq ie.zero.length ie.size = true) (hby : Nat.blt 0 ie.bytes = true)
    (hlen : (l0.length + l.length) * ie.bytes ≤ 140737488355328) (h1 : dmS (fun i => Nat.beq i k) sl = some sl') (h2 : dmO (fun i => Nat.beq i k) ob = some ob')
    (hK : K ⟨(d, .stk k 1 ((l0 ++ l).map f)) :: sl', ob'⟩) : OpOk C o K ⟨sl, ob⟩ := by
  have hby' : 1 ≤ ie.bytes := Nat.succ_le_of_lt (by simpa using hby)
  have h3 : (l0.length + l.length) * 1 ≤ (l0.length + l.length) * ie.bytes := Nat.mul_le_mul_left _ hby'
  refine ok_appendSk ho hd hn hi hik hie hj hjk hx hk hy hY (fun y hy => ?_) (by simpa using hys) h1s hzl (by rw [List.length_map, List.length_map]; exact hlen) (by rw [List.length_map, List.length_map]; omega) ?_
  · rw [← List.map_append] at hy
    obtain ⟨x, _, rfl⟩ := List.mem_map.1 hy
    exact hf x
  · rw [← List.map_append]
    simp only [demS]
    rw [← dmS_ok h1, ← dmO_ok h2]
    exact hK
theorem op_lenSk {α : Type} (f : α → PV) (l : List α) {t e : TypeId} {x : Operand} {i : TI} {k sz : Nat} (ho : o.op = .call { callee := .builtin .len, args := #[x], argTypes := #[t] }) (hd : o.dst = some d) (hn : Nat.blt d C.n = true)
    (hi : look C.tt t = some i) (hik : i.k = .slice e) (hx : evo sl x = some (.stk k sz (l.map f))) (hK : K ⟨(d, .p (eI (l.length : Int))) :: sl, ob⟩) : OpOk C o K ⟨sl, ob⟩ :=
  ok_lenSk ho hd hn hi hik hx (by rw [List.length_map]; exact hK)
theorem op_indexAddrSk {α : Type} (f : α → PV) (l : List α) {t e : TypeId} {x y : Operand} {i ie : TI} {k : IntKind} {n : Int} {id : Nat} (ho : o.op = .indexAddr t x y) (hd : o.dst = some d) (hn : Nat.blt d C.n = true)
    (hi : look C.tt t = some i) (hik : i.k = .slice e) (hie : look C.tt e = some ie) (hx : evo sl x = some (.stk id 1 (l.map f)))
    (hy : evo sl y = some (.p (.val (.int k n)))) (hsz : ie.size = 1) (hb : 0 ≤ n ∧ n < (l.length : Int)) (hK : K ⟨(d, .ptr id n.toNat) :: sl, ob⟩) : OpOk C o K ⟨sl, ob⟩ :=
  ok_indexAddrSk ho hd hn hi hik hie hx hy hsz (by rw [List.length_map]; exact hb) hK
theorem op_loadSk {α : Type} [Inhabited α] (f : α → PV) (hf : ∀ x, (f x).cells = [f x] ∧ (f x).one = true) (l : List α) (q : Nat) {t : TypeId} {x : Operand} {i : TI} {id : Nat} {n : Int} (ho : o.op = .load t x) (hd : o.dst = some d) (hn : Nat.blt d C.n = true)
    (hi : look C.tt t = some i) (hia : i.k.isAgg = false) (hx : evo sl x = some (.ptr id n.toNat)) (hq : look sl q = some (.stk id 1 (l.map f))) (hb : 0 ≤ n ∧ n < (l.length : Int))
    (hK : K ⟨(d, .p (f (lat l n))) :: sl, ob⟩) : OpOk C o K ⟨sl, ob⟩ := by
  refine ok_loadSk ho hd hn hi hia hx hq ?_ (hf _).1 hK
  obtain ⟨m, rfl⟩ : ∃ m : Nat, n = m := ⟨n.toNat, by omega⟩
  have hm : m < l.length := by omega
  rw [Int.toNat_natCast, List.getElem?_map, List.getElem?_eq_getElem hm, lat_get l m hm]
  rfl
theorem op_sliceSk {α : Type} (f : α → PV) (l : List α) {t e : TypeId} {x : Operand} {hi : Option Operand} {id : Nat} {h : Int} {i ie : TI} (ho : o.op = .slice t x none hi none) (hd : o.dst = some d) (hn : Nat.blt d C.n = true)
    (hi' : look C.tt t = some i) (hik : i.k = .slice e) (hie : look C.tt e = some ie) (hx : evo sl x = some (.stk id 1 (l.map f))) (hhi : hiI sl (l.length : Int) hi = some h)
    (hb : 0 ≤ h ∧ h ≤ (l.length : Int)) (hsz1 : ie.size = 1) (hK : K ⟨(d, .stk id 1 ((l.take h.toNat).map f)) :: sl, ob⟩) : OpOk C o K ⟨sl, ob⟩ :=
  ok_sliceSk ho hd hn hi' hik hie hx (by rw [List.length_map]; exact hhi) (by rw [List.length_map]; exact hb) hsz1 (by rw [← List.map_take]; exact hK)
end
end Go.Ab
