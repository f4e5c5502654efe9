/- A layer of abstract values over the model's worlds, part H: append, make, and settling what was made. It holds for every program. -/
import Derived.Test.YtapfhipodpbflaaGreatDoorAbG
import Derived.Deep.Upon
set_option linter.unusedVariables false
set_option linter.unusedSimpArgs false
set_option linter.unnecessarySimpa false
namespace Go.Ab

/-- The cells of a slice that is seen: those that an append copies. -/
theorem src_of {P : Program} {w : World} {st : Nat → Nat → Prop} {ys : List PV} {v : Value} {sz : Nat} {tx e' : TypeId} (hk : P.underlying tx = some (.slice e')) (h : PRep w st (.slice ys) v)
    (hsz : ∀ y ∈ ys, y.cells.length = sz) (h0 : 0 < sz) :
    ∃ news : List Value, Src P sz tx v ys.length news w ∧ (∀ (i : Nat) y (j : Nat) c, ys[i]? = some y → y.cells[j]? = some c → c.one = true ∧ ∃ u, news[i * sz + j]? = some u ∧ PRep w st c u) := by
  have hempty : ys = [] → ∃ news : List Value, Src P sz tx v ys.length news w ∧ (∀ (i : Nat) y (j : Nat) c, ys[i]? = some y → y.cells[j]? = some c → c.one = true ∧ ∃ u, news[i * sz + j]? = some u ∧ PRep w st c u) := by
    intro e
    subst e
    rcases h.nil_inv with rfl | ⟨a, cap, rfl⟩
    · exact ⟨[], Src.ofNil w hk 0, by simp⟩
    · exact ⟨[], Src.ofSlice w hk a 0 cap [] (by simp) (by simp) (by simp), by simp⟩
  by_cases hne : ys = []
  · exact hempty hne
  cases h with
  | nils => exact absurd rfl hne
  | nile a => exact absurd rfl hne
  | slice sz' cf hcap hsz' hone hc hr =>
    rename_i b off cap
    have e1 : sz' = sz := by
      cases ys with
      | nil => exact absurd rfl hne
      | cons y r => exact (hsz' y (by simp)).symm.trans (hsz y (by simp))
    subst e1
    have cellOf : ∀ (i j : Nat), i < ys.length → j < sz' → ∃ y c, ys[i]? = some y ∧ y.cells[j]? = some c := by
      intro i j hi hj
      have h1 := hsz ys[i] (List.getElem_mem hi)
      exact ⟨ys[i], (ys[i]).cells[j]'(by omega), List.getElem?_eq_getElem hi, List.getElem?_eq_getElem (by omega)⟩
    have split : ∀ m, m < ys.length * sz' → m / sz' < ys.length ∧ m % sz' < sz' ∧ m / sz' * sz' + m % sz' = m := by
      intro m hm
      exact ⟨(Nat.div_lt_iff_lt_mul h0).2 hm, Nat.mod_lt _ h0, by rw [Nat.mul_comm]; exact Nat.div_add_mod m sz'⟩
    refine ⟨(List.range (ys.length * sz')).map fun m => cf (m / sz') (m % sz'), Src.ofSlice w hk ⟨b, off, none⟩ ys.length cap _ (by simp) (fun j u hu => ?_) (fun u hu => ?_), fun i y j c hy hc' => ?_⟩
    · simp only [List.getElem?_map, Option.map_eq_some_iff] at hu
      obtain ⟨m, hm, rfl⟩ := hu
      have hj : j < ys.length * sz' := by have := (List.getElem?_eq_some_iff.1 hm).1; simpa using this
      rw [List.getElem?_range hj] at hm; cases hm
      obtain ⟨s1, s2, s3⟩ := split j hj
      obtain ⟨y, c, hy, hcc⟩ := cellOf _ _ s1 s2
      have := (hc _ y _ c hy hcc).2
      rw [show off + j / sz' * sz' + j % sz' = off + j by omega] at this
      rw [add_lit]; exact this
    · simp only [List.mem_map, List.mem_range] at hu
      obtain ⟨m, hm, rfl⟩ := hu
      obtain ⟨s1, s2, s3⟩ := split m hm
      obtain ⟨y, c, hy, hcc⟩ := cellOf _ _ s1 s2
      exact PV.one_rep (hr _ y _ c hy hcc) (hone y (List.mem_of_getElem? hy) c (List.mem_of_getElem? hcc))
    · have hi : i < ys.length := (List.getElem?_eq_some_iff.1 hy).1
      have hj : j < sz' := by rw [← hsz y (List.mem_of_getElem? hy)]; exact (List.getElem?_eq_some_iff.1 hc').1
      have h1 : (i + 1) * sz' ≤ ys.length * sz' := Nat.mul_le_mul_right sz' (by omega)
      rw [Nat.add_mul] at h1
      refine ⟨hone y (List.mem_of_getElem? hy) c (List.mem_of_getElem? hc'), cf i j, ?_, hr i y j c hy hc'⟩
      rw [List.getElem?_map, List.getElem?_range (by omega), Option.map_some]
      have d1 : (i * sz' + j) / sz' = i := by rw [Nat.mul_comm, Nat.mul_add_div h0, Nat.div_eq_of_lt hj]; rfl
      have d2 : (i * sz' + j) % sz' = j := by rw [Nat.mul_comm, Nat.mul_add_mod, Nat.mod_eq_of_lt hj]
      rw [d1, d2]

/-- A row of the call's own, from its cells. -/
theorem vec_mkO {w : World} {g : Gh} {tok b off cap sz ty : Nat} {c : Array Value} {e : TypeId} {es : List PV} (how : g.ow tok = some b) (hb : w.heap[b]? = some (.cells c e (0, 0))) (hcs : c.size = off + cap * sz)
    (hcap : es.length ≤ cap) (hsz : ∀ e, e ∈ es → e.cells.length = sz) (hst : ∀ o, g.st b o ↔ o < off + es.length * sz)
    (hcell : ∀ (i : Nat) y (j : Nat) x, es[i]? = some y → y.cells[j]? = some x → x.one = true ∧ ∃ u, c[off + i * sz + j]? = some u ∧ PRep w g.st x u) (hty : ty = 0 ∨ ty = e + 1 ∧ off = 0) :
    ARep w g (.vec tok sz ty es) (.slice (some ⟨b, off, none⟩) es.length cap) := by
  have hj : ∀ (i : Nat) y (j : Nat) x, es[i]? = some y → y.cells[j]? = some x → i * sz + j < es.length * sz := by
    intro i y j x hy hx
    have hi : i < es.length := (List.getElem?_eq_some_iff.1 hy).1
    have hj : j < sz := by rw [← hsz y (List.mem_of_getElem? hy)]; exact (List.getElem?_eq_some_iff.1 hx).1
    have h1 : (i + 1) * sz ≤ es.length * sz := Nat.mul_le_mul_right sz (by omega)
    rw [Nat.add_mul] at h1
    omega
  refine .vec how hb hcs hsz hst (.slice sz (fun i j => c.getD (off + i * sz + j) Go.undef) hcap hsz (fun y hy x hx => ?_) (fun i y j x hy hx => ⟨(hst _).2 (by have := hj i y j x hy hx; omega), ?_⟩) (fun i y j x hy hx => ?_)) hty
  · obtain ⟨i, hi, rfl⟩ := List.getElem_of_mem hy
    obtain ⟨j, hj', rfl⟩ := List.getElem_of_mem hx
    exact (hcell i _ j _ (List.getElem?_eq_getElem hi) (List.getElem?_eq_getElem hj')).1
  · obtain ⟨_, u, hu, _⟩ := hcell i y j x hy hx
    simp only [World.cell?, hb]
    rw [Array.getD_eq_getD_getElem?, hu]; rfl
  · obtain ⟨_, u, hu, hr⟩ := hcell i y j x hy hx
    rw [Array.getD_eq_getD_getElem?, hu]; exact hr
theorem vec_mk {w : World} {g : Gh} {tok b cap sz ty : Nat} {c : Array Value} {e : TypeId} {es : List PV} (how : g.ow tok = some b) (hb : w.heap[b]? = some (.cells c e (0, 0))) (hcs : c.size = cap * sz)
    (hcap : es.length ≤ cap) (hsz : ∀ e, e ∈ es → e.cells.length = sz) (hst : ∀ o, g.st b o ↔ o < es.length * sz)
    (hcell : ∀ (i : Nat) y (j : Nat) x, es[i]? = some y → y.cells[j]? = some x → x.one = true ∧ ∃ u, c[i * sz + j]? = some u ∧ PRep w g.st x u) (hty : ty = 0 ∨ ty = e + 1) :
    ARep w g (.vec tok sz ty es) (.slice (some ⟨b, 0, none⟩) es.length cap) :=
  vec_mkO how hb (by omega) hcap hsz (fun o => (hst o).trans (by rw [Nat.zero_add])) (fun i y j x h1 h2 => by rw [Nat.zero_add]; exact hcell i y j x h1 h2) (hty.imp id fun h => ⟨h, rfl⟩)

theorem vec_invO {w : World} {g : Gh} {sz b off cap : Nat} {es : List PV} {c : Array Value} {e : TypeId} (hsz : ∀ e, e ∈ es → e.cells.length = sz)
    (hb : w.heap[b]? = some (.cells c e (0, 0))) (hr : PRep w g.st (.slice es) (.slice (some ⟨b, off, none⟩) es.length cap)) :
    ∀ (i : Nat) y (j : Nat) x, es[i]? = some y → y.cells[j]? = some x → x.one = true ∧ ∃ u, c[off + i * sz + j]? = some u ∧ PRep w g.st x u := by
  intro i y j x hy hx
  cases hr with
  | nile a => simp at hy
  | slice sz' cf hcap hsz' hone hc hr =>
    have e1 : sz' = sz := (hsz' y (List.mem_of_getElem? hy)).symm.trans (hsz y (List.mem_of_getElem? hy))
    subst e1
    have h1 := (hc i y j x hy hx).2
    simp only [World.cell?, hb] at h1
    exact ⟨hone y (List.mem_of_getElem? hy) x (List.mem_of_getElem? hx), cf i j, h1, hr i y j x hy hx⟩
theorem vec_inv {w : World} {g : Gh} {sz b cap : Nat} {es : List PV} {c : Array Value} {e : TypeId} (hsz : ∀ e, e ∈ es → e.cells.length = sz)
    (hb : w.heap[b]? = some (.cells c e (0, 0))) (hr : PRep w g.st (.slice es) (.slice (some ⟨b, 0, none⟩) es.length cap)) :
    ∀ (i : Nat) y (j : Nat) x, es[i]? = some y → y.cells[j]? = some x → x.one = true ∧ ∃ u, c[i * sz + j]? = some u ∧ PRep w g.st x u := fun i y j x h1 h2 => by
  have := vec_invO hsz hb hr i y j x h1 h2
  rwa [Nat.zero_add] at this

/-- A row is written behind its settled part, and gets a new identity. -/
theorem St.inplace {n : Nat} {w0 : Base} {w : World} {F : Nat → Prop} {g : Gh} {s : AS} {a : Act} (hs : St n w0 F g s a w) (D : Nat → Bool) (hDl : ∀ i, D i = true → i < M1) {k d b : Nat} (hk : g.ow k = some b) (hDk : D k = true) (hDd : D d = true)
    {c c' : Array Value} {e : TypeId} (hb : w.heap[b]? = some (.cells c e (0, 0))) (hsz : c'.size = c.size) (hcc : ∀ o, g.st b o → c'[o]? = c[o]?) (T : Nat → Prop) (hT : ∀ o, g.st b o → T o) :
    St n w0 F ⟨fun b' o => (b' = b ∧ T o) ∨ (b' ≠ b ∧ g.st b' o), fun i => if i = d then some b else if D i then none else g.ow i⟩ (demS D s) a (w.setRow b c') := by
  have hbl : b < w.heap.size := (hs.own k b hk).1
  have hnF : ¬ F b := (hs.own k b hk).2
  have keyD : ∀ i b', D i = false → g.ow i = some b' → b' ≠ b := fun i b' hD hi e => by
    subst e
    have := hs.inj i k b' hi hk
    subst this
    rw [hDk] at hD; cases hD
  refine hs.evolve D hDl (fun b' o h => ?_) (fun id b' hD h => ?_) (fun i j b' h1 h2 => ?_) (fun i b' h => ?_) (fun b' o h => ?_) (fun b' h => ?_) rfl rfl rfl (by simp) (fun b' hb' o => ?_) (fun i hi => ?_)
  · by_cases e : b' = b
    · subst e
      refine ⟨.inl ⟨rfl, hT o h⟩, ?_⟩
      simp only [World.cell?, hb, setRow_heap w b' c c' _ (0, 0) hb]
      simpa using hcc o h
    · exact ⟨.inr ⟨e, h⟩, by simp only [World.cell?, setRow_other w b b' c' e]⟩
  · have hne := keyD id b' hD h
    have hid : id ≠ d := fun e => by subst e; rw [hDd] at hD; cases hD
    refine ⟨by simp only [if_neg hid, hD]; exact h, setRow_other w b b' c' hne, fun o ho => ?_⟩
    rcases ho with ⟨h1, _⟩ | ⟨_, h1⟩
    · exact absurd h1 hne
    · exact h1
  · have key : ∀ i, (if i = d then some b else if D i then none else g.ow i) = some b' → (i = d ∧ b' = b) ∨ (i ≠ d ∧ D i = false ∧ g.ow i = some b') := by
      intro i h
      by_cases e1 : i = d
      · rw [if_pos e1] at h; cases h; exact .inl ⟨e1, rfl⟩
      · rw [if_neg e1] at h
        cases hD : D i
        · rw [hD] at h; exact .inr ⟨e1, rfl, h⟩
        · rw [hD] at h; cases h
    rcases key i h1 with ⟨a1, a2⟩ | ⟨a1, a2, a3⟩ <;> rcases key j h2 with ⟨b1, b2⟩ | ⟨b1, b2, b3⟩
    · rw [a1, b1]
    · exact absurd a2 (keyD j b' b2 b3)
    · exact absurd b2 (keyD i b' a2 a3)
    · exact hs.inj i j b' a3 b3
  · dsimp only at h
    by_cases e1 : i = d
    · rw [if_pos e1] at h; cases h
      exact ⟨by simpa using hbl, hnF⟩
    · rw [if_neg e1] at h
      split at h
      · cases h
      · have := hs.own i b' h; exact ⟨by simpa using this.1, this.2⟩
  · rcases h with ⟨h, _⟩ | ⟨_, h⟩
    · subst h; simpa using hbl
    · have := hs.lt b' o h; simpa using this
  · exact setRow_other w b b' c' fun e => hnF (e ▸ h)
  · have hne : b' ≠ b := fun e => hnF (e ▸ hb')
    exact ⟨fun h => (h.resolve_left fun h => hne h.1).2, fun h => .inr ⟨hne, h⟩⟩
  · have h1 : i ≠ d := fun e => by have := hDl d hDd; omega
    have h2 : D i = false := by
      cases hq : D i
      · rfl
      · have := hDl i hq; omega
    simp only [if_neg h1, h2]; rfl

section
variable {C : Cx} {o : Oper} {K : AS → Prop} {sl : List (Nat × AV)} {ob : List (Nat × List AV)} {d : Nat}

theorem run_append_room' {P : Program} {w w' : World} (t tx ty e : TypeId) (i : TypeInfo) (ht : P.underlying t = some (.slice e)) (hi : P.info? e = some i) (b sLen sCap : Nat) (x : Value) (n : Nat) (news : List Value) (hs : Src P i.size tx x n news w)
    (hroom : sLen + n ≤ sCap) (hst : (storeCells ⟨b, sLen * i.size, none⟩ news).run P w = .ok () w') :
    (Builtin.append_ #[t, tx] ty #[.slice (some ⟨b, 0, none⟩) sLen sCap, x]).run P w = .ok (.slice (some ⟨b, 0, none⟩) (sLen + n) sCap) w' := by
  rcases hs.kind with ⟨e', hk⟩ | hk <;> simp [Builtin.append_, run_underlying ht, run_underlying hk, sizeOf, typeInfo, hi, hs.len, hroom, hs.cells, add_lit, hst]
theorem run_append_roomO {P : Program} {w w' : World} (t tx ty e : TypeId) (i : TypeInfo) (ht : P.underlying t = some (.slice e)) (hi : P.info? e = some i) (b off sLen sCap : Nat) (x : Value) (n : Nat) (news : List Value) (hs : Src P i.size tx x n news w)
    (hroom : sLen + n ≤ sCap) (hst : (storeCells ⟨b, off + sLen * i.size, none⟩ news).run P w = .ok () w') :
    (Builtin.append_ #[t, tx] ty #[.slice (some ⟨b, off, none⟩) sLen sCap, x]).run P w = .ok (.slice (some ⟨b, off, none⟩) (sLen + n) sCap) w' := by
  rcases hs.kind with ⟨e', hk⟩ | hk <;> simp [Builtin.append_, run_underlying ht, run_underlying hk, sizeOf, typeInfo, hi, hs.len, hroom, hs.cells, add_lit, hst]

/-- What is appended: its cells. -/
def SrcOk (C : Cx) (sl : List (Nat × AV)) (ob : List (Nat × List AV)) (tx : TypeId) (y : Operand) (sz : Nat) (ys : List PV) : Prop :=
  ∀ (g : Gh) (a : Act) (w : World), St C.n C.w0 C.F g ⟨sl, ob⟩ a w → ∃ news : List Value, Src C.P sz tx (a.eval y) ys.length news w ∧
    (∀ (i : Nat) y (j : Nat) c, ys[i]? = some y → y.cells[j]? = some c → c.one = true ∧ ∃ u, news[i * sz + j]? = some u ∧ PRep w g.st c u)

theorem srcOk_slice {tx e' : TypeId} {y : Operand} {Y : AV} {ys : List PV} {sz : Nat} {j : TI} (hj : look C.tt tx = some j) (hjk : j.k = .slice e')
    (hy : evo sl y = some Y) (hY : Y.elems? = some ys) (hsz : ∀ y ∈ ys, y.cells.length = sz) (h0 : 0 < sz) : SrcOk C sl ob tx y sz ys := by
  intro g a w hs
  obtain ⟨u', h1', h2'⟩ := und_of C.good hj
  have h3' := kind_slice (h2'.trans hjk)
  subst h3'
  exact src_of (P := C.P) h1' (elems_view hY (evo_rep hs hy)) hsz h0

theorem append_grows (ty0 : Nat) {es ys : List PV} {t tx e : TypeId} {i ie : TI} {y : Operand} (D : Nat → Bool) (hDl : ∀ i, D i = true → i < M1) (hDd : D d = true)
    (hi : look C.tt t = some i) (hik : i.k = .slice e) (hie : look C.tt e = some ie)
    (hS : SrcOk C sl ob tx y ie.size ys) (hsz : ∀ y ∈ ys, y.cells.length = ie.size) (h0 : 0 < ie.size) (hzl : ie.zero.length = ie.size)
    (hlen : (es.length + ys.length) * ie.bytes ≤ 140737488355328) (hlen' : es.length + ys.length ≤ 9223372036854775807)
    {g : Gh} {a : Act} {w : World} (hs : St C.n C.w0 C.F g ⟨sl, ob⟩ a w) (base : Option Addr) (cap : Nat) (olds : List Value)
    (hold : (Builtin.firstCells ie.size es.length (.slice base es.length cap)).run C.P w.drew = .ok olds.toArray w.drew) (hol : olds.length = es.length * ie.size)
    (hes : ∀ e, e ∈ es → e.cells.length = ie.size)
    (hoc : ∀ (i : Nat) y (j : Nat) x, es[i]? = some y → y.cells[j]? = some x → x.one = true ∧ ∃ u, olds[i * ie.size + j]? = some u ∧ PRep w g.st x u)
    (hg : cap < es.length + ys.length) (ty : TypeId) (hd : o.dst = some d) (hn : Nat.blt d C.n = true) (hty : ty0 = 0 ∨ ty0 = e + 1) :
    ∃ v w' g', (Builtin.append_ #[t, tx] ty #[.slice base es.length cap, a.eval y]).run C.P w = .ok v w' ∧
      St C.n C.w0 C.F g' ⟨(d, .vec d ie.size ty0 (es ++ ys)) :: (demS D ⟨sl, ob⟩).sl, (demS D ⟨sl, ob⟩).ob⟩ (a.put (some d) v) w' := by
  obtain ⟨u, h1, h2⟩ := und_of C.good hi
  have h3 := kind_slice (h2.trans hik)
  subst h3
  obtain ⟨info, hf1, hf2, hf3, z, hf4, hf5⟩ := info_of C.good hie
  obtain ⟨news, hsrc, hnews⟩ := hS g a w hs
  have hfit := growslice_fits (bytes := ie.bytes) hg hlen
  have hrun := run_append_grow_src w t tx ty e info z h1 hf1 hf4 base es.length cap olds (by rw [hf2]; exact hold) (a.eval y) ys.length news (by rw [hf2]; exact hsrc) hg (by omega) (by rw [hf3]; exact hfit)
  obtain ⟨q, hq⟩ : ∃ q, q = grownCap w (es.length + ys.length) cap e := ⟨_, rfl⟩
  rw [← hq] at hrun
  have hqn : es.length + ys.length ≤ q := by
    rw [hq]; unfold grownCap; simp only [Question.cut]; omega
  have hzs : z.cells.size = ie.size := by rw [← hzl, ← hf5, Array.length_toList]
  obtain ⟨c, hc⟩ : ∃ c, c = (olds ++ news).toArray ++ Builtin.zeroCells z.cells (q - (es.length + ys.length)) := ⟨_, rfl⟩
  rw [← hc] at hrun
  have hcs : c.size = q * ie.size := by
    rw [hc]
    simp only [Array.size_append, List.size_toArray, List.length_append, hol, hsrc.newsLen, size_zeroCells, hzs]
    rw [← Nat.add_mul, ← Nat.add_mul]; congr 1; omega
  have hget : ∀ m, m < (es.length + ys.length) * ie.size → c[m]? = if m < es.length * ie.size then olds[m]? else news[m - es.length * ie.size]? := by
    intro m hm
    rw [Nat.add_mul] at hm
    rw [hc, Array.getElem?_append]
    simp only [List.size_toArray, List.length_append, hol, hsrc.newsLen]
    rw [if_pos hm, List.getElem?_toArray, List.getElem?_append, hol]
  have hf := hs.drew.fresh D hDl d hDd (fun o => o < (es ++ ys).length * ie.size) c e
  have hv : ARep (w.drew.alloc (.cells c e)) ⟨fun b o => g.st b o ∨ (b = w.drew.heap.size ∧ o < (es ++ ys).length * ie.size), fun i => if i = d then some w.drew.heap.size else if D i then none else g.ow i⟩
      (.vec d ie.size ty0 (es ++ ys)) (.slice (some ⟨w.drew.heap.size, 0, none⟩) (es ++ ys).length q) := by
    refine vec_mk (by simp) heap_alloc_at hcs (by simp; omega) (fun x hx => ?_) (fun o => ⟨fun h => ?_, fun h => .inr ⟨rfl, h⟩⟩) (fun i y j x hy hx => ?_) hty
    · rcases List.mem_append.1 hx with hx | hx
      · exact hes x hx
      · exact hsz x hx
    · rcases h with h | h
      · exact absurd (hs.lt _ _ h) (Nat.lt_irrefl _)
      · exact h.2
    · have hev := Ev_alloc (w := w.drew) (T := fun o => o < (es ++ ys).length * ie.size) (ob := .cells c e) hs.drew.lt
      have hcl : y.cells.length = ie.size := by
        rcases List.mem_append.1 (List.mem_of_getElem? hy) with hx | hx
        · exact hes y hx
        · exact hsz y hx
      have hjl : j < ie.size := by rw [← hcl]; exact (List.getElem?_eq_some_iff.1 hx).1
      have hil : i < (es ++ ys).length := (List.getElem?_eq_some_iff.1 hy).1
      simp only [List.length_append] at hil
      have hm1 : (i + 1) * ie.size ≤ (es.length + ys.length) * ie.size := Nat.mul_le_mul_right _ (by omega)
      rw [Nat.add_mul] at hm1
      rw [List.getElem?_append] at hy
      split at hy
      · rename_i hlt
        obtain ⟨k1, u, hu, hr⟩ := hoc i y j x hy hx
        have hm2 : (i + 1) * ie.size ≤ es.length * ie.size := Nat.mul_le_mul_right _ (by omega)
        rw [Nat.add_mul] at hm2
        refine ⟨k1, u, ?_, (PRep.mono (w := w) (w' := w.drew) (st := g.st) (st' := g.st) (fun b o h => ⟨h, rfl⟩) hr).mono hev⟩
        rw [hget _ (by omega), if_pos (by omega)]; exact hu
      · rename_i hge
        obtain ⟨k1, u, hu, hr⟩ := hnews _ y j x hy hx
        have hm2 : es.length * ie.size ≤ i * ie.size := Nat.mul_le_mul_right _ (by omega)
        refine ⟨k1, u, ?_, (PRep.mono (w := w) (w' := w.drew) (st := g.st) (st' := g.st) (fun b o h => ⟨h, rfl⟩) hr).mono hev⟩
        rw [hget _ (by omega), if_neg (by omega)]
        rw [show i * ie.size + j - es.length * ie.size = (i - es.length) * ie.size + j by rw [Nat.sub_mul]; omega]
        exact hu
  have hp := hf.put (d := some d) (fun t ht => by cases ht; exact Nat.blt_eq ▸ hn) hv
  simp only [List.length_append] at hp
  exact ⟨_, _, _, hrun, hp⟩

theorem ty_or {ty e : Nat} (h : (Nat.beq ty 0 || Nat.beq ty (e + 1)) = true) : ty = 0 ∨ ty = e + 1 := by
  simp only [Bool.or_eq_true] at h
  exact h.imp Nat.eq_of_beq_eq_true Nat.eq_of_beq_eq_true

/-- append to a slice that is nil. -/
theorem ok_appendNS (ty : Nat) {t tx e : TypeId} {x y : Operand} {ys : List PV} {i ie : TI} (ho : o.op = .call { callee := .builtin .append, args := #[x, y], argTypes := #[t, tx] }) (hd : o.dst = some d) (hn : Nat.blt d C.n = true)
    (hi : look C.tt t = some i) (hik : i.k = .slice e) (hie : look C.tt e = some ie) (hx : evo sl x = some (.p (.val (.slice none 0 0))))
    (hS : SrcOk C sl ob tx y ie.size ys) (hsz : ∀ y ∈ ys, y.cells.length = ie.size) (h0 : Nat.blt 0 ie.size = true) (hzl : Nat.beq ie.zero.length ie.size = true)
    (hlen : ys.length * ie.bytes ≤ 140737488355328) (hlen' : ys.length ≤ 9223372036854775807) (hty : (Nat.beq ty 0 || Nat.beq ty (e + 1)) = true)
    (hK : K ⟨(d, .vec d ie.size ty ys) :: (demS (fun i => Nat.beq i d) ⟨sl, ob⟩).sl, (demS (fun i => Nat.beq i d) ⟨sl, ob⟩).ob⟩) : OpOk C o K ⟨sl, ob⟩ := by
  have h0' : 0 < ie.size := by simpa using h0
  have hzl' := Nat.eq_of_beq_eq_true hzl
  have hdl : d < M1 := by have h1 := Nat.le_of_ble_eq_true C.nl; have h2 : d < C.n := Nat.blt_eq ▸ hn; omega
  have hty' := ty_or hty
  intro g a w hs
  have hx' := evo_val hs hx
  have hex : execOp a.eval o = execOp a.eval o := rfl
  have hrun0 : ∀ v w', (Builtin.append_ #[t, tx] o.type #[.slice none 0 0, a.eval y]).run C.P w = .ok v w' → (execOp a.eval o).run C.P w = .ok (.value v) w' := by
    intro v w' h
    rw [run_builtin ho]
    simp [builtin, hx', h]
  by_cases hys : ys = []
  · subst hys
    obtain ⟨u, h1, h2⟩ := und_of C.good hi
    have h3 := kind_slice (h2.trans hik)
    subst h3
    obtain ⟨info, hf1, hf2, hf3, z, hf4, hf5⟩ := info_of C.good hie
    obtain ⟨news, hsrc, hnews⟩ := hS g a w hs
    have hnl : news = [] := by have := hsrc.newsLen; simpa using this
    subst hnl
    have hr := run_append_nothing w t tx o.type e info h1 hf1 none 0 0 (Nat.le_refl _) (a.eval y) (by rw [hf2]; exact hsrc)
    unfold Oper.wp
    rw [hrun0 _ _ hr]
    simp only [Oper.upon, hd]
    have hs' := hs.evolve (fun i => Nat.beq i d) (fun i hi => by have := Nat.eq_of_beq_eq_true hi; omega) (g' := ⟨g.st, fun i => if Nat.beq i d then none else g.ow i⟩) (Ev.refl _ _) (fun id b hD h => ⟨by simp only [hD]; exact h, rfl, fun o h => h⟩)
      (fun i j b h1 h2 => by
        dsimp only at h1 h2
        split at h1
        · cases h1
        · split at h2
          · cases h2
          · exact hs.inj i j b h1 h2) (fun i b h => by
        dsimp only at h
        split at h
        · cases h
        · exact hs.own i b h) hs.lt (fun b h => rfl) rfl rfl rfl (Nat.le_refl _) (fun b _ o => Iff.rfl) (fun i hi => by
          have hne : Nat.beq i d = false := by
            cases hq : Nat.beq i d
            · rfl
            · have := Nat.eq_of_beq_eq_true hq; omega
          simp only [hne]; rfl)
    exact ⟨_, _, hs'.put (d := some d) (fun t ht => by cases ht; exact Nat.blt_eq ▸ hn) (.vecn d ie.size _), hK⟩
  · have hpos : 0 < ys.length := List.length_pos_iff.2 hys
    obtain ⟨v, w', g', hr, hst⟩ := append_grows ty (o := o) (es := []) (fun i => Nat.beq i d) (fun i hi => by have := Nat.eq_of_beq_eq_true hi; omega) (by simp) hi hik hie hS hsz h0' hzl' (by simpa using hlen) (by simpa using hlen') hs none 0 []
      (run_firstCells_none w.drew ie.size 0 0 0) (by simp) (by simp) (by simp) (by simpa using hpos) o.type hd hn hty'
    unfold Oper.wp
    rw [hrun0 _ _ hr]
    simp only [Oper.upon, hd]
    exact ⟨g', _, hst, hK⟩

/-- append to a row of the call's own. -/
theorem ok_appendVS {t tx e : TypeId} {x y : Operand} {k sz ty : Nat} {es : List PV} {ys : List PV} {i ie : TI} (ho : o.op = .call { callee := .builtin .append, args := #[x, y], argTypes := #[t, tx] }) (hd : o.dst = some d) (hn : Nat.blt d C.n = true)
    (hi : look C.tt t = some i) (hik : i.k = .slice e) (hie : look C.tt e = some ie) (hx : evo sl x = some (.vec k sz ty es)) (hk : Nat.blt k M1 = true) (hiz : ie.size = sz)
    (hS : SrcOk C sl ob tx y ie.size ys) (hsz : ∀ y ∈ ys, y.cells.length = ie.size) (h0 : Nat.blt 0 ie.size = true) (hzl : Nat.beq ie.zero.length ie.size = true)
    (hlen : (es.length + ys.length) * ie.bytes ≤ 140737488355328) (hlen' : es.length + ys.length ≤ 9223372036854775807) (hty : (Nat.beq ty 0 || Nat.beq ty (e + 1)) = true)
    (hK : K ⟨(d, .vec d sz ty (es ++ ys)) :: (demS (fun i => Nat.beq i k || Nat.beq i d) ⟨sl, ob⟩).sl, (demS (fun i => Nat.beq i k || Nat.beq i d) ⟨sl, ob⟩).ob⟩) : OpOk C o K ⟨sl, ob⟩ := by
  subst hiz
  have h0' : 0 < ie.size := by simpa using h0
  have hzl' := Nat.eq_of_beq_eq_true hzl
  have hk' : k < M1 := Nat.blt_eq ▸ hk
  have hdl : d < M1 := by have h1 := Nat.le_of_ble_eq_true C.nl; have h2 : d < C.n := Nat.blt_eq ▸ hn; omega
  have hty' := ty_or hty
  have hDl : ∀ i, (Nat.beq i k || Nat.beq i d) = true → i < M1 := by
    intro i hi
    simp only [Bool.or_eq_true] at hi
    rcases hi with hi | hi <;> (have := Nat.eq_of_beq_eq_true hi; omega)
  intro g a w hs
  have hxr := evo_rep hs hx
  generalize hxv : a.eval x = xv at hxr
  have hrun0 : ∀ v w', (Builtin.append_ #[t, tx] o.type #[xv, a.eval y]).run C.P w = .ok v w' → (execOp a.eval o).run C.P w = .ok (.value v) w' := by
    intro v w' h
    rw [run_builtin ho]
    simp [builtin, hxv, h]
  cases hxr with
  | vecn =>
    by_cases hys : ys = []
    · subst hys
      obtain ⟨u, h1, h2⟩ := und_of C.good hi
      have h3 := kind_slice (h2.trans hik)
      subst h3
      obtain ⟨info, hf1, hf2, hf3, z, hf4, hf5⟩ := info_of C.good hie
      obtain ⟨news, hsrc, hnews⟩ := hS g a w hs
      have hnl : news = [] := by have := hsrc.newsLen; simpa using this
      subst hnl
      have hr := run_append_nothing w t tx o.type e info h1 hf1 none 0 0 (Nat.le_refl _) (a.eval y) (by rw [hf2]; exact hsrc)
      unfold Oper.wp
      rw [hrun0 _ _ hr]
      simp only [Oper.upon, hd]
      have hs' := hs.evolve (fun i => Nat.beq i k || Nat.beq i d) hDl (g' := ⟨g.st, fun i => if (Nat.beq i k || Nat.beq i d) then none else g.ow i⟩) (Ev.refl _ _) (fun id b hD h => ⟨by simp only [hD]; exact h, rfl, fun o h => h⟩)
        (fun i j b h1 h2 => by
          dsimp only at h1 h2
          split at h1
          · cases h1
          · split at h2
            · cases h2
            · exact hs.inj i j b h1 h2) (fun i b h => by
          dsimp only at h
          split at h
          · cases h
          · exact hs.own i b h) hs.lt (fun b h => rfl) rfl rfl rfl (Nat.le_refl _) (fun b _ o => Iff.rfl) (fun i hi => by
            have hne : (Nat.beq i k || Nat.beq i d) = false := by
              cases hq : (Nat.beq i k || Nat.beq i d)
              · rfl
              · have := hDl i hq; omega
            simp only [hne]; rfl)
      exact ⟨_, _, hs'.put (d := some d) (fun t ht => by cases ht; exact Nat.blt_eq ▸ hn) (.vecn d ie.size _), hK⟩
    · have hpos : 0 < ys.length := List.length_pos_iff.2 hys
      obtain ⟨v, w', g', hr, hst⟩ := append_grows ty (o := o) (es := []) (fun i => Nat.beq i k || Nat.beq i d) hDl (by simp) hi hik hie hS hsz h0' hzl' (by simpa using hlen) (by simpa using hlen') hs none 0 []
        (run_firstCells_none w.drew ie.size 0 0 0) (by simp) (by simp) (by simp) (by simpa using hpos) o.type hd hn hty'
      unfold Oper.wp
      rw [hrun0 _ _ hr]
      simp only [Oper.upon, hd]
      exact ⟨g', _, hst, hK⟩
  | vece tok sz a0 =>
    by_cases hys : ys = []
    · subst hys
      obtain ⟨u, h1, h2⟩ := und_of C.good hi
      have h3 := kind_slice (h2.trans hik)
      subst h3
      obtain ⟨info, hf1, hf2, hf3, z, hf4, hf5⟩ := info_of C.good hie
      obtain ⟨news, hsrc, hnews⟩ := hS g a w hs
      have hnl : news = [] := by have := hsrc.newsLen; simpa using this
      subst hnl
      have hr := run_append_nothing w t tx o.type e info h1 hf1 (some a0) 0 0 (Nat.le_refl _) (a.eval y) (by rw [hf2]; exact hsrc)
      unfold Oper.wp
      rw [hrun0 _ _ hr]
      simp only [Oper.upon, hd]
      have hs' := hs.evolve (fun i => Nat.beq i k || Nat.beq i d) hDl (g' := ⟨g.st, fun i => if (Nat.beq i k || Nat.beq i d) then none else g.ow i⟩) (Ev.refl _ _) (fun id b hD h => ⟨by simp only [hD]; exact h, rfl, fun o h => h⟩)
        (fun i j b h1 h2 => by
          dsimp only at h1 h2
          split at h1
          · cases h1
          · split at h2
            · cases h2
            · exact hs.inj i j b h1 h2) (fun i b h => by
          dsimp only at h
          split at h
          · cases h
          · exact hs.own i b h) hs.lt (fun b h => rfl) rfl rfl rfl (Nat.le_refl _) (fun b _ o => Iff.rfl) (fun i hi => by
            have hne : (Nat.beq i k || Nat.beq i d) = false := by
              cases hq : (Nat.beq i k || Nat.beq i d)
              · rfl
              · have := hDl i hq; omega
            simp only [hne]; rfl)
      exact ⟨_, _, hs'.put (d := some d) (fun t ht => by cases ht; exact Nat.blt_eq ▸ hn) (.vece d ie.size a0), hK⟩
    · have hpos : 0 < ys.length := List.length_pos_iff.2 hys
      obtain ⟨v, w', g', hr, hst⟩ := append_grows 0 (o := o) (es := []) (fun i => Nat.beq i k || Nat.beq i d) hDl (by simp) hi hik hie hS hsz h0' hzl' (by simpa using hlen) (by simpa using hlen') hs (some a0) 0 []
        (run_firstCells_some w.drew ie.size 0 a0 0 0 [] (by simp) (by simp)) (by simp) (by simp) (by simp) (by simpa using hpos) o.type hd hn hty'
      unfold Oper.wp
      rw [hrun0 _ _ hr]
      simp only [Oper.upon, hd]
      exact ⟨g', _, hst, hK⟩
  | vec how hb hcs hsz' hst hr hty0 =>
    rename_i b off cap c e0
    have hinv := vec_invO hsz' hb hr
    have hcapE : es.length ≤ cap := by cases hr with | nile _ => exact Nat.le_refl _ | slice _ _ hcap => exact hcap
    by_cases hroom : es.length + ys.length ≤ cap
    · obtain ⟨u, h1, h2⟩ := und_of C.good hi
      have h3 := kind_slice (h2.trans hik)
      subst h3
      obtain ⟨info, hf1, hf2, hf3, z, hf4, hf5⟩ := info_of C.good hie
      obtain ⟨news, hsrc, hnews⟩ := hS g a w hs
      have hfit : (off + es.length * ie.size) + news.length ≤ c.size := by
        rw [hsrc.newsLen, hcs, Nat.add_assoc, ← Nat.add_mul]; exact Nat.add_le_add_left (Nat.mul_le_mul_right _ hroom) _
      have hstc := run_storeCells_at C.P b (off + es.length * ie.size) e0 news 0 c w hb (by simpa using hfit) hsrc.one
      simp only [Nat.add_zero] at hstc
      obtain ⟨c', hc'⟩ : ∃ c', c' = (c.toList.take (off + es.length * ie.size) ++ news ++ c.toList.drop (off + es.length * ie.size + news.length)).toArray := ⟨_, rfl⟩
      rw [← hc'] at hstc
      have hrr := run_append_roomO t tx o.type e info h1 hf1 b off es.length cap (a.eval y) ys.length news (by rw [hf2]; exact hsrc) hroom (by rw [hf2]; exact hstc)
      have hcell : ∀ j, c'[j]? = if off + es.length * ie.size ≤ j ∧ j < off + es.length * ie.size + news.length then news[j - (off + es.length * ie.size)]? else c[j]? := by
        intro j
        rw [hc']
        have := splice_get c.toList news (off + es.length * ie.size) (by simpa using hfit) j
        simpa using this
      have hcs' : c'.size = off + cap * ie.size := by rw [← hcs, hc']; simp; omega
      have hin := hs.inplace (fun i => Nat.beq i k || Nat.beq i d) hDl (k := k) (d := d) how (by simp) (by simp) hb (c' := c') (hcs'.trans hcs.symm) (fun o h => by
        have := (hst o).1 h
        rw [hcell o, if_neg (by omega)]) (fun o => o < off + (es ++ ys).length * ie.size) (fun o h => by
        have := (hst o).1 h
        simp only [List.length_append, Nat.add_mul]; omega)
      have hEv : Ev w g.st (w.setRow b c') (fun b' o => (b' = b ∧ o < off + (es ++ ys).length * ie.size) ∨ (b' ≠ b ∧ g.st b' o)) := by
        intro b' o h
        by_cases e : b' = b
        · subst e
          have h5 := (hst o).1 h
          refine ⟨.inl ⟨rfl, by simp only [List.length_append, Nat.add_mul]; omega⟩, ?_⟩
          simp only [World.cell?, hb, setRow_heap w b' c c' _ (0, 0) hb]
          have := hcell o
          rw [if_neg (by omega)] at this
          simpa using this
        · exact ⟨.inr ⟨e, h⟩, by simp only [World.cell?, setRow_other w b b' c' e]⟩
      have hv : ARep (w.setRow b c') ⟨fun b' o => (b' = b ∧ o < off + (es ++ ys).length * ie.size) ∨ (b' ≠ b ∧ g.st b' o), fun i => if i = d then some b else if (Nat.beq i k || Nat.beq i d) then none else g.ow i⟩
          (.vec d ie.size ty (es ++ ys)) (.slice (some ⟨b, off, none⟩) (es ++ ys).length cap) := by
        refine vec_mkO (by simp) (setRow_heap w b c c' e0 (0, 0) hb) hcs' (by simpa using hroom) (fun x hx => ?_) (fun o => ⟨fun h => ?_, fun h => .inl ⟨rfl, h⟩⟩) (fun i y j x hy hx => ?_) hty0
        · rcases List.mem_append.1 hx with hx | hx
          · exact hsz' x hx
          · exact hsz x hx
        · rcases h with h | h
          · exact h.2
          · exact absurd rfl h.1
        · have hcl : y.cells.length = ie.size := by
            rcases List.mem_append.1 (List.mem_of_getElem? hy) with hx | hx
            · exact hsz' y hx
            · exact hsz y hx
          have hjl : j < ie.size := by rw [← hcl]; exact (List.getElem?_eq_some_iff.1 hx).1
          have hil : i < (es ++ ys).length := (List.getElem?_eq_some_iff.1 hy).1
          simp only [List.length_append] at hil
          rw [List.getElem?_append] at hy
          split at hy
          · rename_i hlt
            obtain ⟨k1, u, hu, hr⟩ := hinv i y j x hy hx
            have hm2 : (i + 1) * ie.size ≤ es.length * ie.size := Nat.mul_le_mul_right _ (by omega)
            rw [Nat.add_mul] at hm2
            refine ⟨k1, u, ?_, hr.mono hEv⟩
            rw [hcell, if_neg (by omega)]; exact hu
          · rename_i hge
            obtain ⟨k1, u, hu, hr⟩ := hnews _ y j x hy hx
            have hm2 : es.length * ie.size ≤ i * ie.size := Nat.mul_le_mul_right _ (by omega)
            have hm3 : (i - es.length + 1) * ie.size ≤ ys.length * ie.size := Nat.mul_le_mul_right _ (by omega)
            have hm4 : (i - es.length) * ie.size = i * ie.size - es.length * ie.size := Nat.sub_mul _ _ _
            rw [Nat.add_mul] at hm3
            refine ⟨k1, u, ?_, hr.mono hEv⟩
            rw [hcell, if_pos ⟨by omega, by rw [hsrc.newsLen]; omega⟩]
            rw [show off + i * ie.size + j - (off + es.length * ie.size) = (i - es.length) * ie.size + j by omega]
            exact hu
      have hp := hin.put (d := some d) (fun t ht => by cases ht; exact Nat.blt_eq ▸ hn) hv
      simp only [List.length_append] at hp
      unfold Oper.wp
      rw [hrun0 _ _ hrr]
      simp only [Oper.upon, hd]
      exact ⟨_, _, hp, hK⟩
    · obtain ⟨olds, hol, hocell⟩ : ∃ olds : List Value, olds.length = es.length * ie.size ∧ ∀ m, m < es.length * ie.size → olds[m]? = c[off + m]? :=
        ⟨((c.toList.drop off).take (es.length * ie.size)), by
          rw [List.length_take, List.length_drop, show c.toList.length = off + cap * ie.size from Array.length_toList.trans hcs]
          have := Nat.mul_le_mul_right ie.size hcapE; omega, fun m hm => by rw [List.getElem?_take, if_pos hm, List.getElem?_drop, Array.getElem?_toList]⟩
      have hold : (Builtin.firstCells ie.size es.length (.slice (some ⟨b, off, none⟩) es.length cap)).run C.P w.drew = .ok olds.toArray w.drew := by
        refine run_firstCells_some w.drew ie.size es.length ⟨b, off, none⟩ es.length cap olds hol (fun j v hv => ?_)
        have hj : j < es.length * ie.size := by rw [← hol]; exact (List.getElem?_eq_some_iff.1 hv).1
        rw [add_lit, World.cell?_drew]
        simp only [World.cell?, hb]
        rw [← hocell j hj]; simpa using hv
      obtain ⟨v, w', g', hr', hst'⟩ := append_grows ty (o := o) (es := es) (fun i => Nat.beq i k || Nat.beq i d) hDl (by simp) hi hik hie hS hsz h0' hzl' hlen hlen' hs (some ⟨b, off, none⟩) cap olds
        hold hol hsz' (fun i y j x hy hx => by
          obtain ⟨k1, u, hu, hr⟩ := hinv i y j x hy hx
          have hi : i < es.length := (List.getElem?_eq_some_iff.1 hy).1
          have hj : j < ie.size := by rw [← hsz' y (List.mem_of_getElem? hy)]; exact (List.getElem?_eq_some_iff.1 hx).1
          have hm2 : (i + 1) * ie.size ≤ es.length * ie.size := Nat.mul_le_mul_right _ (by omega)
          rw [Nat.add_mul] at hm2
          exact ⟨k1, u, by rw [hocell _ (by omega), ← Nat.add_assoc]; exact hu, hr⟩) (by omega) o.type hd hn hty'
      unfold Oper.wp
      rw [hrun0 _ _ hr']
      simp only [Oper.upon, hd]
      exact ⟨g', _, hst', hK⟩


theorem ok_appendN (ty : Nat) {t tx e e' : TypeId} {x y : Operand} {Y : AV} {ys : List PV} {i ie j : TI} (ho : o.op = .call { callee := .builtin .append, args := #[x, y], argTypes := #[t, tx] }) (hd : o.dst = some d) (hn : Nat.blt d C.n = true)
    (hi : look C.tt t = some i) (hik : i.k = .slice e) (hie : look C.tt e = some ie) (hj : look C.tt tx = some j) (hjk : j.k = .slice e') (hx : evo sl x = some (.p (.val (.slice none 0 0))))
    (hy : evo sl y = some Y) (hY : Y.elems? = some ys) (hsz : ∀ y ∈ ys, y.cells.length = ie.size) (h0 : Nat.blt 0 ie.size = true) (hzl : Nat.beq ie.zero.length ie.size = true)
    (hlen : ys.length * ie.bytes ≤ 140737488355328) (hlen' : ys.length ≤ 9223372036854775807) (hty : (Nat.beq ty 0 || Nat.beq ty (e + 1)) = true)
    (hK : K ⟨(d, .vec d ie.size ty ys) :: (demS (fun i => Nat.beq i d) ⟨sl, ob⟩).sl, (demS (fun i => Nat.beq i d) ⟨sl, ob⟩).ob⟩) : OpOk C o K ⟨sl, ob⟩ :=
  ok_appendNS ty ho hd hn hi hik hie hx (srcOk_slice hj hjk hy hY hsz (by simpa using h0)) hsz h0 hzl hlen hlen' hty hK

theorem ok_appendV {t tx e e' : TypeId} {x y : Operand} {k sz ty : Nat} {es : List PV} {Y : AV} {ys : List PV} {i ie j : TI} (ho : o.op = .call { callee := .builtin .append, args := #[x, y], argTypes := #[t, tx] }) (hd : o.dst = some d) (hn : Nat.blt d C.n = true)
    (hi : look C.tt t = some i) (hik : i.k = .slice e) (hie : look C.tt e = some ie) (hj : look C.tt tx = some j) (hjk : j.k = .slice e') (hx : evo sl x = some (.vec k sz ty es)) (hk : Nat.blt k M1 = true) (hiz : ie.size = sz)
    (hy : evo sl y = some Y) (hY : Y.elems? = some ys) (hsz : ∀ y ∈ ys, y.cells.length = ie.size) (h0 : Nat.blt 0 ie.size = true) (hzl : Nat.beq ie.zero.length ie.size = true)
    (hlen : (es.length + ys.length) * ie.bytes ≤ 140737488355328) (hlen' : es.length + ys.length ≤ 9223372036854775807) (hty : (Nat.beq ty 0 || Nat.beq ty (e + 1)) = true)
    (hK : K ⟨(d, .vec d sz ty (es ++ ys)) :: (demS (fun i => Nat.beq i k || Nat.beq i d) ⟨sl, ob⟩).sl, (demS (fun i => Nat.beq i k || Nat.beq i d) ⟨sl, ob⟩).ob⟩) : OpOk C o K ⟨sl, ob⟩ :=
  ok_appendVS ho hd hn hi hik hie hx hk hiz (srcOk_slice hj hjk hy hY hsz (by simpa using h0)) hsz h0 hzl hlen hlen' hty hK

/-- A string's bytes are appended. -/
theorem srcOk_str {tx : TypeId} {y : Operand} {s : List UInt8} {j : TI} (hj : look C.tt tx = some j) (hjk : j.k = .string)
    (hy : evo sl y = some (.p (.val (.string (str s))))) : SrcOk C sl ob tx y 1 (s.map fun b => .val (.int .u8 (b.toNat : Int))) := by
  intro g a w hs
  obtain ⟨u', h1', h2'⟩ := und_of C.good hj
  have h3' := kind_string (h2'.trans hjk)
  subst h3'
  rw [evo_val hs hy]
  refine ⟨byteCells (str s), by have := Src.ofString w h1' (str s); rwa [show (str s).size = (s.map fun b => PV.val (.int .u8 (b.toNat : Int))).length by simp [str, ByteArray.size]] at this, fun i y j c hy hc => ?_⟩
  simp only [List.getElem?_map, Option.map_eq_some_iff] at hy
  obtain ⟨b, hb, rfl⟩ := hy
  cases j with
  | succ j => simp [PV.cells] at hc
  | zero =>
    simp only [PV.cells, List.getElem?_cons_zero, Option.some.injEq] at hc
    subst hc
    exact ⟨rfl, _, by simp [byteCells, str, hb], .val _⟩
end
end Go.Ab
