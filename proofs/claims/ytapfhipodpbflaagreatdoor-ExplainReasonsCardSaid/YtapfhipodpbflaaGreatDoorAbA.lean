/- A layer of abstract values over the model's worlds, part A: what an abstract value says of a value in a world, and what keeps it true. It holds for every program. -/
import Derived.WalkKit
import Derived.Test.YtapfhipodpbflaaGreatDoorAbGl
set_option linter.unusedVariables false
set_option linter.unusedSimpArgs false
set_option linter.unnecessarySimpa false
namespace Go.Ab

/-- Values that nothing can change any more: scalars, structs (flat cells), slices with settled contents. -/
inductive PV where
  | val (v : Value)
  | agg (cs : List PV)
  | slice (es : List PV)
  | ifc
  | aint (k : IntKind)

def PV.cells : PV → List PV
  | .agg cs => cs
  | .val v => [.val v]
  | .slice es => [.slice es]
  | .ifc => [.ifc]
  | .aint k => [.aint k]

/-- A value of one cell. -/
def PV.one : PV → Bool
  | .val v => v.oneCell'
  | .slice _ => true
  | .ifc => true
  | .aint _ => true
  | .agg _ => false

/-- Ghost: which cells are settled; which block an own identity has. -/
structure Gh where
  st : Nat → Nat → Prop
  ow : Nat → Option Nat

inductive PRep (w : World) (st : Nat → Nat → Prop) : PV → Value → Prop
  | val (v : Value) : PRep w st (.val v) v
  | agg {cs : List PV} {vs : Array Value} (hl : vs.size = cs.length)
      (h : ∀ (i : Nat) c v, cs[i]? = some c → vs[i]? = some v → PRep w st c v) : PRep w st (.agg cs) (.agg vs)
  | ifc (t : TypeId) (v : Value) : PRep w st .ifc (.iface t v)
  | aint (k : IntKind) (n : Int) : PRep w st (.aint k) (.int k n)
  | nils : PRep w st (.slice []) (.slice none 0 0)
  | nile (a : Addr) : PRep w st (.slice []) (.slice (some a) 0 0)
  | slice {es : List PV} {b off cap : Nat} (sz : Nat) (cf : Nat → Nat → Value) (hcap : es.length ≤ cap)
      (hsz : ∀ e, e ∈ es → e.cells.length = sz) (hone : ∀ e, e ∈ es → ∀ c, c ∈ e.cells → c.one = true)
      (hc : ∀ (i : Nat) e (j : Nat) c, es[i]? = some e → e.cells[j]? = some c → st b (off + i * sz + j) ∧ w.cell? ⟨b, off + i * sz + j, none⟩ = some (cf i j))
      (hr : ∀ (i : Nat) e (j : Nat) c, es[i]? = some e → e.cells[j]? = some c → PRep w st c (cf i j)) :
      PRep w st (.slice es) (.slice (some ⟨b, off, none⟩) es.length cap)

/-- The world goes on, and what is settled stays. -/
def Ev (w : World) (st : Nat → Nat → Prop) (w' : World) (st' : Nat → Nat → Prop) : Prop :=
  ∀ b o, st b o → st' b o ∧ w'.cell? ⟨b, o, none⟩ = w.cell? ⟨b, o, none⟩

theorem Ev.refl (w : World) (st : Nat → Nat → Prop) : Ev w st w st := fun _ _ h => ⟨h, rfl⟩
theorem Ev.trans {w w' w'' : World} {st st' st'' : Nat → Nat → Prop} (h : Ev w st w' st') (k : Ev w' st' w'' st'') : Ev w st w'' st'' :=
  fun b o hs => ⟨(k b o (h b o hs).1).1, (k b o (h b o hs).1).2.trans (h b o hs).2⟩

theorem PRep.mono {w w' : World} {st st' : Nat → Nat → Prop} (hev : Ev w st w' st') {x : PV} {v : Value} (h : PRep w st x v) : PRep w' st' x v := by
  induction h with
  | val v => exact .val v
  | agg hl h ih => exact .agg hl ih
  | ifc t v => exact .ifc t v
  | aint k n => exact .aint k n
  | nils => exact .nils
  | nile a => exact .nile a
  | slice sz cf hcap hsz hone hc hr ih =>
    refine .slice sz cf hcap hsz hone (fun i e j c h1 h2 => ?_) ih
    have h3 := hc i e j c h1 h2
    exact ⟨(hev _ _ h3.1).1, (hev _ _ h3.1).2.trans h3.2⟩

def look {α : Type} : List (Nat × α) → Nat → Option α
  | [], _ => none
  | (j, v) :: r, i => bif Nat.beq j i then some v else look r i

/-- What is known of package-level variables. -/
def GC.pv : GC → PV
  | .int k n => .val (.int k n)
  | .ifc => .ifc
  | .some k => .aint k
def globTab (g : Nat) : Option (List PV) := (look globRaw g).map fun l => l.map GC.pv
def GlobOk (w : World) (st : Nat → Nat → Prop) : Prop :=
  ∀ g cs, globTab g = some cs → (∀ (j : Nat) c, cs[j]? = some c → st g j ∧ ∃ v, w.cell? ⟨g, j, none⟩ = some v ∧ PRep w st c v) ∧ (st g cs.length ∧ w.cell? ⟨g, cs.length, none⟩ = none)
theorem GlobOk.mono {w w' : World} {st st' : Nat → Nat → Prop} (h : GlobOk w st) (hev : Ev w st w' st') : GlobOk w' st' := fun g cs hg => by
  obtain ⟨h0, h1, h2⟩ := h g cs hg
  refine ⟨fun j c hc => ?_, (hev _ _ h1).1, (hev _ _ h1).2.trans h2⟩
  obtain ⟨h1, v, h2, h3⟩ := h0 j c hc
  exact ⟨(hev _ _ h1).1, v, (hev _ _ h1).2.trans h2, h3.mono hev⟩
/-- What a call may count on: settled cells lie in the heap, and package-level variables hold what is said of them. -/
structure Ok0 (w : World) (st : Nat → Nat → Prop) : Prop where
  lt : ∀ b o, st b o → b < w.heap.size
  gl : GlobOk w st

/-- Abstract values of a frame's slots. -/
inductive AV where
  | undef
  | p (x : PV)
  | agg (cs : List AV)
  | vec (tok sz ty : Nat) (es : List PV)
  | arr (id sz off n : Nat)
  | ptr (id off : Nat)
  | bptr (T sz id : Nat)
  | rptr (cs : List PV)
  | tuple (vs : List AV)
  | func (f : Fn) (caps : List AV)
  | mp (tok : Nat) (kvs : List (List UInt8 × PV))
  | mpr (tok sz ty : Nat) (tk : Option (List UInt8)) (kvs : List (List UInt8 × List PV))
  | stk (tok sz : Nat) (es : List PV)
  | sem (R : World → Gh → Value → Prop)
  | it (tok : Nat) (s : List UInt8) (pos : Nat)
  | vecp (tok sz ty : Nat) (es : List PV)
  | elp (tok sz : Nat)

/-- Identities from here on, and below twice this, are those of objects that were handed in. -/
def M1 : Nat := 1000000
/-- Identities from here on are those of the rows in maps. -/
def MZ : Nat := 10000000
theorem M1_MZ : 2 * M1 ≤ MZ := by decide
theorem M1_lt {i : Nat} (h : MZ ≤ i) : M1 ≤ i := Nat.le_trans (by decide) h
/-- A row in a map: it is owned, unless it was taken out. -/
def rowAV (tok sz ty : Nat) (tk : Option (List UInt8)) (i : Nat) (kv : List UInt8 × List PV) : AV := if tk = some kv.1 then .p (.slice kv.2) else .vec (tok + MZ * (i + 1)) sz ty kv.2

/-- The world goes on, for what does not go by an identity of D: own blocks keep their shape. -/
structure EvO (D : Nat → Bool) (w : World) (g : Gh) (w' : World) (g' : Gh) : Prop where
  ev : Ev w g.st w' g'.st
  ow : ∀ id b, D id = false → g.ow id = some b → g'.ow id = some b
  shape : ∀ id b c e, D id = false → g.ow id = some b → w.heap[b]? = some (.cells c e (0, 0)) →
    ∃ c' : Array Value, w'.heap[b]? = some (.cells c' e (0, 0)) ∧ c'.size = c.size
  tip : ∀ id b o, D id = false → g.ow id = some b → g'.st b o → g.st b o
  mp : ∀ id b es k, D id = false → g.ow id = some b → w.heap[b]? = some (.map es k) → w'.heap[b]? = some (.map es k)
  lo : ∀ i, MZ ≤ i → D i = false
  stab : ∀ id b o, D id = false → g.ow id = some b → g.st b o → w'.heap[b]? = w.heap[b]?

theorem EvO.trans {D E : Nat → Bool} {w w' w'' : World} {g g' g'' : Gh} (h : EvO D w g w' g') (k : EvO E w' g' w'' g'') : EvO (fun i => D i || E i) w g w'' g'' := by
  have hD : ∀ id, (D id || E id) = false → D id = false ∧ E id = false := fun id h => by simpa using h
  refine ⟨h.ev.trans k.ev, fun id b hd hb => k.ow id b (hD id hd).2 (h.ow id b (hD id hd).1 hb), fun id b c e hd hb hc => ?_, fun id b o hd hb ho => h.tip id b o (hD id hd).1 hb (k.tip id b o (hD id hd).2 (h.ow id b (hD id hd).1 hb) ho),
    fun id b es n hd hb hc => k.mp id b es n (hD id hd).2 (h.ow id b (hD id hd).1 hb) (h.mp id b es n (hD id hd).1 hb hc), fun i hi => by rw [h.lo i hi, k.lo i hi]; rfl,
    fun id b o hd hb ho => (k.stab id b o (hD id hd).2 (h.ow id b (hD id hd).1 hb) (h.ev _ _ ho).1).trans (h.stab id b o (hD id hd).1 hb ho)⟩
  obtain ⟨c1, h1, h2⟩ := h.shape id b c e (hD id hd).1 hb hc
  obtain ⟨c2, h3, h4⟩ := k.shape id b c1 e (hD id hd).2 (h.ow id b (hD id hd).1 hb) h1
  exact ⟨c2, h3, h4.trans h2⟩
theorem EvO.refl (w : World) (g : Gh) : EvO (fun _ => false) w g w g := ⟨Ev.refl _ _, fun _ _ _ h => h, fun _ _ c _ _ _ h => ⟨c, h, rfl⟩, fun _ _ _ _ _ h => h, fun _ _ _ _ _ _ h => h, fun _ _ => rfl, fun _ _ _ _ _ _ => rfl⟩

inductive ARep (w : World) (g : Gh) : AV → Value → Prop
  | undef (v : Value) : ARep w g .undef v
  | p {x : PV} {v : Value} (h : PRep w g.st x v) : ARep w g (.p x) v
  | agg {cs : List AV} {vs : Array Value} (hl : vs.size = cs.length)
      (h : ∀ (i : Nat) c v, cs[i]? = some c → vs[i]? = some v → ARep w g c v) : ARep w g (.agg cs) (.agg vs)
  | vecn (tok sz ty : Nat) : ARep w g (.vec tok sz ty []) (.slice none 0 0)
  | vece (tok sz : Nat) (a : Addr) : ARep w g (.vec tok sz 0 []) (.slice (some a) 0 0)
  | vec {tok sz ty : Nat} {es : List PV} {b off cap : Nat} {c : Array Value} {e : TypeId} (how : g.ow tok = some b)
      (hb : w.heap[b]? = some (.cells c e (0, 0))) (hcs : c.size = off + cap * sz)
      (hsz : ∀ e, e ∈ es → e.cells.length = sz) (hst : ∀ o, g.st b o ↔ o < off + es.length * sz)
      (hr : PRep w g.st (.slice es) (.slice (some ⟨b, off, none⟩) es.length cap)) (hty : ty = 0 ∨ ty = e + 1 ∧ off = 0) :
      ARep w g (.vec tok sz ty es) (.slice (some ⟨b, off, none⟩) es.length cap)
  | arr {id sz off n b cap : Nat} {c : Array Value} {e : TypeId} (how : g.ow id = some b) (hb : w.heap[b]? = some (.cells c e (0, 0)))
      (hcs : c.size = off + cap * sz) (hn : n ≤ cap) : ARep w g (.arr id sz off n) (.slice (some ⟨b, off, none⟩) n cap)
  | ptr {id off b : Nat} (how : g.ow id = some b) : ARep w g (.ptr id off) (.pointer (some ⟨b, off, none⟩))
  | bptrn {T sz id b : Nat} {c : Array Value} (how : g.ow id = some b) (hb : w.heap[b]? = some (.cells c T (0, 0))) (hcs : c.size = sz) : ARep w g (.bptr T sz id) (.pointer none)
  | bptr {T sz id b : Nat} {c : Array Value} (how : g.ow id = some b) (hb : w.heap[b]? = some (.cells c T (0, 0))) (hcs : c.size = sz) : ARep w g (.bptr T sz id) (.pointer (some ⟨b, 0, none⟩))
  | rptr {cs : List PV} {b off : Nat} (cf : Nat → Value)
      (hc : ∀ (j : Nat) c, cs[j]? = some c → g.st b (off + j) ∧ w.cell? ⟨b, off + j, none⟩ = some (cf j))
      (hr : ∀ (j : Nat) c, cs[j]? = some c → PRep w g.st c (cf j)) : ARep w g (.rptr cs) (.pointer (some ⟨b, off, none⟩))
  | tuple {cs : List AV} {vs : Array Value} (hl : vs.size = cs.length)
      (h : ∀ (i : Nat) c v, cs[i]? = some c → vs[i]? = some v → ARep w g c v) : ARep w g (.tuple cs) (.tuple vs)
  | func {f : Fn} {cs : List AV} {vs : Array Value} (hl : vs.size = cs.length)
      (h : ∀ (i : Nat) c v, cs[i]? = some c → vs[i]? = some v → ARep w g c v) : ARep w g (.func f cs) (.func f #[] vs)
  | mp {tok : Nat} {kvs : List (List UInt8 × PV)} {b k : Nat} {es : Array MapEntry} (how : g.ow tok = some b) (hb : w.heap[b]? = some (.map es k)) (hn : es.size = kvs.length) (hd : (kvs.map Prod.fst).Nodup)
      (hk : ∀ (i : Nat) e kv, es[i]? = some e → kvs[i]? = some kv → e.key = .string ⟨kv.1.toArray⟩) (hv : ∀ (i : Nat) e kv, es[i]? = some e → kvs[i]? = some kv → PRep w g.st kv.2 e.val) : ARep w g (.mp tok kvs) (.map (some b))
  | mpr {tok sz ty : Nat} {tk : Option (List UInt8)} {kvs : List (List UInt8 × List PV)} {b k : Nat} {es : Array MapEntry} (how : g.ow tok = some b) (hb : w.heap[b]? = some (.map es k)) (hn : es.size = kvs.length) (hd : (kvs.map Prod.fst).Nodup)
      (hk : ∀ (i : Nat) e kv, es[i]? = some e → kvs[i]? = some kv → e.key = .string ⟨kv.1.toArray⟩) (hv : ∀ (i : Nat) e kv, es[i]? = some e → kvs[i]? = some kv → ARep w g (rowAV tok sz ty tk i kv) e.val) : ARep w g (.mpr tok sz ty tk kvs) (.map (some b))
  | stkn (tok sz : Nat) : ARep w g (.stk tok sz []) (.slice none 0 0)
  | stke (tok sz : Nat) (a : Addr) : ARep w g (.stk tok sz []) (.slice (some a) 0 0)
  | stk {tok sz : Nat} {es : List PV} {b cap : Nat} {c : Array Value} {e : TypeId} (how : g.ow tok = some b) (hb : w.heap[b]? = some (.cells c e (0, 0))) (hcs : c.size = cap * sz) (hlen : es.length ≤ cap)
      (hsz : ∀ e, e ∈ es → e.cells.length = sz) (hone : ∀ e, e ∈ es → ∀ c, c ∈ e.cells → c.one = true) (hst : ∀ o, g.st b o ↔ o = cap * sz)
      (hr : ∀ (i : Nat) x (j : Nat) p, es[i]? = some x → x.cells[j]? = some p → ∃ v, c[i * sz + j]? = some v ∧ PRep w g.st p v) : ARep w g (.stk tok sz es) (.slice (some ⟨b, 0, none⟩) es.length cap)
  | sem {R : World → Gh → Value → Prop} {v : Value} (h1 : v.oneCell' = true) (h : ∀ (D : Nat → Bool) (w' : World) (g' : Gh), EvO D w g w' g' → R w' g' v) : ARep w g (.sem R) v
  | it {tok : Nat} {s : List UInt8} {pos b : Nat} (how : g.ow tok = some b) (hb : w.heap[b]? = some (.stringIter ⟨s.toArray⟩ pos)) (hm : g.st b 0) : ARep w g (.it tok s pos) (.pointer (some ⟨b, 0, none⟩))
  | vecp {tok sz ty : Nat} {es : List PV} {b off cap : Nat} {c : Array Value} {e : TypeId} (how : g.ow tok = some b) (hb : w.heap[b]? = some (.cells c e (0, 0))) (hcs : c.size = off + cap * sz) (hcap : es.length + 1 ≤ cap)
      (hsz : ∀ e, e ∈ es → e.cells.length = sz) (hst : ∀ o, g.st b o ↔ o < off + es.length * sz)
      (hr : PRep w g.st (.slice es) (.slice (some ⟨b, off, none⟩) es.length cap)) (hty : ty = 0 ∨ ty = e + 1 ∧ off = 0) : ARep w g (.vecp tok sz ty es) (.slice (some ⟨b, off, none⟩) (es.length + 1) cap)
  | elp {tok sz b p : Nat} {c : Array Value} {e : TypeId} (how : g.ow tok = some b) (hb : w.heap[b]? = some (.cells c e (0, 0))) (hp : p + sz ≤ c.size) (hst : ∀ o, g.st b o ↔ o < p) : ARep w g (.elp tok sz) (.pointer (some ⟨b, p, none⟩))

/- An own identity D is given up: what was known through it is no longer, but for settled contents. -/
mutual
def AV.dem (D : Nat → Bool) : AV → AV
  | .undef => .undef
  | .p x => .p x
  | .agg cs => .agg (demL D cs)
  | .vec tok sz ty es => bif D tok then .p (.slice es) else .vec tok sz ty es
  | .arr id sz off n => bif D id then .undef else .arr id sz off n
  | .ptr id off => bif D id then .undef else .ptr id off
  | .bptr T sz id => bif D id then .undef else .bptr T sz id
  | .rptr cs => .rptr cs
  | .tuple cs => .tuple (demL D cs)
  | .func f cs => .func f (demL D cs)
  | .mp tok kvs => bif D tok then .undef else .mp tok kvs
  | .mpr tok sz ty tk kvs => bif D tok then .undef else .mpr tok sz ty tk kvs
  | .stk tok sz es => bif D tok then .undef else .stk tok sz es
  | .sem R => .sem R
  | .it tok s pos => bif D tok then .undef else .it tok s pos
  | .vecp tok sz ty es => bif D tok then .undef else .vecp tok sz ty es
  | .elp tok sz => bif D tok then .undef else .elp tok sz
def demL (D : Nat → Bool) : List AV → List AV
  | [] => []
  | x :: r => x.dem D :: demL D r
end

theorem demL_eq (D : Nat → Bool) : ∀ l, demL D l = l.map (AV.dem D)
  | [] => rfl
  | x :: r => by simp [demL, demL_eq D r]

theorem rowAV_dem {D : Nat → Bool} (lo : ∀ i, MZ ≤ i → D i = false) (tok sz ty : Nat) (tk : Option (List UInt8)) (i : Nat) (kv : List UInt8 × List PV) : (rowAV tok sz ty tk i kv).dem D = rowAV tok sz ty tk i kv := by
  unfold rowAV
  split
  · rfl
  · simp only [AV.dem]
    rw [lo (tok + MZ * (i + 1)) (by unfold MZ; omega)]
    rfl

theorem ARep.dem {D : Nat → Bool} {w w' : World} {g g' : Gh} (hev : EvO D w g w' g') {x : AV} {v : Value} (h : ARep w g x v) : ARep w' g' (x.dem D) v := by
  induction h with
  | undef v => simp only [AV.dem]; exact .undef _
  | p h => simp only [AV.dem]; exact .p (h.mono hev.ev)
  | agg hl h ih =>
    simp only [AV.dem, demL_eq]
    refine .agg (by simpa using hl) fun i c v h1 h2 => ?_
    simp only [List.getElem?_map, Option.map_eq_some_iff] at h1
    obtain ⟨c0, h1, rfl⟩ := h1
    exact ih i c0 v h1 h2
  | vecn tok sz ty =>
    simp only [AV.dem]
    cases D tok
    · exact .vecn _ _ _
    · exact .p .nils
  | vece tok sz a =>
    simp only [AV.dem]
    cases D tok
    · exact .vece _ _ _
    · exact .p (.nile a)
  | vec how hb hcs hsz hst hr hty =>
    simp only [AV.dem]
    cases hD : D _
    · obtain ⟨c', hb', hs'⟩ := hev.shape _ _ _ _ hD how hb
      refine .vec (hev.ow _ _ hD how) hb' (hs'.trans hcs) hsz (fun o => ⟨fun h => (hst o).1 (hev.tip _ _ o hD how h), fun h => (hev.ev _ _ ((hst o).2 h)).1⟩) (hr.mono hev.ev) hty
    · exact .p (hr.mono hev.ev)
  | arr how hb hcs hn =>
    simp only [AV.dem]
    cases hD : D _
    · obtain ⟨c', hb', hs'⟩ := hev.shape _ _ _ _ hD how hb
      exact .arr (hev.ow _ _ hD how) hb' (hs'.trans hcs) hn
    · exact .undef _
  | ptr how =>
    simp only [AV.dem]
    cases hD : D _
    · exact .ptr (hev.ow _ _ hD how)
    · exact .undef _
  | bptrn how hb hcs =>
    simp only [AV.dem]
    cases hD : D _
    · obtain ⟨c', hb', hs'⟩ := hev.shape _ _ _ _ hD how hb
      exact .bptrn (hev.ow _ _ hD how) hb' (hs'.trans hcs)
    · exact .undef _
  | bptr how hb hcs =>
    simp only [AV.dem]
    cases hD : D _
    · obtain ⟨c', hb', hs'⟩ := hev.shape _ _ _ _ hD how hb
      exact .bptr (hev.ow _ _ hD how) hb' (hs'.trans hcs)
    · exact .undef _
  | rptr cf hc hr =>
    simp only [AV.dem]
    exact .rptr cf (fun j c h => ⟨(hev.ev _ _ (hc j c h).1).1, (hev.ev _ _ (hc j c h).1).2.trans (hc j c h).2⟩) (fun j c h => (hr j c h).mono hev.ev)
  | tuple hl h ih =>
    simp only [AV.dem, demL_eq]
    refine .tuple (by simpa using hl) fun i c v h1 h2 => ?_
    simp only [List.getElem?_map, Option.map_eq_some_iff] at h1
    obtain ⟨c0, h1, rfl⟩ := h1
    exact ih i c0 v h1 h2
  | func hl h ih =>
    simp only [AV.dem, demL_eq]
    refine .func (by simpa using hl) fun i c v h1 h2 => ?_
    simp only [List.getElem?_map, Option.map_eq_some_iff] at h1
    obtain ⟨c0, h1, rfl⟩ := h1
    exact ih i c0 v h1 h2
  | mp how hb hn hd hk hv =>
    simp only [AV.dem]
    cases hD : D _
    · exact .mp (hev.ow _ _ hD how) (hev.mp _ _ _ _ hD how hb) hn hd hk (fun i e kv h1 h2 => (hv i e kv h1 h2).mono hev.ev)
    · exact .undef _
  | mpr how hb hn hd hk hv ih =>
    simp only [AV.dem]
    cases hD : D _
    · exact .mpr (hev.ow _ _ hD how) (hev.mp _ _ _ _ hD how hb) hn hd hk (fun i e kv h1 h2 => by have := ih i e kv h1 h2; rwa [rowAV_dem hev.lo] at this)
    · exact .undef _
  | stkn tok sz =>
    simp only [AV.dem]
    cases D tok
    · exact .stkn _ _
    · exact .undef _
  | stke tok sz a =>
    simp only [AV.dem]
    cases D tok
    · exact .stke _ _ _
    · exact .undef _
  | stk how hb hcs hlen hsz hone hst hr =>
    simp only [AV.dem]
    cases hD : D _
    · exact .stk (hev.ow _ _ hD how) ((hev.stab _ _ _ hD how ((hst _).2 rfl)).trans hb) hcs hlen hsz hone (fun o => ⟨fun h => (hst o).1 (hev.tip _ _ o hD how h), fun h => (hev.ev _ _ ((hst o).2 h)).1⟩) (fun i x j p h1 h2 => by obtain ⟨v, h3, h4⟩ := hr i x j p h1 h2; exact ⟨v, h3, h4.mono hev.ev⟩)
    · exact .undef _
  | sem h1 h =>
    simp only [AV.dem]
    exact .sem h1 (fun D2 w2 g2 hev2 => h _ _ _ (hev.trans hev2))
  | it how hb hm =>
    simp only [AV.dem]
    cases hD : D _
    · exact .it (hev.ow _ _ hD how) ((hev.stab _ _ _ hD how hm).trans hb) (hev.ev _ _ hm).1
    · exact .undef _
  | vecp how hb hcs hcap hsz hst hr hty =>
    simp only [AV.dem]
    cases hD : D _
    · obtain ⟨c', hb', hs'⟩ := hev.shape _ _ _ _ hD how hb
      exact .vecp (hev.ow _ _ hD how) hb' (hs'.trans hcs) hcap hsz (fun o => ⟨fun h => (hst o).1 (hev.tip _ _ o hD how h), fun h => (hev.ev _ _ ((hst o).2 h)).1⟩) (hr.mono hev.ev) hty
    · exact .undef _
  | elp how hb hp hst =>
    simp only [AV.dem]
    cases hD : D _
    · obtain ⟨c', hb', hs'⟩ := hev.shape _ _ _ _ hD how hb
      exact .elp (hev.ow _ _ hD how) hb' (by omega) (fun o => ⟨fun h => (hst o).1 (hev.tip _ _ o hD how h), fun h => (hev.ev _ _ ((hst o).2 h)).1⟩)
    · exact .undef _

/-- Nothing is given up. -/
theorem ARep.mono {w w' : World} {g g' : Gh} (hev : EvO (fun _ => false) w g w' g') {x : AV} {v : Value} (h : ARep w g x v) : ARep w' g' x v := by
  induction h with
  | undef v => exact .undef _
  | p h => exact .p (h.mono hev.ev)
  | agg hl h ih => exact .agg hl ih
  | vecn tok sz ty => exact .vecn _ _ _
  | vece tok sz a => exact .vece _ _ _
  | vec how hb hcs hsz hst hr hty =>
    obtain ⟨c', hb', hs'⟩ := hev.shape _ _ _ _ rfl how hb
    exact .vec (hev.ow _ _ rfl how) hb' (hs'.trans hcs) hsz (fun o => ⟨fun h => (hst o).1 (hev.tip _ _ o rfl how h), fun h => (hev.ev _ _ ((hst o).2 h)).1⟩) (hr.mono hev.ev) hty
  | arr how hb hcs hn =>
    obtain ⟨c', hb', hs'⟩ := hev.shape _ _ _ _ rfl how hb
    exact .arr (hev.ow _ _ rfl how) hb' (hs'.trans hcs) hn
  | ptr how => exact .ptr (hev.ow _ _ rfl how)
  | bptrn how hb hcs =>
    obtain ⟨c', hb', hs'⟩ := hev.shape _ _ _ _ rfl how hb
    exact .bptrn (hev.ow _ _ rfl how) hb' (hs'.trans hcs)
  | bptr how hb hcs =>
    obtain ⟨c', hb', hs'⟩ := hev.shape _ _ _ _ rfl how hb
    exact .bptr (hev.ow _ _ rfl how) hb' (hs'.trans hcs)
  | rptr cf hc hr => exact .rptr cf (fun j c h => ⟨(hev.ev _ _ (hc j c h).1).1, (hev.ev _ _ (hc j c h).1).2.trans (hc j c h).2⟩) (fun j c h => (hr j c h).mono hev.ev)
  | tuple hl h ih => exact .tuple hl ih
  | func hl h ih => exact .func hl ih
  | mp how hb hn hd hk hv => exact .mp (hev.ow _ _ rfl how) (hev.mp _ _ _ _ rfl how hb) hn hd hk (fun i e kv h1 h2 => (hv i e kv h1 h2).mono hev.ev)
  | mpr how hb hn hd hk hv ih => exact .mpr (hev.ow _ _ rfl how) (hev.mp _ _ _ _ rfl how hb) hn hd hk ih
  | stkn tok sz => exact .stkn _ _
  | stke tok sz a => exact .stke _ _ _
  | stk how hb hcs hlen hsz hone hst hr =>
    exact .stk (hev.ow _ _ rfl how) ((hev.stab _ _ _ rfl how ((hst _).2 rfl)).trans hb) hcs hlen hsz hone (fun o => ⟨fun h => (hst o).1 (hev.tip _ _ o rfl how h), fun h => (hev.ev _ _ ((hst o).2 h)).1⟩) (fun i x j p h1 h2 => by obtain ⟨v, h3, h4⟩ := hr i x j p h1 h2; exact ⟨v, h3, h4.mono hev.ev⟩)
  | sem h1 h => exact .sem h1 (fun D2 w2 g2 hev2 => h _ _ _ (hev.trans hev2))
  | it how hb hm => exact .it (hev.ow _ _ rfl how) ((hev.stab _ _ _ rfl how hm).trans hb) (hev.ev _ _ hm).1
  | vecp how hb hcs hcap hsz hst hr hty =>
    obtain ⟨c', hb', hs'⟩ := hev.shape _ _ _ _ rfl how hb
    exact .vecp (hev.ow _ _ rfl how) hb' (hs'.trans hcs) hcap hsz (fun o => ⟨fun h => (hst o).1 (hev.tip _ _ o rfl how h), fun h => (hev.ev _ _ ((hst o).2 h)).1⟩) (hr.mono hev.ev) hty
  | elp how hb hp hst =>
    obtain ⟨c', hb', hs'⟩ := hev.shape _ _ _ _ rfl how hb
    exact .elp (hev.ow _ _ rfl how) hb' (by omega) (fun o => ⟨fun h => (hst o).1 (hev.tip _ _ o rfl how h), fun h => (hev.ev _ _ ((hst o).2 h)).1⟩)

/-- The abstract state of a frame: what is known of its slots, and the contents of the objects that it owns. -/
structure AS where
  sl : List (Nat × AV)
  ob : List (Nat × List AV)

def AS.get (s : AS) (i : Nat) : AV := (look s.sl i).getD .undef

def AS.put (s : AS) (dst : Option Nat) (x : AV) : AS :=
  match dst with
  | some d => { s with sl := (d, x) :: s.sl }
  | none => s

/-- An object's cells. -/
def ObRep (w : World) (g : Gh) (id : Nat) (cs : List AV) : Prop :=
  ∃ b c e, g.ow id = some b ∧ w.heap[b]? = some (.cells c e (0, 0)) ∧ cs.length ≤ c.size ∧ (∀ o, ¬ g.st b o) ∧
    ∀ (i : Nat) x, cs[i]? = some x → ∃ v, c[i]? = some v ∧ ARep w g x v

/-- The start of a call: the world, what of it was settled, and what the objects are that were handed in. -/
structure Base where
  w : World
  st : Nat → Nat → Prop
  ow : Nat → Option Nat
  gl : GlobOk w st
  lo : ∀ i b, ow i = some b → i < MZ
  df : List Deferred

/-- Rows that were handed in keep their sizes. -/
def ShapesH (ow : Nat → Option Nat) (w w' : World) : Prop := ∀ (i b : Nat) (c : Array Value) (e : TypeId), M1 ≤ i → ow i = some b → w.heap[b]? = some (.cells c e (0, 0)) → ∃ c' : Array Value, w'.heap[b]? = some (.cells c' e (0, 0)) ∧ c'.size = c.size
theorem ShapesH.refl (ow : Nat → Option Nat) (w : World) : ShapesH ow w w := fun _ _ c _ _ _ h => ⟨c, h, rfl⟩
theorem ShapesH.next {ow : Nat → Option Nat} {w w' w'' : World} (h : ShapesH ow w w')
    (k : ∀ (i b : Nat) (c : Array Value) (e : TypeId), M1 ≤ i → ow i = some b → w'.heap[b]? = some (.cells c e (0, 0)) → ∃ c' : Array Value, w''.heap[b]? = some (.cells c' e (0, 0)) ∧ c'.size = c.size) : ShapesH ow w w'' := by
  intro i b c e h1 h2 h3
  obtain ⟨c1, h4, h5⟩ := h i b c e h1 h2 h3
  obtain ⟨c2, h6, h7⟩ := k i b c1 e h1 h2 h4
  exact ⟨c2, h6, h7.trans h5⟩

/-- Rows keep their sizes, and what is new is rows that are not frozen. -/
def Shapes (w w' : World) : Prop := (∀ (b : Nat) (c : Array Value) (e : TypeId), w.heap[b]? = some (.cells c e (0, 0)) → ∃ c' : Array Value, w'.heap[b]? = some (.cells c' e (0, 0)) ∧ c'.size = c.size) ∧
  ∀ (b : Nat) (o : Obj), w.heap.size ≤ b → w'.heap[b]? = some o → ∃ c e, o = .cells c e (0, 0)

theorem Shapes.refl (w : World) : Shapes w w := ⟨fun _ c _ h => ⟨c, h, rfl⟩, fun b o h1 h2 => absurd (Array.getElem?_eq_some_iff.1 h2).1 (Nat.not_lt.2 h1)⟩
theorem Shapes.trans {w w' w'' : World} (h : Shapes w w') (k : Shapes w' w'') : Shapes w w'' := by
  refine ⟨fun b c e hb => ?_, fun b o h1 h2 => ?_⟩
  · obtain ⟨c1, h1, h2⟩ := h.1 b c e hb
    obtain ⟨c2, h3, h4⟩ := k.1 b c1 e h1
    exact ⟨c2, h3, h4.trans h2⟩
  · by_cases h3 : b < w'.heap.size
    · obtain ⟨c, e, h4⟩ := h.2 b w'.heap[b] h1 (Array.getElem?_eq_getElem h3)
      obtain ⟨c2, h5, _⟩ := k.1 b c e (by rw [Array.getElem?_eq_getElem h3, h4])
      rw [h2] at h5
      cases h5
      exact ⟨_, _, rfl⟩
    · exact k.2 b o (Nat.le_of_not_lt h3) h2

/-- 'a', 'w' are what 's' says. F: the blocks that the call must leave alone; w0: the world in which the call began. -/
structure St (n : Nat) (w0 : Base) (F : Nat → Prop) (g : Gh) (s : AS) (a : Act) (w : World) : Prop where
  nd : a.defers = w0.df
  sz : a.tmps.size = n
  sl : ∀ i, ARep w g (s.get i) (a.tmps.getD i Go.undef)
  ob : ∀ id cs, look s.ob id = some cs → ObRep w g id cs
  inj : ∀ i j b, g.ow i = some b → g.ow j = some b → i = j
  own : ∀ i b, g.ow i = some b → b < w.heap.size ∧ ¬ F b
  lt : ∀ b o, g.st b o → b < w.heap.size
  fl : ∀ b, F b → b < w0.w.heap.size
  fr : ∀ b, F b → w.heap[b]? = w0.w.heap[b]?
  os : w.os = w0.w.os
  out : w.output = w0.w.output
  tape : w.tape = w0.w.tape
  size : w0.w.heap.size ≤ w.heap.size
  stf : ∀ b, F b → ∀ o, g.st b o ↔ w0.st b o
  owf : ∀ i, M1 ≤ i → i < MZ → g.ow i = w0.ow i
  shf : ShapesH w0.ow w0.w w
  nst : ∀ i b, M1 ≤ i → w0.ow i = some b → ∀ o, ¬ g.st b o
  ev0 : Ev w0.w w0.st w g.st

theorem St.ok0 {n : Nat} {w0 : Base} {F : Nat → Prop} {g : Gh} {s : AS} {a : Act} {w : World} (h : St n w0 F g s a w) : Ok0 w g.st := ⟨h.lt, w0.gl.mono h.ev0⟩

theorem look_cons {α : Type} (j i : Nat) (v : α) (r : List (Nat × α)) : look ((j, v) :: r) i = if j = i then some v else look r i := by
  simp only [look]
  cases h : Nat.beq j i
  · have : j ≠ i := fun e => by subst e; simp at h
    simp [this]
  · have : j = i := Nat.eq_of_beq_eq_true h
    simp [this]

theorem St.put {n : Nat} {w0 : Base} {w : World} {F : Nat → Prop} {g : Gh} {s : AS} {a : Act} (h : St n w0 F g s a w) {d : Option Nat} (hd : ∀ t, d = some t → t < n)
    {x : AV} {v : Value} (hx : ARep w g x v) : St n w0 F g (s.put d x) (a.put d v) w := by
  cases d with
  | none => exact h
  | some t =>
    have ht := hd t rfl
    refine { h with sz := by simpa [Act.put] using h.sz, sl := fun i => ?_, nd := h.nd }
    simp only [AS.get, AS.put, look_cons, Act.put]
    by_cases e : t = i
    · subst e
      have : t < a.tmps.size := by rw [h.sz]; exact ht
      simpa [Array.getD, this] using hx
    · have h2 := h.sl i
      simp only [AS.get] at h2
      simp only [if_neg e]
      have e3 : (a.tmps.setIfInBounds t v).getD i Go.undef = a.tmps.getD i Go.undef := by
        simp only [Array.getD_eq_getD_getElem?, Array.getElem?_setIfInBounds, if_neg e]
      rw [e3]; exact h2

/-- What is said less of a state is true of it, too. -/
def AV.sub (x y : AV) : Prop := ∀ w g v, ARep w g x v → ARep w g y v
theorem AV.sub_refl (x : AV) : x.sub x := fun _ _ _ h => h
theorem AV.sub_of_eq {x y : AV} (h : x = y) : x.sub y := h ▸ AV.sub_refl x
theorem AV.sub_undef (x : AV) : x.sub .undef := fun _ _ _ _ => .undef _
theorem PRep.nil_inv {w : World} {st : Nat → Nat → Prop} {v : Value} (h : PRep w st (.slice []) v) :
    v = .slice none 0 0 ∨ ∃ a cap, v = .slice (some a) 0 cap := by
  cases h with
  | nils => exact .inl rfl
  | nile a => exact .inr ⟨_, _, rfl⟩
  | slice sz cf hcap hsz hone hc hr => exact .inr ⟨_, _, rfl⟩
theorem AV.sub_vec (tok sz ty : Nat) (es : List PV) : (AV.vec tok sz ty es).sub (.p (.slice es)) := by
  intro w g v h
  cases h with
  | vecn => exact .p .nils
  | vece _ _ a => exact .p (.nile a)
  | vec how hb hcs hsz hst hr hty => exact .p hr
theorem AV.sub_nilv : (AV.p (.val (.slice none 0 0))).sub (.p (.slice [])) := by
  intro w g v h
  cases h with
  | p h => cases h; exact .p .nils
theorem AV.sub_nilvec (tok sz ty : Nat) : (AV.p (.val (.slice none 0 0))).sub (.vec tok sz ty []) := by
  intro w g v h
  cases h with
  | p h => cases h; exact .vecn _ _ _

structure AS.le (s t : AS) : Prop where
  sl : ∀ j x, look t.sl j = some x → (s.get j).sub x
  ob : ∀ id cs, look t.ob id = some cs → ∃ ds, look s.ob id = some ds ∧ cs.length ≤ ds.length ∧ ∀ (i : Nat) c d, cs[i]? = some c → ds[i]? = some d → d.sub c

theorem St.weaken {n : Nat} {w0 : Base} {w : World} {F : Nat → Prop} {g : Gh} {s t : AS} {a : Act} (h : St n w0 F g s a w) (hle : s.le t) : St n w0 F g t a w := by
  refine { h with sl := fun i => ?_, ob := fun id cs hc => ?_ }
  · unfold AS.get
    cases ht : look t.sl i with
    | none => exact .undef _
    | some x => exact hle.sl i x ht _ _ _ (h.sl i)
  · obtain ⟨ds, h1, h2, h3⟩ := hle.ob id cs hc
    obtain ⟨b, c, e, k1, k2, k3, k4, k5⟩ := h.ob id ds h1
    refine ⟨b, c, e, k1, k2, by omega, k4, fun i x hx => ?_⟩
    have hi : i < ds.length := by
      have := (List.getElem?_eq_some_iff.1 hx).1; omega
    obtain ⟨v, hv, hr⟩ := k5 i ds[i] (List.getElem?_eq_getElem hi)
    exact ⟨v, hv, h3 i x _ hx (List.getElem?_eq_getElem hi) _ _ _ hr⟩

end Go.Ab
