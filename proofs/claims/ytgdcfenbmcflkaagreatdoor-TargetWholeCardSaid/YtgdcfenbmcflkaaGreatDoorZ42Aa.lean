/- Texts of the proof, one behind the other. No statement is proved here. -/
import GoSem.PinnedTables
import GoSem.Core.Value
import Derived.WalkKit
import Derived.Deep.AppendSrc
import Derived.Great.FillDense
import Derived.Great.BuildSlice
import Derived.Deep.Upon
import Derived.Lib.Bytealg
import Derived.Scope
import Derived.RowKit3
import Derived.WideLaws
section
namespace Go.Ab
open Go
inductive GC where
 | int (k : IntKind) (n : Int)
 | ifc
 | some (k : IntKind)
def Cj : List GC := [.some .i64]
def uq : List GC := Go.Pinned.utf8FirstZ.map fun (n : Nat) => .int .u8 (n : Int)
def yt : List GC := [.int .u8 128, .int .u8 191, .int .u8 160, .int .u8 191, .int .u8 128, .int .u8 159, .int .u8 144, .int .u8 191, .int .u8 128, .int .u8 143, .int .u8 0, .int .u8 0, .int .u8 0, .int .u8 0, .int .u8 0, .int .u8 0, .int .u8 0, .int .u8 0, .int .u8 0, .int .u8 0, .int .u8 0, .int .u8 0, .int .u8 0, .int .u8 0, .int .u8 0, .int .u8 0, .int .u8 0, .int .u8 0, .int .u8 0, .int .u8 0, .int .u8 0, .int .u8 0]
def CI : List GC := [.int .u64 1, .int .u64 10, .int .u64 100, .int .u64 1000, .int .u64 10000, .int .u64 100000, .int .u64 1000000, .int .u64 10000000, .int .u64 100000000, .int .u64 1000000000, .int .u64 10000000000, .int .u64 100000000000, .int .u64 1000000000000, .int .u64 10000000000000, .int .u64 100000000000000, .int .u64 1000000000000000, .int .u64 10000000000000000, .int .u64 100000000000000000, .int .u64 1000000000000000000, .int .u64 10000000000000000000]
def CJ : List GC := [.ifc]
def Cn : List GC := [.ifc]
def Cz : List GC := [.int .u8 0, .int .u8 1, .int .u8 28, .int .u8 2, .int .u8 29, .int .u8 14, .int .u8 24, .int .u8 3, .int .u8 30, .int .u8 22, .int .u8 20, .int .u8 15, .int .u8 25, .int .u8 17, .int .u8 4, .int .u8 8, .int .u8 31, .int .u8 27, .int .u8 13, .int .u8 23, .int .u8 21, .int .u8 19, .int .u8 16, .int .u8 7, .int .u8 26, .int .u8 12, .int .u8 18, .int .u8 6, .int .u8 11, .int .u8 5, .int .u8 10, .int .u8 9]
def CH : List GC := [.int .u8 0, .int .u8 1, .int .u8 56, .int .u8 2, .int .u8 57, .int .u8 49, .int .u8 28, .int .u8 3, .int .u8 61, .int .u8 58, .int .u8 42, .int .u8 50, .int .u8 38, .int .u8 29, .int .u8 17, .int .u8 4, .int .u8 62, .int .u8 47, .int .u8 59, .int .u8 36, .int .u8 45, .int .u8 43, .int .u8 51, .int .u8 22, .int .u8 53, .int .u8 39, .int .u8 33, .int .u8 30, .int .u8 24, .int .u8 18, .int .u8 12, .int .u8 5, .int .u8 63, .int .u8 55, .int .u8 48, .int .u8 27, .int .u8 60, .int .u8 41, .int .u8 37, .int .u8 16, .int .u8 46, .int .u8 35, .int .u8 44, .int .u8 21, .int .u8 52, .int .u8 32, .int .u8 23, .int .u8 11, .int .u8 54, .int .u8 26, .int .u8 40, .int .u8 15, .int .u8 34, .int .u8 20, .int .u8 31, .int .u8 10, .int .u8 25, .int .u8 14, .int .u8 19, .int .u8 9, .int .u8 13, .int .u8 8, .int .u8 7, .int .u8 6]
def oO : List (Nat × List GC) := [(0, Cj), (1, uq), (2, yt), (3, CI), (4, CJ), (5, Cn), (6, Cz), (7, CH)]
end Go.Ab
end
section
set_option linter.unusedVariables false
set_option linter.unusedSimpArgs false
set_option linter.unnecessarySimpa false
namespace Go.Ab
inductive PV where
 | val (v : Value)
 | agg (cs : List PV)
 | slice (es : List PV)
 | ifc
 | aint (k : IntKind)
def PV.cells : PV → List PV
 | .agg cs => cs
 | .val v => [.val v]
 | .slice es => [.slice es]
 | .ifc => [.ifc]
 | .aint k => [.aint k]
def PV.one : PV → Bool
 | .val v => v.oneCell'
 | .slice _ => true
 | .ifc => true
 | .aint _ => true
 | .agg _ => false
structure Gh where
 st : Nat → Nat → Prop
 ow : Nat → Option Nat
inductive PRep (w : World) (st : Nat → Nat → Prop) : PV → Value → Prop
 | val (v : Value) : PRep w st (.val v) v
 | agg {cs : List PV} {vs : Array Value} (hl : vs.size = cs.length)
   (h : ∀ (i : Nat) c v, cs[i]? = some c → vs[i]? = some v → PRep w st c v) : PRep w st (.agg cs) (.agg vs)
 | ifc (t : TypeId) (v : Value) : PRep w st .ifc (.iface t v)
 | aint (k : IntKind) (n : Int) : PRep w st (.aint k) (.int k n)
 | nils : PRep w st (.slice []) (.slice none 0 0)
 | nile (a : Addr) : PRep w st (.slice []) (.slice (some a) 0 0)
 | slice {es : List PV} {b off cap : Nat} (sz : Nat) (cf : Nat → Nat → Value) (hcap : es.length ≤ cap)
   (hsz : ∀ e, e ∈ es → e.cells.length = sz) (hone : ∀ e, e ∈ es → ∀ c, c ∈ e.cells → c.one = true)
   (hc : ∀ (i : Nat) e (j : Nat) c, es[i]? = some e → e.cells[j]? = some c → st b (off + i * sz + j) ∧ w.cell? ⟨b, off + i * sz + j, none⟩ = some (cf i j))
   (hr : ∀ (i : Nat) e (j : Nat) c, es[i]? = some e → e.cells[j]? = some c → PRep w st c (cf i j)) :
   PRep w st (.slice es) (.slice (some ⟨b, off, none⟩) es.length cap)
def Ev (w : World) (st : Nat → Nat → Prop) (w' : World) (st' : Nat → Nat → Prop) : Prop :=
 ∀ b o, st b o → st' b o ∧ w'.cell? ⟨b, o, none⟩ = w.cell? ⟨b, o, none⟩
theorem Ev.refl (w : World) (st : Nat → Nat → Prop) : Ev w st w st := fun _ _ h => ⟨h, rfl⟩
theorem Ev.trans {w w' w'' : World} {st st' st'' : Nat → Nat → Prop} (h : Ev w st w' st') (k : Ev w' st' w'' st'') : Ev w st w'' st'' :=
 fun b o hs => ⟨(k b o (h b o hs).1).1, (k b o (h b o hs).1).2.trans (h b o hs).2⟩
theorem PRep.mono {w w' : World} {st st' : Nat → Nat → Prop} (hev : Ev w st w' st') {x : PV} {v : Value} (h : PRep w st x v) : PRep w' st' x v := by
 induction h with
 | val v => exact .val v
 | agg hl h ih => exact .agg hl ih
 | ifc t v => exact .ifc t v
 | aint k n => exact .aint k n
 | nils => exact .nils
 | nile a => exact .nile a
 | slice sz cf hcap hsz hone hc hr ih =>
  refine .slice sz cf hcap hsz hone (fun i e j c h1 h2 => ?_) ih
  have h3 := hc i e j c h1 h2
  exact ⟨(hev _ _ h3.1).1, (hev _ _ h3.1).2.trans h3.2⟩
def look {α : Type} : List (Nat × α) → Nat → Option α
 | [], _ => none
 | (j, v) :: r, i => bif Nat.beq j i then some v else look r i
def GC.pv : GC → PV
 | .int k n => .val (.int k n)
 | .ifc => .ifc
 | .some k => .aint k
def lK (g : Nat) : Option (List PV) := (look oO g).map fun l => l.map GC.pv
def kz (w : World) (st : Nat → Nat → Prop) : Prop :=
 ∀ g cs, lK g = some cs → (∀ (j : Nat) c, cs[j]? = some c → st g j ∧ ∃ v, w.cell? ⟨g, j, none⟩ = some v ∧ PRep w st c v) ∧ (st g cs.length ∧ w.cell? ⟨g, cs.length, none⟩ = none)
theorem kz.mono {w w' : World} {st st' : Nat → Nat → Prop} (h : kz w st) (hev : Ev w st w' st') : kz w' st' := fun g cs hg => by
 obtain ⟨h0, h1, h2⟩ := h g cs hg
 refine ⟨fun j c hc => ?_, (hev _ _ h1).1, (hev _ _ h1).2.trans h2⟩
 obtain ⟨h1, v, h2, h3⟩ := h0 j c hc
 exact ⟨(hev _ _ h1).1, v, (hev _ _ h1).2.trans h2, h3.mono hev⟩
structure Ok0 (w : World) (st : Nat → Nat → Prop) : Prop where
 lt : ∀ b o, st b o → b < w.heap.size
 gl : kz w st
inductive AV where
 | undef
 | p (x : PV)
 | agg (cs : List AV)
 | vec (tok sz ty : Nat) (es : List PV)
 | arr (id sz off n : Nat)
 | ptr (id off : Nat)
 | bptr (T sz id : Nat)
 | rptr (cs : List PV)
 | tuple (vs : List AV)
 | func (f : Fn) (caps : List AV)
 | mp (tok : Nat) (kvs : List (List UInt8 × PV))
 | mpr (tok sz ty : Nat) (tk : Option (List UInt8)) (kvs : List (List UInt8 × List PV))
 | stk (tok sz : Nat) (es : List PV)
def M1 : Nat := 1000000
def MZ : Nat := 10000000
theorem sR : 2 * M1 ≤ MZ := by decide
theorem sU {i : Nat} (h : MZ ≤ i) : M1 ≤ i := Nat.le_trans (by decide) h
def lq (tok sz ty : Nat) (tk : Option (List UInt8)) (i : Nat) (kv : List UInt8 × List PV) : AV := if tk = some kv.1 then .p (.slice kv.2) else .vec (tok + MZ * (i + 1)) sz ty kv.2
inductive ARep (w : World) (g : Gh) : AV → Value → Prop
 | undef (v : Value) : ARep w g .undef v
 | p {x : PV} {v : Value} (h : PRep w g.st x v) : ARep w g (.p x) v
 | agg {cs : List AV} {vs : Array Value} (hl : vs.size = cs.length)
   (h : ∀ (i : Nat) c v, cs[i]? = some c → vs[i]? = some v → ARep w g c v) : ARep w g (.agg cs) (.agg vs)
 | vecn (tok sz ty : Nat) : ARep w g (.vec tok sz ty []) (.slice none 0 0)
 | vece (tok sz : Nat) (a : Addr) : ARep w g (.vec tok sz 0 []) (.slice (some a) 0 0)
 | vec {tok sz ty : Nat} {es : List PV} {b off cap : Nat} {c : Array Value} {e : TypeId} (how : g.ow tok = some b)
   (hb : w.heap[b]? = some (.cells c e (0, 0))) (hcs : c.size = off + cap * sz)
   (hsz : ∀ e, e ∈ es → e.cells.length = sz) (hst : ∀ o, g.st b o ↔ o < off + es.length * sz)
   (hr : PRep w g.st (.slice es) (.slice (some ⟨b, off, none⟩) es.length cap)) (hty : ty = 0 ∨ ty = e + 1 ∧ off = 0) :
   ARep w g (.vec tok sz ty es) (.slice (some ⟨b, off, none⟩) es.length cap)
 | arr {id sz off n b cap : Nat} {c : Array Value} {e : TypeId} (how : g.ow id = some b) (hb : w.heap[b]? = some (.cells c e (0, 0)))
   (hcs : c.size = off + cap * sz) (hn : n ≤ cap) : ARep w g (.arr id sz off n) (.slice (some ⟨b, off, none⟩) n cap)
 | ptr {id off b : Nat} (how : g.ow id = some b) : ARep w g (.ptr id off) (.pointer (some ⟨b, off, none⟩))
 | bptrn {T sz id b : Nat} {c : Array Value} (how : g.ow id = some b) (hb : w.heap[b]? = some (.cells c T (0, 0))) (hcs : c.size = sz) : ARep w g (.bptr T sz id) (.pointer none)
 | bptr {T sz id b : Nat} {c : Array Value} (how : g.ow id = some b) (hb : w.heap[b]? = some (.cells c T (0, 0))) (hcs : c.size = sz) : ARep w g (.bptr T sz id) (.pointer (some ⟨b, 0, none⟩))
 | rptr {cs : List PV} {b off : Nat} (cf : Nat → Value)
   (hc : ∀ (j : Nat) c, cs[j]? = some c → g.st b (off + j) ∧ w.cell? ⟨b, off + j, none⟩ = some (cf j))
   (hr : ∀ (j : Nat) c, cs[j]? = some c → PRep w g.st c (cf j)) : ARep w g (.rptr cs) (.pointer (some ⟨b, off, none⟩))
 | tuple {cs : List AV} {vs : Array Value} (hl : vs.size = cs.length)
   (h : ∀ (i : Nat) c v, cs[i]? = some c → vs[i]? = some v → ARep w g c v) : ARep w g (.tuple cs) (.tuple vs)
 | func {f : Fn} {cs : List AV} {vs : Array Value} (hl : vs.size = cs.length)
   (h : ∀ (i : Nat) c v, cs[i]? = some c → vs[i]? = some v → ARep w g c v) : ARep w g (.func f cs) (.func f #[] vs)
 | mp {tok : Nat} {kvs : List (List UInt8 × PV)} {b k : Nat} {es : Array MapEntry} (how : g.ow tok = some b) (hb : w.heap[b]? = some (.map es k)) (hn : es.size = kvs.length) (hd : (kvs.map Prod.fst).Nodup)
   (hk : ∀ (i : Nat) e kv, es[i]? = some e → kvs[i]? = some kv → e.key = .string ⟨kv.1.toArray⟩) (hv : ∀ (i : Nat) e kv, es[i]? = some e → kvs[i]? = some kv → PRep w g.st kv.2 e.val) : ARep w g (.mp tok kvs) (.map (some b))
 | mpr {tok sz ty : Nat} {tk : Option (List UInt8)} {kvs : List (List UInt8 × List PV)} {b k : Nat} {es : Array MapEntry} (how : g.ow tok = some b) (hb : w.heap[b]? = some (.map es k)) (hn : es.size = kvs.length) (hd : (kvs.map Prod.fst).Nodup)
   (hk : ∀ (i : Nat) e kv, es[i]? = some e → kvs[i]? = some kv → e.key = .string ⟨kv.1.toArray⟩) (hv : ∀ (i : Nat) e kv, es[i]? = some e → kvs[i]? = some kv → ARep w g (lq tok sz ty tk i kv) e.val) : ARep w g (.mpr tok sz ty tk kvs) (.map (some b))
 | stkn (tok sz : Nat) : ARep w g (.stk tok sz []) (.slice none 0 0)
 | stke (tok sz : Nat) (a : Addr) : ARep w g (.stk tok sz []) (.slice (some a) 0 0)
 | stk {tok sz : Nat} {es : List PV} {b cap : Nat} {c : Array Value} {e : TypeId} (how : g.ow tok = some b) (hb : w.heap[b]? = some (.cells c e (0, 0))) (hcs : c.size = cap * sz) (hlen : es.length ≤ cap)
   (hsz : ∀ e, e ∈ es → e.cells.length = sz) (hone : ∀ e, e ∈ es → ∀ c, c ∈ e.cells → c.one = true) (hst : ∀ o, g.st b o ↔ o = cap * sz)
   (hr : ∀ (i : Nat) x (j : Nat) p, es[i]? = some x → x.cells[j]? = some p → ∃ v, c[i * sz + j]? = some v ∧ PRep w g.st p v) : ARep w g (.stk tok sz es) (.slice (some ⟨b, 0, none⟩) es.length cap)
/- An own identity D is given up: what was known through it is no longer, but for settled contents. -/
mutual
def AV.dem (D : Nat → Bool) : AV → AV
 | .undef => .undef
 | .p x => .p x
 | .agg cs => .agg (j4 D cs)
 | .vec tok sz ty es => bif D tok then .p (.slice es) else .vec tok sz ty es
 | .arr id sz off n => bif D id then .undef else .arr id sz off n
 | .ptr id off => bif D id then .undef else .ptr id off
 | .bptr T sz id => bif D id then .undef else .bptr T sz id
 | .rptr cs => .rptr cs
 | .tuple cs => .tuple (j4 D cs)
 | .func f cs => .func f (j4 D cs)
 | .mp tok kvs => bif D tok then .undef else .mp tok kvs
 | .mpr tok sz ty tk kvs => bif D tok then .undef else .mpr tok sz ty tk kvs
 | .stk tok sz es => bif D tok then .undef else .stk tok sz es
def j4 (D : Nat → Bool) : List AV → List AV
 | [] => []
 | x :: r => x.dem D :: j4 D r
end
theorem gM (D : Nat → Bool) : ∀ l, j4 D l = l.map (AV.dem D)
 | [] => rfl
 | x :: r => by simp [j4, gM D r]
structure EvO (D : Nat → Bool) (w : World) (g : Gh) (w' : World) (g' : Gh) : Prop where
 ev : Ev w g.st w' g'.st
 ow : ∀ id b, D id = false → g.ow id = some b → g'.ow id = some b
 shape : ∀ id b c e, D id = false → g.ow id = some b → w.heap[b]? = some (.cells c e (0, 0)) →
  ∃ c' : Array Value, w'.heap[b]? = some (.cells c' e (0, 0)) ∧ c'.size = c.size
 tip : ∀ id b o, D id = false → g.ow id = some b → g'.st b o → g.st b o
 mp : ∀ id b es k, D id = false → g.ow id = some b → w.heap[b]? = some (.map es k) → w'.heap[b]? = some (.map es k)
 lo : ∀ i, MZ ≤ i → D i = false
 stab : ∀ id b o, D id = false → g.ow id = some b → g.st b o → w'.heap[b]? = w.heap[b]?
theorem xd {D : Nat → Bool} (lo : ∀ i, MZ ≤ i → D i = false) (tok sz ty : Nat) (tk : Option (List UInt8)) (i : Nat) (kv : List UInt8 × List PV) : (lq tok sz ty tk i kv).dem D = lq tok sz ty tk i kv := by
 unfold lq
 split
 ·rfl
 ·simp only [AV.dem]
  rw [lo (tok + MZ * (i + 1)) (by unfold MZ; omega)]
  rfl
theorem ARep.dem {D : Nat → Bool} {w w' : World} {g g' : Gh} (hev : EvO D w g w' g') {x : AV} {v : Value} (h : ARep w g x v) : ARep w' g' (x.dem D) v := by
 induction h with
 | undef v => simp only [AV.dem]; exact .undef _
 | p h => simp only [AV.dem]; exact .p (h.mono hev.ev)
 | agg hl h ih =>
  simp only [AV.dem, gM]
  refine .agg (by simpa using hl) fun i c v h1 h2 => ?_
  simp only [List.getElem?_map, Option.map_eq_some_iff] at h1
  obtain ⟨c0, h1, rfl⟩ := h1
  exact ih i c0 v h1 h2
 | vecn tok sz ty =>
  simp only [AV.dem]
  cases D tok
  ·exact .vecn _ _ _
  ·exact .p .nils
 | vece tok sz a =>
  simp only [AV.dem]
  cases D tok
  ·exact .vece _ _ _
  ·exact .p (.nile a)
 | vec how hb hcs hsz hst hr hty =>
  simp only [AV.dem]
  cases hD : D _
  ·obtain ⟨c', hb', hs'⟩ := hev.shape _ _ _ _ hD how hb
   refine .vec (hev.ow _ _ hD how) hb' (hs'.trans hcs) hsz (fun o => ⟨fun h => (hst o).1 (hev.tip _ _ o hD how h), fun h => (hev.ev _ _ ((hst o).2 h)).1⟩) (hr.mono hev.ev) hty
  ·exact .p (hr.mono hev.ev)
 | arr how hb hcs hn =>
  simp only [AV.dem]
  cases hD : D _
  ·obtain ⟨c', hb', hs'⟩ := hev.shape _ _ _ _ hD how hb
   exact .arr (hev.ow _ _ hD how) hb' (hs'.trans hcs) hn
  ·exact .undef _
 | ptr how =>
  simp only [AV.dem]
  cases hD : D _
  ·exact .ptr (hev.ow _ _ hD how)
  ·exact .undef _
 | bptrn how hb hcs =>
  simp only [AV.dem]
  cases hD : D _
  ·obtain ⟨c', hb', hs'⟩ := hev.shape _ _ _ _ hD how hb
   exact .bptrn (hev.ow _ _ hD how) hb' (hs'.trans hcs)
  ·exact .undef _
 | bptr how hb hcs =>
  simp only [AV.dem]
  cases hD : D _
  ·obtain ⟨c', hb', hs'⟩ := hev.shape _ _ _ _ hD how hb
   exact .bptr (hev.ow _ _ hD how) hb' (hs'.trans hcs)
  ·exact .undef _
 | rptr cf hc hr =>
  simp only [AV.dem]
  exact .rptr cf (fun j c h => ⟨(hev.ev _ _ (hc j c h).1).1, (hev.ev _ _ (hc j c h).1).2.trans (hc j c h).2⟩) (fun j c h => (hr j c h).mono hev.ev)
 | tuple hl h ih =>
  simp only [AV.dem, gM]
  refine .tuple (by simpa using hl) fun i c v h1 h2 => ?_
  simp only [List.getElem?_map, Option.map_eq_some_iff] at h1
  obtain ⟨c0, h1, rfl⟩ := h1
  exact ih i c0 v h1 h2
 | func hl h ih =>
  simp only [AV.dem, gM]
  refine .func (by simpa using hl) fun i c v h1 h2 => ?_
  simp only [List.getElem?_map, Option.map_eq_some_iff] at h1
  obtain ⟨c0, h1, rfl⟩ := h1
  exact ih i c0 v h1 h2
 | mp how hb hn hd hk hv =>
  simp only [AV.dem]
  cases hD : D _
  ·exact .mp (hev.ow _ _ hD how) (hev.mp _ _ _ _ hD how hb) hn hd hk (fun i e kv h1 h2 => (hv i e kv h1 h2).mono hev.ev)
  ·exact .undef _
 | mpr how hb hn hd hk hv ih =>
  simp only [AV.dem]
  cases hD : D _
  ·exact .mpr (hev.ow _ _ hD how) (hev.mp _ _ _ _ hD how hb) hn hd hk (fun i e kv h1 h2 => by have := ih i e kv h1 h2; rwa [xd hev.lo] at this)
  ·exact .undef _
 | stkn tok sz =>
  simp only [AV.dem]
  cases D tok
  ·exact .stkn _ _
  ·exact .undef _
 | stke tok sz a =>
  simp only [AV.dem]
  cases D tok
  ·exact .stke _ _ _
  ·exact .undef _
 | stk how hb hcs hlen hsz hone hst hr =>
  simp only [AV.dem]
  cases hD : D _
  ·exact .stk (hev.ow _ _ hD how) ((hev.stab _ _ _ hD how ((hst _).2 rfl)).trans hb) hcs hlen hsz hone (fun o => ⟨fun h => (hst o).1 (hev.tip _ _ o hD how h), fun h => (hev.ev _ _ ((hst o).2 h)).1⟩) (fun i x j p h1 h2 => by obtain ⟨v, h3, h4⟩ := hr i x j p h1 h2; exact ⟨v, h3, h4.mono hev.ev⟩)
  ·exact .undef _
theorem ARep.mono {w w' : World} {g g' : Gh} (hev : EvO (fun _ => false) w g w' g') {x : AV} {v : Value} (h : ARep w g x v) : ARep w' g' x v := by
 induction h with
 | undef v => exact .undef _
 | p h => exact .p (h.mono hev.ev)
 | agg hl h ih => exact .agg hl ih
 | vecn tok sz ty => exact .vecn _ _ _
 | vece tok sz a => exact .vece _ _ _
 | vec how hb hcs hsz hst hr hty =>
  obtain ⟨c', hb', hs'⟩ := hev.shape _ _ _ _ rfl how hb
  exact .vec (hev.ow _ _ rfl how) hb' (hs'.trans hcs) hsz (fun o => ⟨fun h => (hst o).1 (hev.tip _ _ o rfl how h), fun h => (hev.ev _ _ ((hst o).2 h)).1⟩) (hr.mono hev.ev) hty
 | arr how hb hcs hn =>
  obtain ⟨c', hb', hs'⟩ := hev.shape _ _ _ _ rfl how hb
  exact .arr (hev.ow _ _ rfl how) hb' (hs'.trans hcs) hn
 | ptr how => exact .ptr (hev.ow _ _ rfl how)
 | bptrn how hb hcs =>
  obtain ⟨c', hb', hs'⟩ := hev.shape _ _ _ _ rfl how hb
  exact .bptrn (hev.ow _ _ rfl how) hb' (hs'.trans hcs)
 | bptr how hb hcs =>
  obtain ⟨c', hb', hs'⟩ := hev.shape _ _ _ _ rfl how hb
  exact .bptr (hev.ow _ _ rfl how) hb' (hs'.trans hcs)
 | rptr cf hc hr => exact .rptr cf (fun j c h => ⟨(hev.ev _ _ (hc j c h).1).1, (hev.ev _ _ (hc j c h).1).2.trans (hc j c h).2⟩) (fun j c h => (hr j c h).mono hev.ev)
 | tuple hl h ih => exact .tuple hl ih
 | func hl h ih => exact .func hl ih
 | mp how hb hn hd hk hv => exact .mp (hev.ow _ _ rfl how) (hev.mp _ _ _ _ rfl how hb) hn hd hk (fun i e kv h1 h2 => (hv i e kv h1 h2).mono hev.ev)
 | mpr how hb hn hd hk hv ih => exact .mpr (hev.ow _ _ rfl how) (hev.mp _ _ _ _ rfl how hb) hn hd hk ih
 | stkn tok sz => exact .stkn _ _
 | stke tok sz a => exact .stke _ _ _
 | stk how hb hcs hlen hsz hone hst hr =>
  exact .stk (hev.ow _ _ rfl how) ((hev.stab _ _ _ rfl how ((hst _).2 rfl)).trans hb) hcs hlen hsz hone (fun o => ⟨fun h => (hst o).1 (hev.tip _ _ o rfl how h), fun h => (hev.ev _ _ ((hst o).2 h)).1⟩) (fun i x j p h1 h2 => by obtain ⟨v, h3, h4⟩ := hr i x j p h1 h2; exact ⟨v, h3, h4.mono hev.ev⟩)
structure AS where
 sl : List (Nat × AV)
 ob : List (Nat × List AV)
def AS.get (s : AS) (i : Nat) : AV := (look s.sl i).getD .undef
def AS.put (s : AS) (dst : Option Nat) (x : AV) : AS :=
 match dst with
 | some d => { s with sl := (d, x) :: s.sl }
 | none => s
def jY (w : World) (g : Gh) (id : Nat) (cs : List AV) : Prop :=
 ∃ b c e, g.ow id = some b ∧ w.heap[b]? = some (.cells c e (0, 0)) ∧ cs.length ≤ c.size ∧ (∀ o, ¬ g.st b o) ∧
  ∀ (i : Nat) x, cs[i]? = some x → ∃ v, c[i]? = some v ∧ ARep w g x v
structure Base where
 w : World
 st : Nat → Nat → Prop
 ow : Nat → Option Nat
 gl : kz w st
 lo : ∀ i b, ow i = some b → i < MZ
def iU (ow : Nat → Option Nat) (w w' : World) : Prop := ∀ (i b : Nat) (c : Array Value) (e : TypeId), M1 ≤ i → ow i = some b → w.heap[b]? = some (.cells c e (0, 0)) → ∃ c' : Array Value, w'.heap[b]? = some (.cells c' e (0, 0)) ∧ c'.size = c.size
theorem iU.refl (ow : Nat → Option Nat) (w : World) : iU ow w w := fun _ _ c _ _ _ h => ⟨c, h, rfl⟩
theorem iU.next {ow : Nat → Option Nat} {w w' w'' : World} (h : iU ow w w')
  (k : ∀ (i b : Nat) (c : Array Value) (e : TypeId), M1 ≤ i → ow i = some b → w'.heap[b]? = some (.cells c e (0, 0)) → ∃ c' : Array Value, w''.heap[b]? = some (.cells c' e (0, 0)) ∧ c'.size = c.size) : iU ow w w'' := by
 intro i b c e h1 h2 h3
 obtain ⟨c1, h4, h5⟩ := h i b c e h1 h2 h3
 obtain ⟨c2, h6, h7⟩ := k i b c1 e h1 h2 h4
 exact ⟨c2, h6, h7.trans h5⟩
def B5 (w w' : World) : Prop := (∀ (b : Nat) (c : Array Value) (e : TypeId), w.heap[b]? = some (.cells c e (0, 0)) → ∃ c' : Array Value, w'.heap[b]? = some (.cells c' e (0, 0)) ∧ c'.size = c.size) ∧
 ∀ (b : Nat) (o : Obj), w.heap.size ≤ b → w'.heap[b]? = some o → ∃ c e, o = .cells c e (0, 0)
structure St (n : Nat) (w0 : Base) (F : Nat → Prop) (g : Gh) (s : AS) (a : Act) (w : World) : Prop where
 nd : a.defers = []
 sz : a.tmps.size = n
 sl : ∀ i, ARep w g (s.get i) (a.tmps.getD i Go.undef)
 ob : ∀ id cs, look s.ob id = some cs → jY w g id cs
 inj : ∀ i j b, g.ow i = some b → g.ow j = some b → i = j
 own : ∀ i b, g.ow i = some b → b < w.heap.size ∧ ¬ F b
 lt : ∀ b o, g.st b o → b < w.heap.size
 fl : ∀ b, F b → b < w0.w.heap.size
 fr : ∀ b, F b → w.heap[b]? = w0.w.heap[b]?
 os : w.os = w0.w.os
 out : w.output = w0.w.output
 tape : w.tape = w0.w.tape
 size : w0.w.heap.size ≤ w.heap.size
 stf : ∀ b, F b → ∀ o, g.st b o ↔ w0.st b o
 owf : ∀ i, M1 ≤ i → i < MZ → g.ow i = w0.ow i
 shf : iU w0.ow w0.w w
 nst : ∀ i b, M1 ≤ i → w0.ow i = some b → ∀ o, ¬ g.st b o
 ev0 : Ev w0.w w0.st w g.st
theorem St.ok0 {n : Nat} {w0 : Base} {F : Nat → Prop} {g : Gh} {s : AS} {a : Act} {w : World} (h : St n w0 F g s a w) : Ok0 w g.st := ⟨h.lt, w0.gl.mono h.ev0⟩
theorem bn {α : Type} (j i : Nat) (v : α) (r : List (Nat × α)) : look ((j, v) :: r) i = if j = i then some v else look r i := by
 simp only [look]
 cases h : Nat.beq j i
 ·have : j ≠ i := fun e => by subst e; simp at h
  simp [this]
 ·have : j = i := Nat.eq_of_beq_eq_true h
  simp [this]
theorem St.put {n : Nat} {w0 : Base} {w : World} {F : Nat → Prop} {g : Gh} {s : AS} {a : Act} (h : St n w0 F g s a w) {d : Option Nat} (hd : ∀ t, d = some t → t < n)
  {x : AV} {v : Value} (hx : ARep w g x v) : St n w0 F g (s.put d x) (a.put d v) w := by
 cases d with
 | none => exact h
 | some t =>
  have ht := hd t rfl
  refine { h with sz := by simpa [Act.put] using h.sz, sl := fun i => ?_, nd := h.nd }
  simp only [AS.get, AS.put, bn, Act.put]
  by_cases e : t = i
  ·subst e
   have : t < a.tmps.size := by rw [h.sz]; exact ht
   simpa [Array.getD, this] using hx
  ·have h2 := h.sl i
   simp only [AS.get] at h2
   simp only [if_neg e]
   have e3 : (a.tmps.setIfInBounds t v).getD i Go.undef = a.tmps.getD i Go.undef := by
    simp only [Array.getD_eq_getD_getElem?, Array.getElem?_setIfInBounds, if_neg e]
   rw [e3]; exact h2
def AV.sub (x y : AV) : Prop := ∀ w g v, ARep w g x v → ARep w g y v
theorem AV.sub_refl (x : AV) : x.sub x := fun _ _ _ h => h
theorem AV.sub_of_eq {x y : AV} (h : x = y) : x.sub y := h ▸ AV.sub_refl x
theorem PRep.nil_inv {w : World} {st : Nat → Nat → Prop} {v : Value} (h : PRep w st (.slice []) v) :
  v = .slice none 0 0 ∨ ∃ a cap, v = .slice (some a) 0 cap := by
 cases h with
 | nils => exact .inl rfl
 | nile a => exact .inr ⟨_, _, rfl⟩
 | slice sz cf hcap hsz hone hc hr => exact .inr ⟨_, _, rfl⟩
theorem AV.sub_vec (tok sz ty : Nat) (es : List PV) : (AV.vec tok sz ty es).sub (.p (.slice es)) := by
 intro w g v h
 cases h with
 | vecn => exact .p .nils
 | vece _ _ a => exact .p (.nile a)
 | vec how hb hcs hsz hst hr hty => exact .p hr
theorem AV.sub_nilv : (AV.p (.val (.slice none 0 0))).sub (.p (.slice [])) := by
 intro w g v h
 cases h with
 | p h => cases h; exact .p .nils
theorem AV.sub_nilvec (tok sz ty : Nat) : (AV.p (.val (.slice none 0 0))).sub (.vec tok sz ty []) := by
 intro w g v h
 cases h with
 | p h => cases h; exact .vecn _ _ _
structure AS.le (s t : AS) : Prop where
 sl : ∀ j x, look t.sl j = some x → (s.get j).sub x
 ob : ∀ id cs, look t.ob id = some cs → ∃ ds, look s.ob id = some ds ∧ cs.length ≤ ds.length ∧ ∀ (i : Nat) c d, cs[i]? = some c → ds[i]? = some d → d.sub c
theorem St.weaken {n : Nat} {w0 : Base} {w : World} {F : Nat → Prop} {g : Gh} {s t : AS} {a : Act} (h : St n w0 F g s a w) (hle : s.le t) : St n w0 F g t a w := by
 refine { h with sl := fun i => ?_, ob := fun id cs hc => ?_ }
 ·unfold AS.get
  cases ht : look t.sl i with
  | none => exact .undef _
  | some x => exact hle.sl i x ht _ _ _ (h.sl i)
 ·obtain ⟨ds, h1, h2, h3⟩ := hle.ob id cs hc
  obtain ⟨b, c, e, k1, k2, k3, k4, k5⟩ := h.ob id ds h1
  refine ⟨b, c, e, k1, k2, by omega, k4, fun i x hx => ?_⟩
  have hi : i < ds.length := by
   have := (List.getElem?_eq_some_iff.1 hx).1; omega
  obtain ⟨v, hv, hr⟩ := k5 i ds[i] (List.getElem?_eq_getElem hi)
  exact ⟨v, hv, h3 i x _ hx (List.getElem?_eq_getElem hi) _ _ _ hr⟩
end Go.Ab
end
section
set_option linter.unusedVariables false
set_option linter.unusedSimpArgs false
set_option linter.unnecessarySimpa false
namespace Go.Ab
inductive TK where
 | bool | int (k : IntKind) | string | ptr (e : Nat) | slice (e : Nat) | array (len e : Nat) | struct (fs : List (Nat × Nat)) | iface | map (k e : Nat) | other
def kindOf : TypeDesc → TK
 | .bool => .bool
 | .int k => .int k
 | .string => .string
 | .pointer e => .ptr e
 | .slice e => .slice e
 | .array n e => .array n e
 | .struct fs => .struct (fs.toList.map fun f => (f.offset, f.type))
 | .interface _ => .iface
 | .map k e => .map k e
 | _ => .other
structure TI where
 k : TK
 size : Nat
 bytes : Nat
 zero : List Value
def tyOk (P : Program) (t : Nat) (i : TI) : Prop :=
 (P.underlying t).map kindOf = some i.k ∧ (P.info? t).map (fun j => (j.size, j.bytes, j.zero.map (·.cells.toList))) = some (i.size, i.bytes, some i.zero)
def dr (P : Program) : List (Nat × TI) → Prop
 | [] => True
 | (t, i) :: r => tyOk P t i ∧ dr P r
structure Cx where
 P : Program
 tt : List (Nat × TI)
 good : dr P tt
 n : Nat
 nl : Nat.ble n M1 = true
 w0 : Base
 F : Nat → Prop
def awp (C : Cx) (c : Code) (Q : Exit → AS → Prop) (s : AS) : Prop :=
 ∀ g a w, St C.n C.w0 C.F g s a w → c.wp C.P (fun e a' w' => ∃ g' s', St C.n C.w0 C.F g' s' a' w' ∧ Q e s') a w
def rwp (C : Cx) (ops : Array Oper) (l : List Nat) (K : AS → Prop) (s : AS) : Prop :=
 ∀ g a w, St C.n C.w0 C.F g s a w → wpOps C.P ops (fun e a' w' => e = .normal ∧ ∃ g' s', St C.n C.w0 C.F g' s' a' w' ∧ K s') l a w
def aU (C : Cx) (o : Oper) (K : AS → Prop) (s : AS) : Prop :=
 ∀ g a w, St C.n C.w0 C.F g s a w → o.wp C.P a w (fun a' w' => ∃ g' s', St C.n C.w0 C.F g' s' a' w' ∧ K s') (fun _ _ _ => False)
theorem lr {P : Program} {o : Oper} {a : Act} {next next' : Act → World → Prop} {Q Q' : Exit → Act → World → Prop} {r : Result Next}
  (hn : ∀ a w, next a w → next' a w) (hq : ∀ e a w, Q e a w → Q' e a w) (h : o.upon P a next Q r) : o.upon P a next' Q' r := by
 cases r with
 | halt x w =>
  cases x <;> simp only [Oper.upon] at h ⊢
  exact hq _ _ _ h
 | ok x w =>
  cases x <;> simp only [Oper.upon] at h ⊢
  case value v => exact hn _ _ h
  case skip => exact hn _ _ h
  case defer d => exact hn _ _ h
  case enter f args =>
   refine h.mono fun e w' h => ?_
   cases e with
   | returned v => exact hn _ _ h
   | panicked c => exact hq _ _ _ h
   | outgrown => obtain ⟨a0, w1, h⟩ := h; exact ⟨a0, w1, hq _ _ _ h⟩
  case row r args => exact h.mono fun v w' h => hn _ _ h
theorem aU.mono {C : Cx} {o : Oper} {K K' : AS → Prop} {s : AS} (hk : ∀ s, K s → K' s) (h : aU C o K s) : aU C o K' s :=
 fun g a w hs => lr (fun _ _ ⟨g', s', h1, h2⟩ => ⟨g', s', h1, hk _ h2⟩) (fun _ _ _ h => h) (h g a w hs)
def mB (K : AS → Prop) (Q : Exit → AS → Prop) : Exit → AS → Prop
 | .normal, s => K s
 | e, s => Q e s
def iW (id : Nat) (Q : Exit → AS → Prop) : Exit → AS → Prop
 | .exit id', s => if id' = id then Q .normal s else Q (.exit id') s
 | e, s => Q e s
theorem mt {C : Cx} {c : Code} {Q Q' : Exit → AS → Prop} {s : AS} (hq : ∀ e s, Q e s → Q' e s) (h : awp C c Q s) : awp C c Q' s :=
 fun g a w hs => wp_mono (h g a w hs) fun _ _ _ ⟨g', s', h1, h2⟩ => ⟨g', s', h1, hq _ _ h2⟩
theorem u5 {C : Cx} {c : Code} {Q : Exit → AS → Prop} {s t : AS} (hle : s.le t) (h : awp C c Q t) : awp C c Q s :=
 fun g a w hs => h g a w (hs.weaken hle)
theorem bE {C : Cx} {x y : Code} {Q : Exit → AS → Prop} {s : AS} (h : awp C x (mB (awp C y Q) Q) s) : awp C (.seq x y) Q s := by
 intro g a w hs
 refine wp_seq (wp_mono (h g a w hs) ?_)
 rintro e a' w' ⟨g', s', h1, h2⟩
 cases e with
 | normal => exact h2 g' a' w' h1
 | exit id => exact ⟨g', s', h1, h2⟩
 | goto l => exact ⟨g', s', h1, h2⟩
 | ret => exact ⟨g', s', h1, h2⟩
 | panic ch => exact ⟨g', s', h1, h2⟩
 | outgrown => exact ⟨g', s', h1, h2⟩
theorem dI {C : Cx} {id : Nat} {c : Code} {Q : Exit → AS → Prop} {s : AS} (h : awp C c (iW id Q) s) : awp C (.block id c) Q s := by
 intro g a w hs
 refine wp_block (wp_mono (h g a w hs) ?_)
 rintro e a' w' ⟨g', s', h1, h2⟩
 cases e with
 | exit id' =>
  simp only [iW] at h2
  simp only [Exit.inBlock]
  split
  ·rename_i e; rw [if_pos e] at h2; exact ⟨g', s', h1, h2⟩
  ·rename_i e; rw [if_neg e] at h2; exact ⟨g', s', h1, h2⟩
 | normal => exact ⟨g', s', h1, h2⟩
 | goto l => exact ⟨g', s', h1, h2⟩
 | ret => exact ⟨g', s', h1, h2⟩
 | panic ch => exact ⟨g', s', h1, h2⟩
 | outgrown => exact ⟨g', s', h1, h2⟩
theorem cZ {C : Cx} {Q : Exit → AS → Prop} {s : AS} (h : Q .normal s) : awp C .skip Q s :=
 fun g a w hs => wp_skip ⟨g, s, hs, h⟩
theorem dB {C : Cx} {l : Nat} {Q : Exit → AS → Prop} {s : AS} (h : Q .normal s) : awp C (.label l) Q s :=
 fun g a w hs => wp_label ⟨g, s, hs, h⟩
theorem d8 {C : Cx} {id : Nat} {Q : Exit → AS → Prop} {s : AS} (h : Q (.exit id) s) : awp C (.exit id) Q s :=
 fun g a w hs => wp_exit ⟨g, s, hs, h⟩
theorem cY {C : Cx} {Q : Exit → AS → Prop} {s : AS} (h : Q .ret s) : awp C .ret Q s :=
 fun g a w hs => wp_ret ⟨g, s, hs, h⟩
def cst : Value → PV
 | .agg vs => .agg (vs.toList.map .val)
 | v => .val v
def AS.ev (s : AS) : Operand → AV
 | .tmp t => s.get t
 | .const v => .p (cst v)
 | .global g => ((lK g).map .rptr).getD .undef
 | .func f => .func (.func f) []
theorem zR (w : World) (st : Nat → Nat → Prop) (v : Value) : PRep w st (cst v) v := by
 unfold cst
 split
 ·rename_i vs
  refine .agg (by simp) fun i c v h1 h2 => ?_
  simp only [List.getElem?_map, Array.getElem?_toList, h2, Option.map_some, Option.some.injEq] at h1
  subst h1
  exact .val _
 ·exact .val _
theorem x6 {n : Nat} {w0 : Base} {w : World} {F : Nat → Prop} {g : Gh} {s : AS} {a : Act} (h : St n w0 F g s a w) (x : Operand) : ARep w g (s.ev x) (a.eval x) := by
 cases x with
 | tmp t => exact h.sl t
 | const v => exact .p (zR _ _ _)
 | global q =>
  simp only [AS.ev]
  cases h2 : lK q with
  | none => exact .undef _
  | some cs =>
   have hg := w0.gl.mono h.ev0
   refine .rptr (fun j => (w.cell? ⟨q, j, none⟩).getD Go.undef) (fun j c hc => ?_) (fun j c hc => ?_)
   ·obtain ⟨k1, v, k2, k3⟩ := (hg q cs h2).1 j c hc
    rw [Nat.zero_add, k2]; exact ⟨k1, rfl⟩
   ·obtain ⟨k1, v, k2, k3⟩ := (hg q cs h2).1 j c hc
    rw [k2]; exact k3
 | func f => exact .func rfl (fun i c v h => by simp at h)
theorem qM {w : World} {g : Gh} {x v : Value} (h : ARep w g (.p (.val x)) v) : v = x := by
 cases h with
 | p h => cases h; rfl
theorem Bo {n : Nat} {w0 : Base} {w : World} {F : Nat → Prop} {g : Gh} {s : AS} {a : Act} (h : St n w0 F g s a w) {x : Operand} {v : Value} (hx : s.ev x = .p (.val v)) : a.eval x = v := by
 have := x6 h x
 rw [hx] at this
 exact qM this
theorem rI {C : Cx} {c : Operand} {x y : Code} {Q : Exit → AS → Prop} {s : AS} {b : Bool} (hc : s.ev c = .p (.val (.bool b)))
  (h1 : b = true → awp C x Q s) (h2 : b = false → awp C y Q s) : awp C (.cond c x y) Q s := by
 intro g a w hs
 have he := Bo hs hc
 cases b
 ·exact wp_cond_false he (h2 rfl g a w hs)
 ·exact wp_cond_true he (h1 rfl g a w hs)
theorem yJ {C : Cx} {c : Operand} {x y : Code} {Q : Exit → AS → Prop} {s : AS} {b : Bool} (hc : s.ev c = .p (.val (.bool b))) (hb : b = true)
  (h1 : awp C x Q s) : awp C (.cond c x y) Q s := rI hc (fun _ => h1) (fun h => by rw [hb] at h; cases h)
theorem xI {C : Cx} {c : Operand} {x y : Code} {Q : Exit → AS → Prop} {s : AS} {b : Bool} (hc : s.ev c = .p (.val (.bool b))) (hb : b = false)
  (h1 : awp C y Q s) : awp C (.cond c x y) Q s := rI hc (fun h => by rw [hb] at h; cases h) (fun _ => h1)
theorem lz {C : Cx} {c : Code} {Q : Exit → AS → Prop} {s : AS} {σ : Type} (mk : σ → AS) (I : σ → Prop) (μ : σ → Nat) (k0 : σ)
  (h0 : I k0) (hle : s.le (mk k0))
  (round : ∀ k, I k → awp C c (mB (fun s' => ∃ k', I k' ∧ μ k' < μ k ∧ s'.le (mk k')) Q) (mk k)) : awp C (.loop c) Q s := by
 refine u5 hle ?_
 intro g a w hs
 let J : Act → World → Nat → Prop := fun a w m => ∃ g k, St C.n C.w0 C.F g (mk k) a w ∧ I k ∧ μ k = m
 have hJ : ∀ a w m, J a w m → ∃ m0, J a w m0 ∧ ∀ m', J a w m' → m0 ≤ m' := by
  intro a w m
  induction m using Nat.strongRecOn with
  | _ m ih =>
   intro hm
   by_cases h : ∃ m', m' < m ∧ J a w m'
   ·obtain ⟨m', h1, h2⟩ := h; exact ih m' h1 h2
   ·exact ⟨m, hm, fun m' h' => Nat.le_of_not_lt fun hlt => h ⟨m', hlt, h'⟩⟩
 let M : Act → World → Nat := fun a w => by
  classical
  exact if h : ∃ m0, J a w m0 ∧ ∀ m', J a w m' → m0 ≤ m' then Classical.choose h else 0
 have hM : ∀ a w m, J a w m → J a w (M a w) ∧ M a w ≤ m := by
  intro a w m hm
  have h := hJ a w m hm
  have e : M a w = Classical.choose h := by simp only [M]; rw [dif_pos h]
  rw [e]
  exact ⟨(Classical.choose_spec h).1, (Classical.choose_spec h).2 m hm⟩
 refine wp_loop (fun a w => ∃ m, J a w m) M ⟨μ k0, g, k0, hs, h0, rfl⟩ ?_
 rintro a w ⟨m, hm⟩
 obtain ⟨⟨g1, k1, hs1, hI1, hμ1⟩, _⟩ := hM a w m hm
 refine wp_mono (round k1 hI1 g1 a w hs1) ?_
 rintro e a' w' ⟨g', s', h1, h2⟩
 cases e with
 | normal =>
  obtain ⟨k', hI', hlt, hle'⟩ := h2
  have hj : J a' w' (μ k') := ⟨g', k', h1.weaken hle', hI', rfl⟩
  refine ⟨⟨_, hj⟩, ?_⟩
  have := (hM a' w' _ hj).2
  omega
 | exit id => exact ⟨g', s', h1, h2⟩
 | goto l => exact ⟨g', s', h1, h2⟩
 | ret => exact ⟨g', s', h1, h2⟩
 | panic ch => exact ⟨g', s', h1, h2⟩
 | outgrown => exact ⟨g', s', h1, h2⟩
theorem vp {C : Cx} {id : Nat} {ops : Array Oper} {Q : Exit → AS → Prop} {s : AS} {l : List Nat} (hl : List.range ops.size = l)
  (h : rwp C ops l (Q .normal) s) : awp C (.region id ops false) Q s := by
 intro g a w hs
 refine wp_region ?_
 rw [hl]
 have := h g a w hs
 have mono : ∀ (l : List Nat) (a : Act) (w : World) (Q1 Q2 : Exit → Act → World → Prop), (∀ e a w, Q1 e a w → Q2 e a w) → wpOps C.P ops Q1 l a w → wpOps C.P ops Q2 l a w := by
  intro l
  induction l with
  | nil => intro a w Q1 Q2 h12 h; exact h12 _ _ _ h
  | cons i r ih =>
   intro a w Q1 Q2 h12 h
   simp only [wpOps] at h ⊢
   cases ho : ops[i]? with
   | none => simp only [ho] at h; exact ih _ _ _ _ h12 h
   | some o =>
    simp only [ho] at h
    dsimp only
    split
    ·rename_i hw
     rw [if_pos hw] at h
     rcases h with h | ⟨h, a0, w1, hq⟩
     ·exact .inl (lr (fun a w h => ih a w _ _ h12 h) h12 h)
     ·exact .inr ⟨h, a0, w1, h12 _ _ _ hq⟩
    ·rename_i hw
     rw [if_neg hw] at h
     exact ih _ _ _ _ h12 h
 refine mono _ _ _ _ _ ?_ this
 rintro e a' w' ⟨rfl, g', s', h1, h2⟩
 exact ⟨g', s', h1, h2⟩
theorem ol {C : Cx} {ops : Array Oper} {K : AS → Prop} {s : AS} (h : K s) : rwp C ops [] K s :=
 fun g a w hs => ⟨rfl, g, s, hs, h⟩
theorem yb {C : Cx} {ops : Array Oper} {K : AS → Prop} {s : AS} {i : Nat} {r : List Nat} {o : Oper} (ho : ops[i]? = some o) (hg : o.guard = none)
  (h : aU C o (rwp C ops r K) s) : rwp C ops (i :: r) K s := by
 intro g a w hs
 simp only [wpOps, ho, Region.wanted, hg, if_true]
 exact .inl (lr (fun a' w' ⟨g', s', h1, h2⟩ => h2 g' a' w' h1) (fun _ _ _ h => h.elim) (h g a w hs))
theorem rn {n : Nat} {w0 : Base} {w : World} {F : Nat → Prop} {g : Gh} {s : AS} {a : Act} (hs : St n w0 F g s a w) {ops : Array Oper} {j t : Nat} (hj : (ops[j]?).bind (·.dst) = some t)
  {b : Bool} (hv : s.get t = .p (.val (.bool b))) : yielded ops a.tmps j = some b := by
 have h1 := hs.sl t
 rw [hv] at h1
 have h2 := qM h1
 simp only [yielded, hj, Option.bind_some]
 rw [Array.getD_eq_getD_getElem?] at h2
 cases h3 : a.tmps[t]? with
 | none => rw [h3] at h2; simp [Go.undef] at h2
 | some v => rw [h3] at h2; simp only [Option.getD_some] at h2; subst h2; rfl
theorem s9 {C : Cx} {ops : Array Oper} {K : AS → Prop} {s : AS} {i : Nat} {r : List Nat} {o : Oper} {j : Nat} {want : Bool} {t : Nat} {b : Bool} (ho : ops[i]? = some o) (hg : o.guard = some (j, want))
  (hj : (ops[j]?).bind (·.dst) = some t) (hv : s.get t = .p (.val (.bool b))) (hd : ∀ t, o.dst = some t → t < C.n)
  (h1 : b = want → aU C o (rwp C ops r K) s) (h2 : b = !want → rwp C ops r K (s.put o.dst (.p (.val Go.undef)))) : rwp C ops (i :: r) K s := by
 intro g a w hs
 have hy := rn hs hj hv
 simp only [wpOps, ho, Region.wanted, hg, hy]
 by_cases e : b = want
 ·subst e
  simp only [BEq.rfl, if_true]
  exact .inl (lr (fun a' w' ⟨g', s', h1, h2⟩ => h2 g' a' w' h1) (fun _ _ _ h => h.elim) (h1 rfl g a w hs))
 ·have e2 : b = !want := by
   cases b <;> cases want <;> first | rfl | exact absurd rfl e
  have e3 : (some b == some want) = false := by
   cases b <;> cases want <;> first | rfl | exact absurd rfl e
  rw [e3]
  simp only [Bool.false_eq_true, if_false]
  exact h2 e2 g _ w (hs.put hd (.p (.val _)))
theorem nO {C : Cx} {ops : Array Oper} {K : AS → Prop} {s : AS} {i : Nat} {r : List Nat} {o : Oper} {j : Nat} {want : Bool} {t : Nat} {b : Bool} (ho : ops[i]? = some o) (hg : o.guard = some (j, want))
  (hj : (ops[j]?).bind (·.dst) = some t) (hv : s.get t = .p (.val (.bool b))) (hb : b = want)
  (h1 : aU C o (rwp C ops r K) s) : rwp C ops (i :: r) K s := by
 intro g a w hs
 have hy := rn hs hj hv
 simp only [wpOps, ho, Region.wanted, hg, hy]
 subst hb
 simp only [BEq.rfl, if_true]
 exact .inl (lr (fun a' w' ⟨g', s', h1, h2⟩ => h2 g' a' w' h1) (fun _ _ _ h => h.elim) (h1 g a w hs))
theorem tE {C : Cx} {ops : Array Oper} {K : AS → Prop} {s : AS} {i : Nat} {r : List Nat} {o : Oper} {j : Nat} {want : Bool} {t : Nat} {b : Bool} (ho : ops[i]? = some o) (hg : o.guard = some (j, want))
  (hj : (ops[j]?).bind (·.dst) = some t) (hv : s.get t = .p (.val (.bool b))) (hb : b = !want) (hd : ∀ t, o.dst = some t → t < C.n)
  (h2 : rwp C ops r K (s.put o.dst (.p (.val Go.undef)))) : rwp C ops (i :: r) K s :=
 s9 ho hg hj hv hd (fun e => by subst e; cases b <;> simp at hb) (fun _ => h2)
theorem mA {C : Cx} {ops : Array Oper} {K : AS → Prop} {s : AS} {i : Nat} {r : List Nat} {o : Oper} {j : Nat} {want : Bool} {t : Nat} (ho : ops[i]? = some o) (hg : o.guard = some (j, want))
  (hj : (ops[j]?).bind (·.dst) = some t) (hv : s.get t = .p (.val Go.undef)) (hd : ∀ t, o.dst = some t → t < C.n)
  (h2 : rwp C ops r K (s.put o.dst (.p (.val Go.undef)))) : rwp C ops (i :: r) K s := by
 intro g a w hs
 have h1 := hs.sl t
 rw [hv] at h1
 have h3 := qM h1
 have hy : yielded ops a.tmps j = none := by
  simp only [yielded, hj, Option.bind_some]
  rw [Array.getD_eq_getD_getElem?] at h3
  cases h4 : a.tmps[t]? with
  | none => rfl
  | some v => rw [h4] at h3; simp only [Option.getD_some] at h3; subst h3; rfl
 simp only [wpOps, ho, Region.wanted, hg, hy]
 rw [if_neg (by simp)]
 exact h2 g _ w (hs.put hd (.p (.val _)))
def d9 (C : Cx) (ops : Array Oper) (rest : List Oper) (K : AS → Prop) (s : AS) : Prop :=
 ∀ k, ops.toList.drop k = rest → rwp C ops (List.range' k rest.length) K s
theorem b5 {C : Cx} {id : Nat} {ops : Array Oper} {Q : Exit → AS → Prop} {s : AS} (h : d9 C ops ops.toList (Q .normal) s) : awp C (.region id ops false) Q s := by
 refine vp (l := List.range' 0 ops.toList.length) ?_ (h 0 rfl)
 rw [List.range_eq_range', Array.length_toList]
theorem bA {C : Cx} {ops : Array Oper} {K : AS → Prop} {s : AS} (h : K s) : d9 C ops [] K s :=
 fun _ _ => ol h
theorem drop_at {ops : Array Oper} {k : Nat} {o : Oper} {r : List Oper} (h : ops.toList.drop k = o :: r) : ops[k]? = some o ∧ ops.toList.drop (k + 1) = r := by
 constructor
 ·have := congrArg List.head? h
  simpa [List.head?_drop] using this
 ·have := congrArg List.tail h
  simpa [List.tail_drop] using this
theorem aV {C : Cx} {ops : Array Oper} {K : AS → Prop} {s : AS} {r : List Oper} {o : Oper} (hg : o.guard = none)
  (h : aU C o (d9 C ops r K) s) : d9 C ops (o :: r) K s := by
 intro k hk
 obtain ⟨h1, h2⟩ := drop_at hk
 rw [List.length_cons, List.range'_succ]
 exact yb h1 hg (h.mono fun s h => h (k + 1) h2)
theorem vQ {C : Cx} {ops : Array Oper} {K : AS → Prop} {s : AS} {r : List Oper} {o : Oper} {j : Nat} {want : Bool} {t : Nat} {b : Bool} (hg : o.guard = some (j, want))
  (hj : (ops.toList[j]?).bind (·.dst) = some t) (hv : look s.sl t = some (.p (.val (.bool b)))) {d : Nat} (hd : o.dst = some d) (hn : Nat.blt d C.n = true)
  (h1 : b = want → aU C o (d9 C ops r K) s) (h2 : b = !want → d9 C ops r K ⟨(d, .p (.val Go.undef)) :: s.sl, s.ob⟩) : d9 C ops (o :: r) K s := by
 intro k hk
 obtain ⟨h3, h4⟩ := drop_at hk
 rw [List.length_cons, List.range'_succ]
 refine s9 h3 hg (t := t) (b := b) (by simpa using hj) (by simp [AS.get, hv]) (fun t ht => by rw [hd] at ht; cases ht; exact Nat.blt_eq ▸ hn) (fun e => (h1 e).mono fun s h => h (k + 1) h4) (fun e => ?_)
 have := h2 e (k + 1) h4
 rw [hd]
 exact this
theorem kq {C : Cx} {ops : Array Oper} {K : AS → Prop} {s : AS} {r : List Oper} {o : Oper} {j : Nat} {want : Bool} {t : Nat} {b : Bool} (hg : o.guard = some (j, want))
  (hj : (ops.toList[j]?).bind (·.dst) = some t) (hv : look s.sl t = some (.p (.val (.bool b)))) (hb : b = want)
  (h1 : aU C o (d9 C ops r K) s) : d9 C ops (o :: r) K s := by
 intro k hk
 obtain ⟨h3, h4⟩ := drop_at hk
 rw [List.length_cons, List.range'_succ]
 exact nO h3 hg (t := t) (b := b) (by simpa using hj) (by simp [AS.get, hv]) hb (h1.mono fun s h => h (k + 1) h4)
theorem kR {C : Cx} {ops : Array Oper} {K : AS → Prop} {s : AS} {r : List Oper} {o : Oper} {j : Nat} {want : Bool} {t : Nat} {b : Bool} (hg : o.guard = some (j, want))
  (hj : (ops.toList[j]?).bind (·.dst) = some t) (hv : look s.sl t = some (.p (.val (.bool b)))) (hb : b = !want) {d : Nat} (hd : o.dst = some d) (hn : Nat.blt d C.n = true)
  (h2 : d9 C ops r K ⟨(d, .p (.val Go.undef)) :: s.sl, s.ob⟩) : d9 C ops (o :: r) K s :=
 vQ hg hj hv hd hn (fun e => by subst e; cases b <;> simp at hb) (fun _ => h2)
theorem ma {C : Cx} {ops : Array Oper} {K : AS → Prop} {s : AS} {r : List Oper} {o : Oper} {j : Nat} {want : Bool} {t : Nat} (hg : o.guard = some (j, want))
  (hj : (ops.toList[j]?).bind (·.dst) = some t) (hv : look s.sl t = some (.p (.val Go.undef))) {d : Nat} (hd : o.dst = some d) (hn : Nat.blt d C.n = true)
  (h2 : d9 C ops r K ⟨(d, .p (.val Go.undef)) :: s.sl, s.ob⟩) : d9 C ops (o :: r) K s := by
 intro k hk
 obtain ⟨h3, h4⟩ := drop_at hk
 rw [List.length_cons, List.range'_succ]
 refine mA h3 hg (t := t) (by simpa using hj) (by simp [AS.get, hv]) (fun t ht => by rw [hd] at ht; cases ht; exact Nat.blt_eq ▸ hn) ?_
 have := h2 (k + 1) h4
 rw [hd]
 exact this
structure After (w : World) (st : Nat → Nat → Prop) (w' : World) (g' : Gh) : Prop where
 os : w'.os = w.os
 out : w'.output = w.output
 tape : w'.tape = w.tape
 size : w.heap.size ≤ w'.heap.size
 fr : ∀ b, b < w.heap.size → w'.heap[b]? = w.heap[b]?
 own : ∀ i b, g'.ow i = some b → w.heap.size ≤ b ∧ b < w'.heap.size
 inj : ∀ i j b, g'.ow i = some b → g'.ow j = some b → i = j
 lt : ∀ b o, g'.st b o → b < w'.heap.size
 stf : ∀ b, b < w.heap.size → ∀ o, g'.st b o ↔ st b o
def aF (P : Program) (f : FuncId) (args : List PV) (R : AV → Prop) : Prop :=
 ∀ (w : World) (st : Nat → Nat → Prop) (vs : Array Value), Ok0 w st → vs.size = args.length →
  (∀ (i : Nat) c v, args[i]? = some c → vs[i]? = some v → PRep w st c v) →
  Calls P f vs w fun e w' => ∃ v r g', e = .returned v ∧ R r ∧ ARep w' g' r v ∧ After w st w' g'
def kg : List ResultVar → AS → Option (List AV)
 | [], _ => some []
 | .tmp t :: r, s => match look s.sl t, kg r s with
  | some x, some l => some (x :: l)
  | _, _ => none
 | .cell _ _ :: _, _ => none
def lV : List AV → AV
 | [x] => x
 | l => .tuple l
def Bf (fn : Func) (R : AV → Prop) (e : Exit) (s : AS) : Prop := (e = .normal ∨ e = .ret) ∧ ∃ l, kg fn.results.toList s = some l ∧ R (lV l)
def sb (tmps : Array Value) : ResultVar → Sem Value
 | .tmp t => pure (tmps.getD t Go.undef)
 | .cell c t => do loadVar t (← asAddr (tmps.getD c Go.undef))
theorem rL (fn : Func) (tmps : Array Value) : results fn tmps = (do let vs ← fn.results.mapM (sb tmps); pure (if h : vs.size = 1 then vs[0] else .tuple vs)) := rfl
theorem xX {P : Program} {n : Nat} {w0 : Base} {w : World} {F : Nat → Prop} {g : Gh} {s : AS} {a : Act} (hs : St n w0 F g s a w) (rs : List ResultVar) :
  ∀ l, kg rs s = some l → ∃ vs : List Value,
   (rs.mapM (sb a.tmps)).run P w = .ok vs w ∧ vs.length = l.length ∧
    ∀ (i : Nat) c v, l[i]? = some c → vs[i]? = some v → ARep w g c v := by
 induction rs with
 | nil => intro l h; simp only [kg, Option.some.injEq] at h; subst h; exact ⟨[], by simp, rfl, by simp⟩
 | cons r rs ih =>
  intro l h
  cases r with
  | cell c t => simp [kg] at h
  | tmp t =>
   have ht := hs.sl t
   simp only [kg] at h
   split at h
   case h_2 => cases h
   rename_i x l' hx h1
   cases h
   simp only [AS.get, hx, Option.getD_some] at ht
   obtain ⟨vs, h2, h3, h4⟩ := ih l' h1
   refine ⟨a.tmps.getD t Go.undef :: vs, ?_, by simp [h3], ?_⟩
   ·simp only [List.mapM_cons, sb, Sem.run_bind, Sem.run_pure, Result.andThen_ok, h2]
   ·intro i c v h5 h6
    cases i with
    | zero => simp only [List.getElem?_cons_zero, Option.some.injEq] at h5 h6; subst h5 h6; exact ht
    | succ i => simp only [List.getElem?_cons_succ] at h5 h6; exact h4 i c v h5 h6
theorem gP {fn : Func} {R : AV → Prop} {s : AS} {l : List AV} (h : kg fn.results.toList s = some l) (hR : R (lV l)) : Bf fn R .ret s := ⟨.inr rfl, l, h, hR⟩
theorem co {σ : Type} {mk : σ → AS} {I : σ → Prop} {μ : σ → Nat} {k : σ} {Q : Exit → AS → Prop} {s : AS} (k' : σ) (h1 : I k') (h2 : μ k' < μ k) (h3 : s.le (mk k')) :
  mB (fun s' => ∃ k', I k' ∧ μ k' < μ k ∧ s'.le (mk k')) Q .normal s := ⟨k', h1, h2, h3⟩
theorem ql {P : Program} {n : Nat} {w0 : Base} {w : World} {F : Nat → Prop} {g : Gh} {s : AS} {a : Act} (hs : St n w0 F g s a w) (fn : Func) (l : List AV) (h : kg fn.results.toList s = some l) :
  ∃ v, (results fn a.tmps).run P w = .ok v w ∧ ARep w g (lV l) v := by
 obtain ⟨vs, h2, h3, h4⟩ := xX (P := P) hs _ l h
 refine ⟨if h : vs.length = 1 then vs[0] else .tuple vs.toArray, ?_, ?_⟩
 ·rw [rL, Array.mapM_eq_mapM_toList]
  simp only [Sem.run_bind, Sem.run_map, h2, Result.andThen_ok, Sem.run_pure, List.size_toArray]
  congr 1
 ·by_cases e : vs.length = 1
  ·rw [dif_pos e]
   obtain ⟨v, rfl⟩ := List.length_eq_one_iff.1 e
   obtain ⟨x, rfl⟩ := List.length_eq_one_iff.1 (h3.symm.trans e)
   exact h4 0 x v rfl rfl
  ·rw [dif_neg e]
   have e2 : lV l = .tuple l := by
    match l, h3 with
    | [], _ => rfl
    | [x], h3 => exact absurd h3 e
    | x :: y :: r, _ => rfl
   rw [e2]
   exact .tuple (by simpa using h3) (fun i c v h5 h6 => h4 i c v h5 (by simpa using h6))
def ki (args : List PV) : List (Nat × AV) := (args.zipIdx).map fun (x, i) => (i, .p x)
theorem dr.at {P : Program} : ∀ {tt : List (Nat × TI)}, dr P tt → ∀ {t : Nat} {i : TI}, look tt t = some i → tyOk P t i
 | [], _, _, _, h => by simp [look] at h
 | (u, j) :: r, hg, t, i, h => by
  rw [bn] at h
  split at h
  ·rename_i e; subst e; cases h; exact hg.1
  ·exact dr.at hg.2 h
theorem nL (args : List PV) : ∀ (k i : Nat), look ((args.zipIdx k).map fun (x, i) => (i, AV.p x)) i = if k ≤ i then (args[i - k]?).map .p else none := by
 induction args with
 | nil => intro k i; simp [look]
 | cons x r ih =>
  intro k i
  simp only [List.zipIdx_cons, List.map_cons, bn, ih]
  by_cases e : k = i
  ·subst e; simp
  ·rw [if_neg e]
   by_cases h : k ≤ i
   ·rw [if_pos (by omega), if_pos h]
    have : i - k = (i - (k + 1)) + 1 := by omega
    rw [this]; simp
   ·rw [if_neg (by omega), if_neg h]
theorem rc {P : Program} {tt : List (Nat × TI)} (good : dr P tt) {f : FuncId} {fn : Func} {c : Code} {args : List PV} {R : AV → Prop} (hf : P.funcs[f]? = some fn) (hb : fn.body = some c) (hn : args.length ≤ fn.ntmps) (hnl : Nat.ble fn.ntmps M1 = true)
  (h : ∀ w0, awp ⟨P, tt, good, fn.ntmps, hnl, w0, fun b => b < w0.w.heap.size⟩ c (Bf fn R) ⟨ki args, []⟩) : aF P f args R := by
 intro w st vs h0 h1 h2
 refine calls_of_wp hf hb ?_
 have hs : St fn.ntmps ⟨w, st, fun _ => none, h0.gl, fun _ _ h => nomatch h⟩ (fun b => b < w.heap.size) ⟨st, fun _ => none⟩ ⟨ki args, []⟩ { tmps := vs ++ Array.replicate (fn.ntmps - vs.size) Go.undef, defers := [] } w := by
  refine ⟨rfl, ?_, ?_, ?_, ?_, ?_, ?_, ?_, ?_, rfl, rfl, rfl, Nat.le_refl _, fun b _ o => Iff.rfl, fun _ _ _ => rfl, iU.refl _ _, fun i b _ h => (by cases h), Ev.refl _ _⟩
  ·simp only [Array.size_append, Array.size_replicate]; omega
  ·intro i
   have := nL args 0 i
   simp only [AS.get, ki, this, Nat.zero_le, if_true, Nat.sub_zero]
   cases ha : args[i]? with
   | none => exact .undef _
   | some x =>
    have hi : i < args.length := (List.getElem?_eq_some_iff.1 ha).1
    have hi2 : i < vs.size := by omega
    have e : (vs ++ Array.replicate (fn.ntmps - vs.size) Go.undef).getD i Go.undef = vs[i] := by
     simp [Array.getD_eq_getD_getElem?, Array.getElem?_append, hi2]
    simp only [Option.map_some, Option.getD_some]
    rw [e]
    exact .p (h2 i x _ ha (Array.getElem?_eq_getElem hi2))
  ·intro id cs h; simp [look] at h
  ·intro i j b h; simp at h
  ·intro i b h; simp at h
  ·intro b o h; exact h0.lt b o h
  ·intro b h; exact h
  ·intro b h; rfl
 refine wp_mono (h ⟨w, st, fun _ => none, h0.gl, fun _ _ h => nomatch h⟩ _ _ w hs) ?_
 rintro e a' w' ⟨g', s', h3, he, l, hl, hR⟩
 obtain ⟨v, hv, hr⟩ := ql (P := P) h3 fn l hl
 have fin : ∃ v, (results fn a'.tmps).run P w' = .ok v w' ∧ ∃ v1 r g', Ending.returned v = .returned v1 ∧ R r ∧ ARep w' g' r v1 ∧ After w st w' g' := by
  refine ⟨v, hv, v, _, g', rfl, hR, hr, ⟨h3.os, h3.out, h3.tape, h3.size, fun b hb => h3.fr b hb, fun i b hi => ?_, h3.inj, h3.lt, h3.stf⟩⟩
  have := h3.own i b hi
  exact ⟨Nat.le_of_not_lt this.2, this.1⟩
 rcases he with rfl | rfl
 ·exact ⟨h3.nd, fin⟩
 ·exact ⟨h3.nd, fin⟩
end Go.Ab
end
section
set_option linter.unusedVariables false
set_option linter.unusedSimpArgs false
set_option linter.unnecessarySimpa false
namespace Go.Ab
def Bb : Value → Option PV
 | .slice none 0 0 => some (.val (.slice none 0 0))
 | .agg vs => some (cst (.agg vs))
 | .bool b => some (.val (.bool b))
 | .int k n => some (.val (.int k n))
 | .string s => some (.val (.string s))
 | .pointer none => some (.val (.pointer none))
 | .nilFunc => some (.val .nilFunc)
 | .nilIface => some (.val .nilIface)
 | _ => none
def evo (sl : List (Nat × AV)) : Operand → Option AV
 | .tmp t => look sl t
 | .const v => (Bb v).map .p
 | .func f => some (.func (.func f) [])
 | .global g => (lK g).map .rptr
theorem wu {v : Value} {x : PV} (h : Bb v = some x) : cst v = x := by
 unfold Bb at h
 split at h <;> first | (cases h; rfl) | (cases h)
theorem bq {n : Nat} {w0 : Base} {w : World} {F : Nat → Prop} {g : Gh} {sl : List (Nat × AV)} {ob : List (Nat × List AV)} {a : Act} (h : St n w0 F g ⟨sl, ob⟩ a w) {x : Operand} {y : AV}
  (hx : evo sl x = some y) : ARep w g y (a.eval x) := by
 have h1 := x6 h x
 cases x with
 | tmp t =>
  simp only [evo] at hx
  simp only [AS.ev, AS.get, hx, Option.getD_some] at h1
  exact h1
 | const v =>
  simp only [evo, Option.map_eq_some_iff] at hx
  obtain ⟨z, h2, rfl⟩ := hx
  simp only [AS.ev, wu h2] at h1
  exact h1
 | func f => simp only [evo, Option.some.injEq] at hx; subst hx; exact h1
 | global q =>
  simp only [evo, Option.map_eq_some_iff] at hx
  obtain ⟨cs, h2, rfl⟩ := hx
  simp only [AS.ev, h2, Option.map_some, Option.getD_some] at h1
  exact h1
theorem bL {n : Nat} {w0 : Base} {w : World} {F : Nat → Prop} {g : Gh} {sl : List (Nat × AV)} {ob : List (Nat × List AV)} {a : Act} (h : St n w0 F g ⟨sl, ob⟩ a w) {x : Operand} {v : Value}
  (hx : evo sl x = some (.p (.val v))) : a.eval x = v := qM (bq h hx)
def str (l : List UInt8) : ByteArray := ⟨l.toArray⟩
theorem gZ (l : List UInt8) : (str l).size = l.length := by simp [str, ByteArray.size]
theorem vr (l : List UInt8) : (str l).toList = l := ByteArray.toList_mk l
theorem vO (a b : List UInt8) : str a ++ str b = str (a ++ b) := by
 simp [str, ByteArray.ext_iff]
theorem uT (l : List UInt8) (i j : Nat) : (str l).extract i j = str ((l.take j).drop i) := by
 rw [ByteArray.ext_iff]
 simp only [str, ByteArray.data_extract]
 rw [List.extract_toArray, List.extract_eq_take_drop, List.take_drop]
 by_cases h : i ≤ j
 ·rw [Nat.add_sub_cancel' h]
 ·rw [List.drop_eq_nil_of_le (by simp; omega), List.drop_eq_nil_of_le (by simp; omega)]
theorem AK (l : List UInt8) (i : Nat) : (str l)[i]? = l[i]? := by
 by_cases h : i < l.length
 ·have h2 : i < (str l).size := by rw [gZ]; exact h
  rw [getElem?_pos (str l) i h2, List.getElem?_eq_getElem h]; rfl
 ·rw [getElem?_neg (str l) i (by rw [gZ]; exact h), List.getElem?_eq_none (by omega)]
section
variable {C : Cx} {o : Oper} {K : AS → Prop} {sl : List (Nat × AV)} {ob : List (Nat × List AV)} {d : Nat}
theorem ok_one {y : AV} (hd : o.dst = some d) (hn : Nat.blt d C.n = true)
  (h : ∀ g a w, St C.n C.w0 C.F g ⟨sl, ob⟩ a w → ∃ v, (execOp a.eval o).run C.P w = .ok (.value v) w ∧ ARep w g y v)
  (hK : K ⟨(d, y) :: sl, ob⟩) : aU C o K ⟨sl, ob⟩ := by
 intro g a w hs
 obtain ⟨v, h1, h2⟩ := h g a w hs
 unfold Oper.wp
 rw [h1]
 refine ⟨g, ⟨(d, y) :: sl, ob⟩, ?_, hK⟩
 have := hs.put (d := o.dst) (fun t ht => by rw [hd] at ht; cases ht; exact Nat.blt_eq ▸ hn) h2
 rw [hd] at this ⊢
 exact this
theorem aR {x : Operand} {y : AV} (ho : o.op = .move x) (hd : o.dst = some d) (hn : Nat.blt d C.n = true) (hx : evo sl x = some y)
  (hK : K ⟨(d, y) :: sl, ob⟩) : aU C o K ⟨sl, ob⟩ :=
 ok_one hd hn (fun g a w hs => ⟨a.eval x, by simp [execOp, ho], bq hs hx⟩) hK
theorem bp {x : Operand} {y : AV} (ho : o.op = .assign x) (hd : o.dst = some d) (hn : Nat.blt d C.n = true) (hx : evo sl x = some y)
  (hK : K ⟨(d, y) :: sl, ob⟩) : aU C o K ⟨sl, ob⟩ :=
 ok_one hd hn (fun g a w hs => ⟨a.eval x, by simp [execOp, ho], bq hs hx⟩) hK
theorem uF {x : Operand} (ho : o.op = .move x) (hd : o.dst = some d) (hn : Nat.blt d C.n = true)
  (hK : K ⟨(d, .undef) :: sl, ob⟩) : aU C o K ⟨sl, ob⟩ :=
 ok_one hd hn (fun g a w hs => ⟨a.eval x, by simp [execOp, ho], .undef _⟩) hK
theorem cn {c x y : Operand} {b : Bool} {z : AV} (ho : o.op = .pick c x y) (hd : o.dst = some d) (hn : Nat.blt d C.n = true)
  (hc : evo sl c = some (.p (.val (.bool b)))) (hb : b = true) (hx : evo sl x = some z) (hK : K ⟨(d, z) :: sl, ob⟩) : aU C o K ⟨sl, ob⟩ :=
 ok_one hd hn (fun g a w hs => ⟨a.eval x, by simp [execOp, ho, bL hs hc, asBool, hb], bq hs hx⟩) hK
theorem bY {c x y : Operand} {b : Bool} {z : AV} (ho : o.op = .pick c x y) (hd : o.dst = some d) (hn : Nat.blt d C.n = true)
  (hc : evo sl c = some (.p (.val (.bool b)))) (hb : b = false) (hx : evo sl y = some z) (hK : K ⟨(d, z) :: sl, ob⟩) : aU C o K ⟨sl, ob⟩ :=
 ok_one hd hn (fun g a w hs => ⟨a.eval y, by simp [execOp, ho, bL hs hc, asBool, hb], bq hs hx⟩) hK
def zQ : BinOp → Int → Int → Option Bool
 | .eql, a, b => some (decide (a = b))
 | .neq, a, b => some (!decide (a = b))
 | .lss, a, b => some (decide (a < b))
 | .leq, a, b => some (decide (a ≤ b))
 | .gtr, a, b => some (decide (b < a))
 | .geq, a, b => some (decide (b ≤ a))
 | _, _, _ => none
theorem kG {P : Program} {w : World} (op : BinOp) (t : TypeId) (x y : Operand) (k k' : IntKind) (a b : Int) :
  (eqGuard op t x y (.int k a) (.int k' b)).run P w = .ok () w := by
 unfold eqGuard; split <;> rfl
theorem xt {P : Program} {w : World} {op : BinOp} {t : TypeId} {k : IntKind} {a b : Int} {c : Bool} (h : zQ op a b = some c) :
  (binOp op t (.int k a) (.int k b)).run P w = .ok (.bool c) w := by
 cases op <;> simp only [zQ, Option.some.injEq, reduceCtorEq] at h <;> subst h <;> simp [binOp, Op.intCmp] <;> rfl
theorem gC {op : BinOp} {t t' : TypeId} {x y : Operand} {k : IntKind} {a b : Int} {c : Bool} (ho : o.op = .binOp op t x y t') (hd : o.dst = some d) (hn : Nat.blt d C.n = true)
  (hx : evo sl x = some (.p (.val (.int k a)))) (hy : evo sl y = some (.p (.val (.int k b)))) (hc : zQ op a b = some c)
  (hK : K ⟨(d, .p (.val (.bool c))) :: sl, ob⟩) : aU C o K ⟨sl, ob⟩ :=
 ok_one hd hn (fun g a w hs => ⟨_, by
  simp only [execOp, ho, bL hs hx, bL hs hy, Sem.run_bind, kG, Result.andThen_ok, xt hc, Sem.run_pure], .p (.val _)⟩) hK
def arI : BinOp → Int → Int → Option Int
 | .add, a, b => some (a + b)
 | .sub, a, b => some (a - b)
 | .mul, a, b => some (a * b)
 | _, _, _ => none
theorem y9 {P : Program} {w : World} {op : BinOp} {t : TypeId} {k : IntKind} {a b c : Int} (h : arI op a b = some c) :
  (binOp op t (.int k a) (.int k b)).run P w = .ok (.int k (k.wrap c)) w := by
 cases op <;> simp only [arI, Option.some.injEq, reduceCtorEq] at h <;> subst h <;> simp [binOp, Op.intArith]
theorem zk {op : BinOp} {t t' : TypeId} {x y : Operand} {k : IntKind} {a b c : Int} (ho : o.op = .binOp op t x y t') (hd : o.dst = some d) (hn : Nat.blt d C.n = true)
  (hx : evo sl x = some (.p (.val (.int k a)))) (hy : evo sl y = some (.p (.val (.int k b)))) (hc : arI op a b = some c)
  (hK : K ⟨(d, .p (.val (.int k (k.wrap c)))) :: sl, ob⟩) : aU C o K ⟨sl, ob⟩ :=
 ok_one hd hn (fun g a w hs => ⟨_, by
  simp only [execOp, ho, bL hs hx, bL hs hy, Sem.run_bind, kG, Result.andThen_ok, y9 hc, Sem.run_pure], .p (.val _)⟩) hK
theorem eV {op : BinOp} {t t' : TypeId} {x y : Operand} {a b c : Int} (ho : o.op = .binOp op t x y t') (hd : o.dst = some d) (hn : Nat.blt d C.n = true)
  (hx : evo sl x = some (.p (.val (.int .i64 a)))) (hy : evo sl y = some (.p (.val (.int .i64 b)))) (hc : arI op a b = some c)
  (hw : -9223372036854775808 ≤ c ∧ c ≤ 9223372036854775807)
  (hK : K ⟨(d, .p (.val (.int .i64 c))) :: sl, ob⟩) : aU C o K ⟨sl, ob⟩ :=
 zk ho hd hn hx hy hc (by rw [IntWalk.i64_in c hw]; exact hK)
theorem gD {t : TypeId} {x : Operand} {b : Bool} (ho : o.op = .unOp .not t x) (hd : o.dst = some d) (hn : Nat.blt d C.n = true)
  (hx : evo sl x = some (.p (.val (.bool b)))) (hK : K ⟨(d, .p (.val (.bool (!b)))) :: sl, ob⟩) : aU C o K ⟨sl, ob⟩ :=
 ok_one hd hn (fun g a w hs => ⟨_, by simp [execOp, ho, bL hs hx, Op.unary], .p (.val _)⟩) hK
theorem a6 {P : Program} {tt : List (Nat × TI)} (good : dr P tt) {t : Nat} {i : TI} (h : look tt t = some i) : ∃ u, P.underlying t = some u ∧ kindOf u = i.k := by
 have := (good.at h).1
 simpa [Option.map_eq_some_iff] using this
theorem nk {u : TypeDesc} (h : kindOf u = .bool) : u = .bool := by cases u <;> simp [kindOf] at h; rfl
theorem kf {u : TypeDesc} {k : IntKind} (h : kindOf u = .int k) : u = .int k := by cases u <;> simp [kindOf] at h; subst h; rfl
theorem eA {u : TypeDesc} (h : kindOf u = .string) : u = .string := by cases u <;> simp [kindOf] at h; rfl
theorem bb {u : TypeDesc} {e : Nat} (h : kindOf u = .slice e) : u = .slice e := by cases u <;> simp [kindOf] at h; subst h; rfl
theorem gn {u : TypeDesc} {fs : List (Nat × Nat)} (h : kindOf u = .struct fs) : ∃ f, u = .struct f ∧ f.toList.map (fun f => (f.offset, f.type)) = fs := by
 cases u <;> simp [kindOf] at h; exact ⟨_, rfl, h⟩
theorem vc {st dt : TypeId} {x : Operand} {k k' : IntKind} {a : Int} {i j : TI} (ho : o.op = .convert st dt x) (hd : o.dst = some d) (hn : Nat.blt d C.n = true)
  (hi : look C.tt st = some i) (hik : i.k = .int k') (hj : look C.tt dt = some j) (hjk : j.k = .int k) (hx : evo sl x = some (.p (.val (.int k' a)))) (hw : k.wrap a = a)
  (hK : K ⟨(d, .p (.val (.int k a))) :: sl, ob⟩) : aU C o K ⟨sl, ob⟩ := by
 obtain ⟨u, h1, h2⟩ := a6 C.good hj
 have h3 := kf (h2.trans hjk)
 obtain ⟨u', h1', h2'⟩ := a6 C.good hi
 have h3' := kf (h2'.trans hik)
 subst h3 h3'
 exact ok_one hd hn (fun g b w hs => ⟨_, by simp [execOp, ho, bL hs hx, convert, run_underlying h1, run_underlying h1', Conv.intToInt, hw], .p (.val _)⟩) hK
theorem qc {P : Program} {w : World} (op : BinOp) (t : TypeId) (x y : Operand) (a b : ByteArray) :
  (eqGuard op t x y (.string a) (.string b)).run P w = .ok () w := by
 unfold eqGuard; split <;> rfl
theorem b9 {t t' : TypeId} {x y : Operand} {a b : List UInt8} (ho : o.op = .binOp .add t x y t') (hd : o.dst = some d) (hn : Nat.blt d C.n = true)
  (hx : evo sl x = some (.p (.val (.string (str a))))) (hy : evo sl y = some (.p (.val (.string (str b))))) (hw : a.length + b.length ≤ 9223372036854775807)
  (hK : K ⟨(d, .p (.val (.string (str (a ++ b))))) :: sl, ob⟩) : aU C o K ⟨sl, ob⟩ :=
 ok_one hd hn (fun g c w hs => ⟨_, by
  have : ¬ (((str a).size + (str b).size : Nat) : Int) > IntKind.i64.max := by
   rw [gZ, gZ]; simp only [IntKind.max, IntKind.bits, IntKind.signed]; simp; omega
  simp only [execOp, ho, bL hs hx, bL hs hy, Sem.run_bind, qc, Result.andThen_ok, binOp, Op.stringOp, if_neg this, Sem.run_pure, vO], .p (.val _)⟩) hK
def AJ : BinOp → List UInt8 → List UInt8 → Option Bool
 | .eql, a, b => some (decide (a = b))
 | .neq, a, b => some (!decide (a = b))
 | .lss, a, b => some (Op.bytesLess a b)
 | .leq, a, b => some (Op.bytesLess a b || decide (a = b))
 | .gtr, a, b => some (!(Op.bytesLess a b || decide (a = b)))
 | .geq, a, b => some (!Op.bytesLess a b)
 | _, _, _ => none
theorem xn {P : Program} {w : World} {op : BinOp} {t : TypeId} {a b : List UInt8} {c : Bool} (h : AJ op a b = some c) :
  (binOp op t (.string (str a)) (.string (str b))).run P w = .ok (.bool c) w := by
 have e : (a == b) = decide (a = b) := by rw [Bool.eq_iff_iff]; simp
 cases op <;> simp only [AJ, Option.some.injEq, reduceCtorEq] at h <;> subst h <;> simp only [binOp, Op.stringOp, vr, Sem.run_pure, e]
theorem cE {op : BinOp} {t t' : TypeId} {x y : Operand} {a b : List UInt8} {c : Bool} (ho : o.op = .binOp op t x y t') (hd : o.dst = some d) (hn : Nat.blt d C.n = true)
  (hx : evo sl x = some (.p (.val (.string (str a))))) (hy : evo sl y = some (.p (.val (.string (str b))))) (hc : AJ op a b = some c)
  (hK : K ⟨(d, .p (.val (.bool c))) :: sl, ob⟩) : aU C o K ⟨sl, ob⟩ :=
 ok_one hd hn (fun g a w hs => ⟨_, by
  simp only [execOp, ho, bL hs hx, bL hs hy, Sem.run_bind, qc, Result.andThen_ok, xn hc, Sem.run_pure], .p (.val _)⟩) hK
theorem run_len_string {P : Program} {w : World} {t : TypeId} (h : P.underlying t = some .string) (ty : TypeId) (s : ByteArray) :
  (Builtin.len_ #[t] ty #[.string s]).run P w = .ok (.int .i64 s.size) w := by
 simp [Builtin.len_, run_underlying h, goInt]
theorem dy {P : Program} {w : World} {ρ : Operand → Value} {b : Builtin} {args : Array Operand} {ts : Array TypeId} (ho : o.op = .call { callee := .builtin b, args := args, argTypes := ts }) :
  (execOp ρ o).run P w = (builtin b ts o.type (args.map fun | .const _ => true | _ => false) (args.map ρ)).run P w := by
 simp [execOp, ho, resolve, invoke]
 rfl
theorem fw {t : TypeId} {x : Operand} {a : List UInt8} {i : TI} (ho : o.op = .call { callee := .builtin .len, args := #[x], argTypes := #[t] }) (hd : o.dst = some d) (hn : Nat.blt d C.n = true)
  (hi : look C.tt t = some i) (hik : i.k = .string) (hx : evo sl x = some (.p (.val (.string (str a)))))
  (hK : K ⟨(d, .p (.val (.int .i64 (a.length : Int)))) :: sl, ob⟩) : aU C o K ⟨sl, ob⟩ := by
 obtain ⟨u, h1, h2⟩ := a6 C.good hi
 have h3 := eA (h2.trans hik)
 subst h3
 exact ok_one hd hn (fun g b w hs => ⟨_, by
  rw [dy ho]
  simp [builtin, bL hs hx, run_len_string h1, gZ], .p (.val _)⟩) hK
theorem dk {t : TypeId} {x y : Operand} {a : List UInt8} {k : IntKind} {j : Int} {i : TI} (ho : o.op = .index t x y) (hd : o.dst = some d) (hn : Nat.blt d C.n = true)
  (hi : look C.tt t = some i) (hik : i.k = .string) (hx : evo sl x = some (.p (.val (.string (str a))))) (hy : evo sl y = some (.p (.val (.int k j))))
  (hj : 0 ≤ j ∧ j < a.length)
  (hK : K ⟨(d, .p (.val (.int .u8 ((a.getD j.toNat 0).toNat : Int)))) :: sl, ob⟩) : aU C o K ⟨sl, ob⟩ := by
 obtain ⟨u, h1, h2⟩ := a6 C.good hi
 have h3 := eA (h2.trans hik)
 subst h3
 refine ok_one hd hn (fun g b w hs => ⟨_, ?_, .p (.val _)⟩) hK
 have hlt : j.toNat < a.length := by omega
 have e : (str a)[j.toNat]? = some (a.getD j.toNat 0) := by
  rw [AK, List.getD_eq_getElem?_getD, List.getElem?_eq_getElem hlt]; rfl
 simp [execOp, ho, bL hs hx, bL hs hy, Instr.index, asIntOf, run_underlying h1, hj.1, e]
def loI (sl : List (Nat × AV)) : Option Operand → Option Int
 | none => some 0
 | some x => match evo sl x with | some (.p (.val (.int _ n))) => some n | _ => none
def hiI (sl : List (Nat × AV)) (len : Int) : Option Operand → Option Int
 | none => some len
 | some x => match evo sl x with | some (.p (.val (.int _ n))) => some n | _ => none
theorem zr {x : Operand} {n : Int} (h : loI sl (some x) = some n) : ∃ k, evo sl x = some (.p (.val (.int k n))) := by
 unfold loI at h; split at h
 ·rename_i e; cases e
 ·rename_i y e; simp only [Option.some.injEq] at e; subst e; split at h <;> first | (cases h; exact ⟨_, ‹_›⟩) | (cases h)
theorem ug {x : Operand} {len n : Int} (h : hiI sl len (some x) = some n) : ∃ k, evo sl x = some (.p (.val (.int k n))) := by
 unfold hiI at h; split at h
 ·rename_i e; cases e
 ·rename_i y e; simp only [Option.some.injEq] at e; subst e; split at h <;> first | (cases h; exact ⟨_, ‹_›⟩) | (cases h)
theorem run_sliceBound {P : Program} {w : World} (k : IntKind) (n : Int) (y : Nat) (c : BoundsCode) (h : 0 ≤ n ∧ n ≤ y) :
  (Instr.sliceBound (.int k n) y c).run P w = .ok n.toNat w := by
 simp [Instr.sliceBound, asIntOf, h.1, h.2]
theorem iE {P : Program} {g : Gh} {a : Act} {w : World} {w0 : Base} {n : Nat} {F : Nat → Prop} (hs : St n w0 F g ⟨sl, ob⟩ a w) (isS : Bool) (len cap : Nat) (lo hi : Option Operand) {l h : Int}
  (hl : loI sl lo = some l) (hh : hiI sl len hi = some h) (hb : 0 ≤ l ∧ l ≤ h ∧ h ≤ cap) (hlc : len ≤ cap) :
  (Instr.sliceBounds isS len cap (lo.map a.eval) (hi.map a.eval) none).run P w = .ok (l.toNat, h.toNat, cap) w := by
 have e1 : ∀ (c : BoundsCode), (Instr.sliceBound (.int .i64 0) cap c).run P w = .ok 0 w := fun c => run_sliceBound _ _ _ _ (by omega)
 cases lo with
 | none =>
  simp only [loI, Option.some.injEq] at hl; subst hl
  cases hi with
  | none =>
   simp only [hiI, Option.some.injEq] at hh; subst hh
   simp [Instr.sliceBounds]
  | some y =>
   obtain ⟨k, hy⟩ := ug hh
   have := run_sliceBound (P := P) (w := w) k h cap (if isS then .sliceAcap else .sliceAlen) ⟨by omega, hb.2.2⟩
   simp [Instr.sliceBounds, bL hs hy, this]
 | some x =>
  obtain ⟨k, hx⟩ := zr hl
  cases hi with
  | none =>
   simp only [hiI, Option.some.injEq] at hh; subst hh
   have := run_sliceBound (P := P) (w := w) k l len .sliceB ⟨hb.1, by omega⟩
   simp [Instr.sliceBounds, bL hs hx, this]
  | some y =>
   obtain ⟨k', hy⟩ := ug hh
   have e2 := run_sliceBound (P := P) (w := w) k' h cap (if isS then .sliceAcap else .sliceAlen) ⟨by omega, hb.2.2⟩
   have e3 := run_sliceBound (P := P) (w := w) k l h.toNat .sliceB ⟨hb.1, by omega⟩
   simp [Instr.sliceBounds, bL hs hx, bL hs hy, e2, e3]
theorem dH {t : TypeId} {x : Operand} {lo hi : Option Operand} {a : List UInt8} {l h : Int} {i : TI} (ho : o.op = .slice t x lo hi none) (hd : o.dst = some d) (hn : Nat.blt d C.n = true)
  (hi' : look C.tt t = some i) (hik : i.k = .string) (hx : evo sl x = some (.p (.val (.string (str a))))) (hlo : loI sl lo = some l) (hhi : hiI sl (a.length : Int) hi = some h)
  (hb : 0 ≤ l ∧ l ≤ h ∧ h ≤ a.length)
  (hK : K ⟨(d, .p (.val (.string (str ((a.take h.toNat).drop l.toNat))))) :: sl, ob⟩) : aU C o K ⟨sl, ob⟩ := by
 obtain ⟨u, h1, h2⟩ := a6 C.good hi'
 have h3 := eA (h2.trans hik)
 subst h3
 refine ok_one hd hn (fun g b w hs => ⟨_, ?_, .p (.val _)⟩) hK
 have e := iE (P := C.P) hs false (str a).size (str a).size lo hi hlo (by rw [gZ]; exact hhi) (by rw [gZ]; exact hb) (Nat.le_refl _)
 simp [execOp, ho, bL hs hx, Instr.sliceAt, Instr.slice, run_underlying h1, e, uT]
theorem cB {x : Operand} {k : Nat} {l : List AV} {y : AV} (ho : o.op = .extract x k) (hd : o.dst = some d) (hn : Nat.blt d C.n = true)
  (hx : evo sl x = some (.tuple l)) (hk : l[k]? = some y) (hK : K ⟨(d, y) :: sl, ob⟩) : aU C o K ⟨sl, ob⟩ := by
 refine ok_one hd hn (fun g b w hs => ?_) hK
 have h1 := bq hs hx
 generalize hv : b.eval x = v at h1
 cases h1 with
 | tuple hl h =>
  rename_i vs
  have hlt : k < vs.size := by rw [hl]; exact (List.getElem?_eq_some_iff.1 hk).1
  exact ⟨vs[k], by simp [execOp, ho, hv, Instr.extract, hlt], h k y _ hk (Array.getElem?_eq_getElem hlt)⟩
end
theorem aP {p : Prop} [Decidable p] (h : ¬p) : (!decide p) = true := by simp [h]
theorem aE {p : Prop} [Decidable p] (h : p) : (!decide p) = false := by simp [h]
theorem vR {s : AS} {x : Operand} {y : AV} (h : evo s.sl x = some y) : s.ev x = y := by
 cases x with
 | tmp t => simp only [evo] at h; simp only [AS.ev, AS.get, h, Option.getD_some]
 | const v =>
  simp only [evo, Option.map_eq_some_iff] at h
  obtain ⟨z, h2, rfl⟩ := h
  simp only [AS.ev, wu h2]
 | func f => simp only [evo, Option.some.injEq] at h; exact h
 | global g =>
  simp only [evo, Option.map_eq_some_iff] at h
  obtain ⟨cs, h2, rfl⟩ := h
  simp only [AS.ev, h2, Option.map_some, Option.getD_some]
section
variable {C : Cx} {c : Operand} {x y : Code} {Q : Exit → AS → Prop} {s : AS}
theorem gT {b : Bool} (hc : evo s.sl c = some (.p (.val (.bool b)))) (h1 : b = true → awp C x Q s) (h2 : b = false → awp C y Q s) : awp C (.cond c x y) Q s :=
 rI (vR hc) h1 h2
theorem jk {p : Prop} [Decidable p] (hc : evo s.sl c = some (.p (.val (.bool (decide p))))) (h1 : p → awp C x Q s) (h2 : ¬p → awp C y Q s) : awp C (.cond c x y) Q s :=
 gT hc (fun h => h1 (of_decide_eq_true h)) (fun h => h2 (of_decide_eq_false h))
theorem js {p : Prop} [Decidable p] (hc : evo s.sl c = some (.p (.val (.bool (!decide p))))) (h1 : ¬p → awp C x Q s) (h2 : p → awp C y Q s) : awp C (.cond c x y) Q s :=
 gT hc (fun h => h1 (by simpa using h)) (fun h => h2 (by simpa using h))
theorem gV {b : Bool} (hc : evo s.sl c = some (.p (.val (.bool b)))) (hb : b = true) (h1 : awp C x Q s) : awp C (.cond c x y) Q s :=
 gT hc (fun _ => h1) (fun h => by rw [hb] at h; cases h)
theorem gQ {b : Bool} (hc : evo s.sl c = some (.p (.val (.bool b)))) (hb : b = false) (h1 : awp C y Q s) : awp C (.cond c x y) Q s :=
 gT hc (fun h => by rw [hb] at h; cases h) (fun _ => h1)
end
section
variable {C : Cx} {ops : Array Oper} {K : AS → Prop} {sl : List (Nat × AV)} {ob : List (Nat × List AV)} {r : List Oper} {o : Oper} {j t d : Nat}
theorem jQ {b : Bool} (hg : o.guard = some (j, true)) (hj : (ops.toList[j]?).bind (·.dst) = some t) (hv : look sl t = some (.p (.val (.bool b)))) (hb : b = true)
  (h1 : aU C o (d9 C ops r K) ⟨sl, ob⟩) : d9 C ops (o :: r) K ⟨sl, ob⟩ := kq hg hj hv hb h1
theorem jB {b : Bool} (hg : o.guard = some (j, false)) (hj : (ops.toList[j]?).bind (·.dst) = some t) (hv : look sl t = some (.p (.val (.bool b)))) (hb : b = false)
  (h1 : aU C o (d9 C ops r K) ⟨sl, ob⟩) : d9 C ops (o :: r) K ⟨sl, ob⟩ := kq hg hj hv hb h1
theorem jJ {b : Bool} (hg : o.guard = some (j, true)) (hj : (ops.toList[j]?).bind (·.dst) = some t) (hv : look sl t = some (.p (.val (.bool b)))) (hb : b = false)
  (hd : o.dst = some d) (hn : Nat.blt d C.n = true) (h1 : d9 C ops r K ⟨(d, .p (.val Go.undef)) :: sl, ob⟩) : d9 C ops (o :: r) K ⟨sl, ob⟩ := kR hg hj hv hb hd hn h1
theorem jT {b : Bool} (hg : o.guard = some (j, false)) (hj : (ops.toList[j]?).bind (·.dst) = some t) (hv : look sl t = some (.p (.val (.bool b)))) (hb : b = true)
  (hd : o.dst = some d) (hn : Nat.blt d C.n = true) (h1 : d9 C ops r K ⟨(d, .p (.val Go.undef)) :: sl, ob⟩) : d9 C ops (o :: r) K ⟨sl, ob⟩ := kR hg hj hv hb hd hn h1
theorem fG {wt : Bool} (hg : o.guard = some (j, wt)) (hj : (ops.toList[j]?).bind (·.dst) = some t) (hv : look sl t = some (.p (.val (.tuple #[]))))
  (hd : o.dst = some d) (hn : Nat.blt d C.n = true) (h1 : d9 C ops r K ⟨(d, .p (.val Go.undef)) :: sl, ob⟩) : d9 C ops (o :: r) K ⟨sl, ob⟩ := ma hg hj hv hd hn h1
theorem pb {p : Prop} [Decidable p] {wt : Bool} (hg : o.guard = some (j, wt)) (hj : (ops.toList[j]?).bind (·.dst) = some t) (hv : look sl t = some (.p (.val (.bool (decide p)))))
  (h1 : p → d9 C ops (o :: r) K ⟨sl, ob⟩) (h2 : ¬p → d9 C ops (o :: r) K ⟨sl, ob⟩) : d9 C ops (o :: r) K ⟨sl, ob⟩ := by
 by_cases h : p
 ·exact h1 h
 ·exact h2 h
theorem pS {b : Bool} {wt : Bool} (hg : o.guard = some (j, wt)) (hj : (ops.toList[j]?).bind (·.dst) = some t) (hv : look sl t = some (.p (.val (.bool b))))
  (h1 : b = true → d9 C ops (o :: r) K ⟨sl, ob⟩) (h2 : b = false → d9 C ops (o :: r) K ⟨sl, ob⟩) : d9 C ops (o :: r) K ⟨sl, ob⟩ := by
 cases b
 ·exact h2 rfl
 ·exact h1 rfl
end
def leL (s : List (Nat × AV)) : List (Nat × AV) → Prop
 | [] => True
 | (j, x) :: r => (∃ y, look s j = some y ∧ y.sub x) ∧ leL s r
theorem uQ {s : List (Nat × AV)} : ∀ {t : List (Nat × AV)}, leL s t → ∀ j x, look t j = some x → ∃ y, look s j = some y ∧ y.sub x
 | [], _, _, _, h => by simp [look] at h
 | (k, z) :: r, hl, j, x, h => by
  rw [bn] at h
  split at h
  ·rename_i e; subst e; cases h; exact hl.1
  ·exact uQ hl.2 j x h
def uJ : List AV → List AV → Prop
 | [], _ => True
 | _ :: _, [] => False
 | x :: r, y :: q => y.sub x ∧ uJ r q
theorem jf : ∀ {cs ds : List AV}, uJ cs ds → cs.length ≤ ds.length ∧ ∀ (i : Nat) c d, cs[i]? = some c → ds[i]? = some d → d.sub c
 | [], ds, _ => ⟨Nat.zero_le _, fun i c d h => by simp at h⟩
 | _ :: _, [], h => h.elim
 | x :: r, y :: q, h => by
  obtain ⟨h1, h2⟩ := jf h.2
  refine ⟨by simpa using h1, fun i c d hc hd => ?_⟩
  cases i with
  | zero => simp only [List.getElem?_cons_zero, Option.some.injEq] at hc hd; subst hc hd; exact h.1
  | succ i => simp only [List.getElem?_cons_succ] at hc hd; exact h2 i c d hc hd
def leO (s : List (Nat × List AV)) : List (Nat × List AV) → Prop
 | [] => True
 | (j, cs) :: r => (∃ ds, look s j = some ds ∧ uJ cs ds) ∧ leO s r
theorem oQ {s : List (Nat × List AV)} : ∀ {t : List (Nat × List AV)}, leO s t → ∀ j x, look t j = some x → ∃ y, look s j = some y ∧ uJ x y
 | [], _, _, _, h => by simp [look] at h
 | (k, z) :: r, hl, j, x, h => by
  rw [bn] at h
  split at h
  ·rename_i e; subst e; cases h; exact hl.1
  ·exact oQ hl.2 j x h
theorem cj {s t : AS} (h : leL s.sl t.sl) (ho : leO s.ob t.ob) : s.le t := by
 refine ⟨fun j x hx => ?_, fun id cs hc => ?_⟩
 ·obtain ⟨y, h1, h2⟩ := uQ h j x hx
  simp only [AS.get, h1, Option.getD_some]; exact h2
 ·obtain ⟨ds, h1, h2⟩ := oQ ho id cs hc
  exact ⟨ds, h1, (jf h2).1, (jf h2).2⟩
theorem bT {k : IntKind} {a b : Int} (h : a = b) : (AV.p (.val (.int k a))).sub (.p (.val (.int k b))) := AV.sub_of_eq (by rw [h])
theorem zM {a b : List UInt8} (h : a = b) : (AV.p (.val (.string (str a)))).sub (.p (.val (.string (str b)))) := AV.sub_of_eq (by rw [h])
theorem io {a b : Bool} (h : a = b) : (AV.p (.val (.bool a))).sub (.p (.val (.bool b))) := AV.sub_of_eq (by rw [h])
end Go.Ab
end
section
set_option linter.unusedVariables false
set_option linter.unusedSimpArgs false
set_option linter.unnecessarySimpa false
namespace Go.Ab
theorem gf {α β : Type} (f : α → β) : ∀ (l : List (Nat × α)) (i : Nat), look (l.map fun p => (p.1, f p.2)) i = (look l i).map f
 | [], _ => rfl
 | (j, v) :: r, i => by
  simp only [List.map_cons, bn, gf f r i]
  split <;> rfl
theorem gj {α : Type} (D : Nat → Bool) : ∀ (l : List (Nat × α)) (i : Nat), look (l.filter fun p => !D p.1) i = if D i then none else look l i
 | [], i => by simp [look]
 | (j, v) :: r, i => by
  simp only [List.filter_cons, bn]
  cases hD : D j
  ·simp only [Bool.not_false, if_true, bn, gj D r i]
   by_cases e : j = i
   ·subst e; simp [hD]
   ·simp [e]
  ·simp only [Bool.not_true, Bool.false_eq_true, if_false, gj D r i]
   by_cases e : j = i
   ·subst e; simp [hD]
   ·simp [e]
def cv (D : Nat → Bool) (s : AS) : AS :=
 ⟨s.sl.map fun p => (p.1, p.2.dem D), (s.ob.filter fun p => !D p.1).map fun p => (p.1, j4 D p.2)⟩
theorem St.evolve {n : Nat} {w0 : Base} {w w' : World} {F : Nat → Prop} {g g' : Gh} {s : AS} {a : Act} (hs : St n w0 F g s a w) (D : Nat → Bool) (hDl : ∀ i, D i = true → i < M1) (hev : Ev w g.st w' g'.st)
  (how : ∀ id b, D id = false → g.ow id = some b → g'.ow id = some b ∧ w'.heap[b]? = w.heap[b]? ∧ ∀ o, g'.st b o → g.st b o)
  (hinj : ∀ i j b, g'.ow i = some b → g'.ow j = some b → i = j) (hown : ∀ i b, g'.ow i = some b → b < w'.heap.size ∧ ¬ F b)
  (hlt : ∀ b o, g'.st b o → b < w'.heap.size) (hfr : ∀ b, F b → w'.heap[b]? = w.heap[b]?)
  (hos : w'.os = w.os) (hout : w'.output = w.output) (htape : w'.tape = w.tape) (hsize : w.heap.size ≤ w'.heap.size) (hstf : ∀ b, F b → ∀ o, g'.st b o ↔ g.st b o) (howf : ∀ i, M1 ≤ i → g'.ow i = g.ow i) : St n w0 F g' (cv D s) a w' := by
 have hDf : ∀ i, M1 ≤ i → D i = false := fun i hi => by
  cases hq : D i
  ·rfl
  ·have := hDl i hq; omega
 have hE : EvO D w g w' g' := ⟨hev, fun id b hD h => (how id b hD h).1, fun id b c e hD h hb => ⟨c, (how id b hD h).2.1.trans hb, rfl⟩, fun id b o hD h => (how id b hD h).2.2 o, fun id b es k hD h hb => (how id b hD h).2.1.trans hb, fun i hi => hDf i (sU hi), fun id b o hD h _ => (how id b hD h).2.1⟩
 refine ⟨hs.nd, hs.sz, fun i => ?_, fun id cs hc => ?_, hinj, hown, hlt, hs.fl, fun b hb => (hfr b hb).trans (hs.fr b hb), hos.trans hs.os, hout.trans hs.out, htape.trans hs.tape, Nat.le_trans hs.size hsize, fun b hb o => (hstf b hb o).trans (hs.stf b hb o), fun i hi hz => (howf i hi).trans (hs.owf i hi hz), hs.shf.next (fun i b c e hi hb h => ⟨c, (how i b (hDf i hi) ((hs.owf i hi (w0.lo i b hb)).trans hb)).2.1.trans h, rfl⟩), fun i b hi hb o h => hs.nst i b hi hb o ((how i b (hDf i hi) ((hs.owf i hi (w0.lo i b hb)).trans hb)).2.2 o h), hs.ev0.trans hev⟩
 ·have h := (hs.sl i).dem hE
  simp only [AS.get, cv, gf]
  simp only [AS.get] at h
  cases hl : look s.sl i with
  | none => simp only [Option.map_none, Option.getD_none]; exact .undef _
  | some x => rw [hl] at h; simpa using h
 ·simp only [cv, gf, gj] at hc
  by_cases hD : D id = true
  ·simp [hD] at hc
  ·have hD' : D id = false := by simpa using hD
   simp only [hD', Bool.false_eq_true, if_false, Option.map_eq_some_iff] at hc
   obtain ⟨ds, h1, rfl⟩ := hc
   obtain ⟨b, c, e, k1, k2, k3, k4, k5⟩ := hs.ob id ds h1
   obtain ⟨m1, m2, m3⟩ := how id b hD' k1
   refine ⟨b, c, e, m1, m2.trans k2, by simpa [gM] using k3, fun o h => k4 o (m3 o h), fun i x hx => ?_⟩
   simp only [gM, List.getElem?_map, Option.map_eq_some_iff] at hx
   obtain ⟨y, hy, rfl⟩ := hx
   obtain ⟨v, hv, hr⟩ := k5 i y hy
   exact ⟨v, hv, hr.dem hE⟩
theorem St.evolve0 {n : Nat} {w0 : Base} {w w' : World} {F : Nat → Prop} {g g' : Gh} {s : AS} {a : Act} (hs : St n w0 F g s a w) (hev : Ev w g.st w' g'.st)
  (how : ∀ id b, g.ow id = some b → g'.ow id = some b ∧ w'.heap[b]? = w.heap[b]? ∧ ∀ o, g'.st b o → g.st b o)
  (hinj : ∀ i j b, g'.ow i = some b → g'.ow j = some b → i = j) (hown : ∀ i b, g'.ow i = some b → b < w'.heap.size ∧ ¬ F b)
  (hlt : ∀ b o, g'.st b o → b < w'.heap.size) (hfr : ∀ b, F b → w'.heap[b]? = w.heap[b]?)
  (hos : w'.os = w.os) (hout : w'.output = w.output) (htape : w'.tape = w.tape) (hsize : w.heap.size ≤ w'.heap.size) (hstf : ∀ b, F b → ∀ o, g'.st b o ↔ g.st b o) (howf : ∀ i, M1 ≤ i → g'.ow i = g.ow i) : St n w0 F g' s a w' := by
 have hE : EvO (fun _ => false) w g w' g' := ⟨hev, fun id b _ h => (how id b h).1, fun id b c e _ h hb => ⟨c, (how id b h).2.1.trans hb, rfl⟩, fun id b o _ h => (how id b h).2.2 o, fun id b es k _ h hb => (how id b h).2.1.trans hb, fun _ _ => rfl, fun id b o _ h _ => (how id b h).2.1⟩
 refine ⟨hs.nd, hs.sz, fun i => (hs.sl i).mono hE, fun id cs hc => ?_, hinj, hown, hlt, hs.fl, fun b hb => (hfr b hb).trans (hs.fr b hb), hos.trans hs.os, hout.trans hs.out, htape.trans hs.tape, Nat.le_trans hs.size hsize, fun b hb o => (hstf b hb o).trans (hs.stf b hb o), fun i hi hz => (howf i hi).trans (hs.owf i hi hz), hs.shf.next (fun i b c e hi hb h => ⟨c, (how i b ((hs.owf i hi (w0.lo i b hb)).trans hb)).2.1.trans h, rfl⟩), fun i b hi hb o h => hs.nst i b hi hb o ((how i b ((hs.owf i hi (w0.lo i b hb)).trans hb)).2.2 o h), hs.ev0.trans hev⟩
 obtain ⟨b, c, e, k1, k2, k3, k4, k5⟩ := hs.ob id cs hc
 obtain ⟨m1, m2, m3⟩ := how id b k1
 refine ⟨b, c, e, m1, m2.trans k2, k3, fun o h => k4 o (m3 o h), fun i x hx => ?_⟩
 obtain ⟨v, hv, hr⟩ := k5 i x hx
 exact ⟨v, hv, hr.mono hE⟩
theorem St.drew {n : Nat} {w0 : Base} {w : World} {F : Nat → Prop} {g : Gh} {s : AS} {a : Act} (hs : St n w0 F g s a w) : St n w0 F g s a w.drew :=
 hs.evolve0 (fun b o h => ⟨h, rfl⟩) (fun id b h => ⟨h, rfl, fun o h => h⟩) hs.inj hs.own hs.lt (fun b h => rfl) rfl rfl rfl (Nat.le_refl _) (fun b _ o => Iff.rfl) (fun _ _ => rfl)
theorem di {w : World} {o : Obj} {b : Nat} (h : b < w.heap.size) : (w.alloc o).heap[b]? = w.heap[b]? := by
 show (w.heap.push o)[b]? = _
 rw [Array.getElem?_push, if_neg (by omega)]
theorem cN {w : World} {o : Obj} : (w.alloc o).heap[w.heap.size]? = some o := by
 show (w.heap.push o)[w.heap.size]? = _
 simp
theorem rZ {w : World} {b : Nat} {c c' : Array Value} {e : TypeId} (hb : w.heap[b]? = some (.cells c e (0, 0))) (hs : c'.size = c.size) : B5 w (w.setRow b c') := by
 have hbl : b < w.heap.size := (Array.getElem?_eq_some_iff.1 hb).1
 refine ⟨fun b2 c2 e2 h => ?_, fun b2 o h1 h2 => ?_⟩
 ·by_cases e1 : b2 = b
  ·subst e1
   rw [hb] at h; cases h
   exact ⟨c', setRow_heap w b2 c c' e (0, 0) hb, hs⟩
  ·exact ⟨c2, (setRow_other w b b2 c' e1).trans h, rfl⟩
 ·rw [setRow_other w b b2 c' (by omega)] at h2
  exact absurd (Array.getElem?_eq_some_iff.1 h2).1 (Nat.not_lt.2 h1)
theorem iX {w : World} {st : Nat → Nat → Prop} (hlt : ∀ b o, st b o → b < w.heap.size) {T : Nat → Prop} {ob : Obj} : Ev w st (w.alloc ob) (fun b o => st b o ∨ (b = w.heap.size ∧ T o)) :=
 fun b o h => ⟨.inl h, World.cell?_alloc_lt w _ _ (hlt b o h)⟩
theorem St.fresh {n : Nat} {w0 : Base} {w : World} {F : Nat → Prop} {g : Gh} {s : AS} {a : Act} (hs : St n w0 F g s a w) (D : Nat → Bool) (hDl : ∀ i, D i = true → i < M1) (d : Nat) (hD : D d = true) (T : Nat → Prop) (c : Array Value) (e : TypeId) :
  St n w0 F ⟨fun b o => g.st b o ∨ (b = w.heap.size ∧ T o), fun i => if i = d then some w.heap.size else if D i then none else g.ow i⟩ (cv D s) a (w.alloc (.cells c e)) := by
 refine hs.evolve D hDl (iX hs.lt) (fun id b hd h => ?_) (fun i j b h1 h2 => ?_) (fun i b h => ?_) (fun b o h => ?_) (fun b h => ?_) rfl rfl rfl (by simp) (fun b hb o => ⟨fun h => h.resolve_right fun h => by have := hs.fl b hb; have := hs.size; omega, .inl⟩) (fun i hi => by
  have h1 : i ≠ d := fun e => by have := hDl d hD; omega
  have h2 : D i = false := by
   cases hq : D i
   ·rfl
   ·have := hDl i hq; omega
  simp only [if_neg h1, h2]; rfl)
 ·have hne : id ≠ d := fun e => by subst e; rw [hD] at hd; cases hd
  have hlt := (hs.own id b h).1
  refine ⟨by simp only [if_neg hne, hd]; exact h, di hlt, fun o ho => ho.resolve_right fun ⟨e, _⟩ => by omega⟩
 ·have key : ∀ i, (if i = d then some w.heap.size else if D i then none else g.ow i) = some b → (i = d ∧ b = w.heap.size) ∨ (i ≠ d ∧ g.ow i = some b ∧ b < w.heap.size) := by
   intro i h
   by_cases e1 : i = d
   ·rw [if_pos e1] at h; cases h; exact .inl ⟨e1, rfl⟩
   ·rw [if_neg e1] at h
    split at h
    ·cases h
    ·exact .inr ⟨e1, h, (hs.own i b h).1⟩
  rcases key i h1 with ⟨a1, a2⟩ | ⟨a1, a2, a3⟩ <;> rcases key j h2 with ⟨b1, b2⟩ | ⟨b1, b2, b3⟩
  ·rw [a1, b1]
  ·omega
  ·omega
  ·exact hs.inj i j b a2 b2
 ·dsimp only at h
  by_cases e1 : i = d
  ·rw [if_pos e1] at h; cases h
   exact ⟨by simp, fun hF => by have := hs.fl _ hF; have := hs.size; omega⟩
  ·rw [if_neg e1] at h
   split at h
   ·cases h
   ·have := hs.own i b h; exact ⟨by simp; omega, this.2⟩
 ·rcases h with h | ⟨h, _⟩
  ·have := hs.lt b o h; simp; omega
  ·simp; omega
 ·have := hs.fl b h; have := hs.size
  exact di (by omega)
theorem St.settled {n : Nat} {w0 : Base} {w : World} {F : Nat → Prop} {g : Gh} {s : AS} {a : Act} (hs : St n w0 F g s a w) (T : Nat → Prop) (c : Array Value) (e : TypeId) :
  St n w0 F ⟨fun b o => g.st b o ∨ (b = w.heap.size ∧ T o), g.ow⟩ s a (w.alloc (.cells c e)) := by
 refine hs.evolve0 (iX hs.lt) (fun id b h => ?_) hs.inj (fun i b h => ?_) (fun b o h => ?_) (fun b h => ?_) rfl rfl rfl (by simp) (fun b hb o => ⟨fun h => h.resolve_right fun h => by have := hs.fl b hb; have := hs.size; omega, .inl⟩) (fun _ _ => rfl)
 ·have hlt := (hs.own id b h).1
  exact ⟨h, di hlt, fun o ho => ho.resolve_right fun ⟨e, _⟩ => by omega⟩
 ·have := hs.own i b h; exact ⟨by simp; omega, this.2⟩
 ·rcases h with h | ⟨h, _⟩
  ·have := hs.lt b o h; simp; omega
  ·simp; omega
 ·have := hs.fl b h; have := hs.size
  exact di (by omega)
theorem add_lit (b o n : Nat) : (⟨b, o, none⟩ : Addr).add n = ⟨b, o + n, none⟩ := by
 unfold Addr.add; split
 ·rename_i e; subst e; rfl
 ·rfl
theorem eT {P : Program} {tt : List (Nat × TI)} (good : dr P tt) {t : Nat} {i : TI} (h : look tt t = some i) :
  ∃ j, P.info? t = some j ∧ j.size = i.size ∧ j.bytes = i.bytes ∧ ∃ z, j.zero = some z ∧ z.cells.toList = i.zero := by
 have := (good.at h).2
 simp only [Option.map_eq_some_iff, Prod.mk.injEq] at this
 obtain ⟨j, h1, h2, h3, h4⟩ := this
 exact ⟨j, h1, h2, h3, h4⟩
theorem run_sizeOf {P : Program} {tt : List (Nat × TI)} (good : dr P tt) {t : Nat} {i : TI} (h : look tt t = some i) (w : World) : (sizeOf t).run P w = .ok i.size w := by
 obtain ⟨j, h1, h2, _⟩ := eT good h
 simp [sizeOf, typeInfo, h1, h2]
def TK.isAgg : TK → Bool
 | .struct _ => true
 | .array _ _ => true
 | _ => false
theorem lh {P : Program} {tt : List (Nat × TI)} (good : dr P tt) {t : Nat} {i : TI} (h : look tt t = some i) (w : World) : (isAgg t).run P w = .ok i.k.isAgg w := by
 obtain ⟨u, h1, h2⟩ := a6 good h
 rw [← h2]
 simp only [isAgg, Sem.run_bind, run_underlying h1, Result.andThen_ok]
 cases u <;> rfl
section
variable {C : Cx} {o : Oper} {K : AS → Prop} {sl : List (Nat × AV)} {ob : List (Nat × List AV)} {d : Nat}
theorem bX {t : TypeId} {x : Operand} {f off ft : Nat} {i j : TI} {fs : List (Nat × Nat)} {cs : List PV} (ho : o.op = .fieldAddr t x f) (hd : o.dst = some d) (hn : Nat.blt d C.n = true)
  (hi : look C.tt t = some i) (hik : i.k = .struct fs) (hf : fs[f]? = some (off, ft)) (hj : look C.tt ft = some j) (hjs : Nat.beq j.size 0 = false)
  (hx : evo sl x = some (.rptr cs)) (hK : K ⟨(d, .rptr (cs.drop off)) :: sl, ob⟩) : aU C o K ⟨sl, ob⟩ := by
 obtain ⟨u, h1, h2⟩ := a6 C.good hi
 obtain ⟨fa, rfl, h4⟩ := gn (h2.trans hik)
 refine ok_one hd hn (fun g a w hs => ?_) hK
 have h5 := bq hs hx
 generalize hv : a.eval x = v at h5
 cases h5 with
 | rptr cf hc hr =>
  rename_i b o'
  refine ⟨.pointer (some ⟨b, o' + off, none⟩), ?_, ?_⟩
  ·rw [← h4] at hf
   simp only [List.getElem?_map, Array.getElem?_toList, Option.map_eq_some_iff, Prod.mk.injEq] at hf
   obtain ⟨fl, hf1, hf2, hf3⟩ := hf
   have hsz := run_sizeOf C.good hj w
   rw [← hf3] at hsz
   have hne : j.size ≠ 0 := fun e => by rw [e] at hjs; simp at hjs
   simp [execOp, ho, hv, Instr.fieldAt, run_underlying h1, hf1, Instr.sureAddr, fieldPlace, hsz, hne, add_lit, hf2]
  ·refine .rptr (fun k => cf (off + k)) (fun k c hk => ?_) (fun k c hk => ?_)
   ·rw [List.getElem?_drop] at hk
    have := hc _ c hk
    rwa [← Nat.add_assoc] at this
   ·rw [List.getElem?_drop] at hk
    exact hr _ c hk
theorem jH {P : Program} {tt : List (Nat × TI)} (good : dr P tt) {t : Nat} {i : TI} (h : look tt t = some i) (ha : i.k.isAgg = false) {w : World} {a : Addr} {v : Value} (hc : w.cell? a = some v) :
  (loadVar t a).run P w = .ok v w := by
 simp [loadVar, lh good h, ha, hc]
theorem na {P : Program} {tt : List (Nat × TI)} (good : dr P tt) {t : Nat} {i : TI} (h : look tt t = some i) (ha : i.k.isAgg = true) {w : World} {b o : Nat} {f : Nat → Value}
  (hc : ∀ j, j < i.size → w.cell? ⟨b, o + j, none⟩ = some (f j)) :
  (loadVar t ⟨b, o, none⟩).run P w = .ok (.agg ((List.range i.size).map f).toArray) w := by
 have := run_loadCells (P := P) w ⟨b, o, none⟩ i.size f (fun j hj => by rw [add_lit]; exact hc j hj)
 simp [loadVar, lh good h, ha, run_sizeOf good h, this]
theorem dF {t : TypeId} {x : Operand} {i : TI} {c : PV} {cs : List PV} (ho : o.op = .load t x) (hd : o.dst = some d) (hn : Nat.blt d C.n = true)
  (hi : look C.tt t = some i) (hia : i.k.isAgg = false) (hx : evo sl x = some (.rptr cs)) (hc : cs.head? = some c) (hK : K ⟨(d, .p c) :: sl, ob⟩) : aU C o K ⟨sl, ob⟩ := by
 refine ok_one hd hn (fun g a w hs => ?_) hK
 have h5 := bq hs hx
 generalize hv : a.eval x = v at h5
 cases h5 with
 | rptr cf hcf hr =>
  rename_i b o'
  have h0 : cs[0]? = some c := by cases cs with | nil => simp at hc | cons y r => simpa using hc
  have h1 := hcf 0 c h0
  refine ⟨cf 0, ?_, .p (hr 0 c h0)⟩
  have := jH C.good hi hia h1.2
  rw [Nat.add_zero] at this
  simp [execOp, ho, hv, Instr.loadAt, Instr.sureAddr, this]
theorem dC {t : TypeId} {x : Operand} {i : TI} {cs : List PV} (ho : o.op = .load t x) (hd : o.dst = some d) (hn : Nat.blt d C.n = true)
  (hi : look C.tt t = some i) (hia : i.k.isAgg = true) (hx : evo sl x = some (.rptr cs)) (hl : Nat.ble i.size cs.length = true) (hK : K ⟨(d, .p (.agg (cs.take i.size))) :: sl, ob⟩) : aU C o K ⟨sl, ob⟩ := by
 refine ok_one hd hn (fun g a w hs => ?_) hK
 have h5 := bq hs hx
 have hl' : i.size ≤ cs.length := Nat.le_of_ble_eq_true hl
 generalize hv : a.eval x = v at h5
 cases h5 with
 | rptr cf hcf hr =>
  rename_i b o'
  refine ⟨.agg ((List.range i.size).map cf).toArray, ?_, .p (.agg (by simp; omega) fun k c v h1 h2 => ?_)⟩
  ·have := na C.good hi hia (b := b) (o := o') (f := cf) (w := w) (fun j hj => (hcf j cs[j] (List.getElem?_eq_getElem (by omega))).2)
   simp [execOp, ho, hv, Instr.loadAt, Instr.sureAddr, this]
  ·rw [List.getElem?_take] at h1
   split at h1
   ·rename_i hk
    simp only [List.getElem?_toArray, List.getElem?_map, List.getElem?_range hk, Option.map_some, Option.some.injEq] at h2
    subst h2
    exact hr k c h1
   ·cases h1
theorem jp {w : World} {g : Gh} {x : AV} {es : List PV} {v : Value} (hx : x = .p (.slice es) ∨ ∃ tok sz ty, x = .vec tok sz ty es) (h : ARep w g x v) : PRep w g.st (.slice es) v := by
 rcases hx with rfl | ⟨tok, sz, ty, rfl⟩
 ·cases h with | p h => exact h
 ·have := AV.sub_vec tok sz ty es w g v h
  cases this with | p h => exact h
def AV.elems? : AV → Option (List PV)
 | .p (.slice es) => some es
 | .vec _ _ _ es => some es
 | .p (.val (.slice none 0 0)) => some []
 | _ => none
theorem eJ {w : World} {g : Gh} {x : AV} {es : List PV} {v : Value} (hx : x.elems? = some es) (h : ARep w g x v) : PRep w g.st (.slice es) v := by
 unfold AV.elems? at hx
 split at hx
 ·cases hx; exact jp (.inl rfl) h
 ·cases hx; exact jp (.inr ⟨_, _, _, rfl⟩) h
 ·cases hx; exact jp (.inl rfl) (AV.sub_nilv _ _ _ h)
 ·cases hx
theorem mq {w : World} {st : Nat → Nat → Prop} {es : List PV} {v : Value} (h : PRep w st (.slice es) v) : ∃ a cap, v = .slice a es.length cap ∧ es.length ≤ cap := by
 cases h with
 | nils => exact ⟨none, 0, rfl, Nat.le_refl _⟩
 | nile a => exact ⟨some a, 0, rfl, Nat.le_refl _⟩
 | slice sz cf hcap hsz hone hc hr => exact ⟨_, _, rfl, hcap⟩
theorem fv {t e : TypeId} {x : Operand} {y : AV} {es : List PV} {i : TI} (ho : o.op = .call { callee := .builtin .len, args := #[x], argTypes := #[t] }) (hd : o.dst = some d) (hn : Nat.blt d C.n = true)
  (hi : look C.tt t = some i) (hik : i.k = .slice e) (hx : evo sl x = some y) (hy : y.elems? = some es)
  (hK : K ⟨(d, .p (.val (.int .i64 (es.length : Int)))) :: sl, ob⟩) : aU C o K ⟨sl, ob⟩ := by
 obtain ⟨u, h1, h2⟩ := a6 C.good hi
 have h3 := bb (h2.trans hik)
 subst h3
 refine ok_one hd hn (fun g b w hs => ⟨_, ?_, .p (.val _)⟩) hK
 obtain ⟨a, cap, h4, _⟩ := mq (eJ hy (bq hs hx))
 rw [dy ho]
 simp [builtin, h4, Builtin.len_, run_underlying h1, goInt]
theorem nJ {t e : TypeId} {x y : Operand} {z : AV} {es : List PV} {i ie : TI} {k : IntKind} {n : Int} {el : PV} (ho : o.op = .indexAddr t x y) (hd : o.dst = some d) (hn : Nat.blt d C.n = true)
  (hi : look C.tt t = some i) (hik : i.k = .slice e) (hie : look C.tt e = some ie) (hx : evo sl x = some z) (hz : z.elems? = some es)
  (hy : evo sl y = some (.p (.val (.int k n)))) (hb : 0 ≤ n) (hel : es[n.toNat]? = some el) (hsz : el.cells.length = ie.size)
  (hK : K ⟨(d, .rptr el.cells) :: sl, ob⟩) : aU C o K ⟨sl, ob⟩ := by
 obtain ⟨u, h1, h2⟩ := a6 C.good hi
 have h3 := bb (h2.trans hik)
 subst h3
 refine ok_one hd hn (fun g a w hs => ?_) hK
 have hv := eJ hz (bq hs hx)
 generalize hq : a.eval x = v at hv
 have hlt : n.toNat < es.length := (List.getElem?_eq_some_iff.1 hel).1
 cases hv with
 | nils => simp at hlt
 | nile a => simp at hlt
 | slice sz cf hcap hsz' hone hc hr =>
  rename_i b off cap
  have e1 : sz = ie.size := (hsz' el (List.mem_of_getElem? hel)).symm.trans hsz
  subst e1
  refine ⟨.pointer (some ⟨b, off + n.toNat * ie.size, none⟩), ?_, .rptr (cf n.toNat) (fun j c hj => ?_) (fun j c hj => hr _ el j c hel hj)⟩
  ·have hlt' : n < (es.length : Int) := by omega
   simp [execOp, ho, hq, bL hs hy, Instr.indexAt, asIntOf, run_underlying h1, hb, hlt', run_sizeOf C.good hie, add_lit]
  ·exact hc _ el j c hel hj
theorem qU {w : World} {st : Nat → Nat → Prop} {es : List PV} {b off cap : Nat} {sz : Nat} {cf : Nat → Nat → Value} {l h : Nat} (hh : h ≤ es.length) (hlh : l ≤ h)
  (hcap : es.length ≤ cap) (hsz : ∀ e, e ∈ es → e.cells.length = sz) (hone : ∀ e, e ∈ es → ∀ c, c ∈ e.cells → c.one = true)
  (hc : ∀ (i : Nat) e (j : Nat) c, es[i]? = some e → e.cells[j]? = some c → st b (off + i * sz + j) ∧ w.cell? ⟨b, off + i * sz + j, none⟩ = some (cf i j))
  (hr : ∀ (i : Nat) e (j : Nat) c, es[i]? = some e → e.cells[j]? = some c → PRep w st c (cf i j)) :
  PRep w st (.slice ((es.take h).drop l)) (.slice (some ⟨b, off + l * sz, none⟩) (h - l) (cap - l)) := by
 have hlen : ((es.take h).drop l).length = h - l := by simp; omega
 have hmem : ∀ e, e ∈ (es.take h).drop l → e ∈ es := fun e he => List.mem_of_mem_take (List.mem_of_mem_drop he)
 have hget : ∀ (i : Nat) e, ((es.take h).drop l)[i]? = some e → es[l + i]? = some e := by
  intro i e he
  rw [List.getElem?_drop, List.getElem?_take] at he
  split at he
  ·exact he
  ·cases he
 have := PRep.slice (w := w) (st := st) (es := (es.take h).drop l) (b := b) (off := off + l * sz) (cap := cap - l) sz (fun i j => cf (l + i) j) (by omega) (fun e he => hsz e (hmem e he)) (fun e he => hone e (hmem e he))
  (fun i e j c h1 h2 => by
   have := hc (l + i) e j c (hget i e h1) h2
   rw [show off + l * sz + i * sz + j = off + (l + i) * sz + j by rw [Nat.add_mul]; omega]
   exact this) (fun i e j c h1 h2 => hr (l + i) e j c (hget i e h1) h2)
 rw [hlen] at this
 exact this
theorem xh {t e : TypeId} {x : Operand} {lo hi : Option Operand} {z : AV} {es : List PV} {l h : Int} {i ie : TI} (ho : o.op = .slice t x lo hi none) (hd : o.dst = some d) (hn : Nat.blt d C.n = true)
  (hi' : look C.tt t = some i) (hik : i.k = .slice e) (hie : look C.tt e = some ie) (hx : evo sl x = some z) (hz : z.elems? = some es) (hlo : loI sl lo = some l) (hhi : hiI sl (es.length : Int) hi = some h)
  (hb : 0 ≤ l ∧ l ≤ h ∧ h ≤ es.length) (hsz : ∀ e ∈ es, e.cells.length = ie.size)
  (hK : K ⟨(d, .p (.slice ((es.take h.toNat).drop l.toNat))) :: sl, ob⟩) : aU C o K ⟨sl, ob⟩ := by
 obtain ⟨u, h1, h2⟩ := a6 C.good hi'
 have h3 := bb (h2.trans hik)
 subst h3
 refine ok_one hd hn (fun g a w hs => ?_) hK
 have hv := eJ hz (bq hs hx)
 generalize hq : a.eval x = v at hv
 cases hv with
 | nils =>
  simp only [List.length_nil] at hb hhi
  have e1 : l = 0 := by omega
  have e2 : h = 0 := by omega
  subst e1 e2
  have e := iE (P := C.P) hs true 0 0 lo hi hlo hhi (by omega) (Nat.le_refl _)
  refine ⟨.slice none 0 0, ?_, .p (by simpa using PRep.nils)⟩
  simp at e
  simp [execOp, ho, hq, Instr.sliceAt, Instr.slice, run_underlying h1, e, run_sizeOf C.good hie]
 | nile a0 =>
  simp only [List.length_nil] at hb hhi
  have e1 : l = 0 := by omega
  have e2 : h = 0 := by omega
  subst e1 e2
  have e := iE (P := C.P) hs true 0 0 lo hi hlo hhi (by omega) (Nat.le_refl _)
  refine ⟨.slice (some a0) 0 0, ?_, .p (by simpa using PRep.nile a0)⟩
  simp at e
  simp [execOp, ho, hq, Instr.sliceAt, Instr.slice, run_underlying h1, e, run_sizeOf C.good hie]
 | slice sz cf hcap hsz' hone hc hr =>
  rename_i b off cap
  have e := iE (P := C.P) hs true es.length cap lo hi hlo hhi ⟨hb.1, hb.2.1, by omega⟩ hcap
  refine ⟨.slice (if cap = l.toNat then some ⟨b, off, none⟩ else some ⟨b, off + l.toNat * ie.size, none⟩) (h.toNat - l.toNat) (cap - l.toNat), ?_, .p ?_⟩
  ·simp [execOp, ho, hq, Instr.sliceAt, Instr.slice, run_underlying h1, e, run_sizeOf C.good hie, add_lit]
  ·by_cases hcl : cap = l.toNat
   ·rw [if_pos hcl]
    have e3 : (es.take h.toNat).drop l.toNat = [] := by
     apply List.drop_eq_nil_of_le; simp; omega
    have e4 : h.toNat - l.toNat = 0 := by omega
    rw [e3, e4]
    exact PRep.slice 0 (fun _ _ => .nilFunc) (by simp) (fun e he => by simp at he) (fun e he => by simp at he) (fun i e j c h1 => by simp at h1) (fun i e j c h1 => by simp at h1)
   ·rw [if_neg hcl]
    by_cases hes : es = []
    ·subst hes
     simp only [List.length_nil] at hb
     have e5 : h.toNat - l.toNat = 0 := by omega
     rw [e5]
     simp only [List.take_nil, List.drop_nil]
     exact PRep.slice 0 (fun _ _ => .nilFunc) (by simp) (fun e he => by simp at he) (fun e he => by simp at he) (fun i e j c h1 => by simp at h1) (fun i e j c h1 => by simp at h1)
    ·have e1 : sz = ie.size := by
      cases es with
      | nil => exact absurd rfl hes
      | cons y r => exact (hsz' y (by simp)).symm.trans (hsz y (by simp))
     subst e1
     exact qU (by omega) (by omega) hcap hsz' hone hc hr
end
end Go.Ab
end
section
set_option linter.unusedVariables false
set_option linter.unusedSimpArgs false
set_option linter.unnecessarySimpa false
namespace Go.Ab
def PV.onesB : List PV → Bool
 | [] => true
 | c :: r => c.one && onesB r
theorem g5 : ∀ {l : List PV}, PV.onesB l = true → ∀ c, c ∈ l → c.one = true
 | [], _, _, h => by simp at h
 | x :: r, h, c, hc => by
  simp only [PV.onesB, Bool.and_eq_true] at h
  rcases List.mem_cons.1 hc with rfl | hc
  ·exact h.1
  ·exact g5 h.2 c hc
def AV.one : AV → Bool
 | .p c => c.one
 | .vec _ _ _ _ => true
 | .arr _ _ _ _ => true
 | .ptr _ _ => true
 | .bptr _ _ _ => true
 | .rptr _ => true
 | .func _ _ => true
 | .mp _ _ => true
 | .mpr .. => true
 | .stk .. => true
 | _ => false
def AV.onesB : List AV → Bool
 | [] => true
 | c :: r => c.one && onesB r
theorem AV.onesB_mem : ∀ {l : List AV}, AV.onesB l = true → ∀ c, c ∈ l → c.one = true
 | [], _, _, h => by simp at h
 | x :: r, h, c, hc => by
  simp only [AV.onesB, Bool.and_eq_true] at h
  rcases List.mem_cons.1 hc with rfl | hc
  ·exact h.1
  ·exact AV.onesB_mem h.2 c hc
theorem PV.one_rep {w : World} {st : Nat → Nat → Prop} {x : PV} {v : Value} (h : PRep w st x v) (ho : x.one = true) : v.oneCell' = true := by
 cases h with
 | val v => exact ho
 | agg hl h => simp [PV.one] at ho
 | ifc => rfl
 | aint => rfl
 | nils => rfl
 | nile a => rfl
 | slice => rfl
theorem AV.one_rep {w : World} {g : Gh} {x : AV} {v : Value} (h : ARep w g x v) (ho : x.one = true) : v.oneCell' = true := by
 cases h with
 | undef => simp [AV.one] at ho
 | p h => exact PV.one_rep h ho
 | agg => simp [AV.one] at ho
 | vecn => rfl
 | vece => rfl
 | vec => rfl
 | arr => rfl
 | ptr => rfl
 | bptrn => rfl
 | bptr => rfl
 | rptr => rfl
 | tuple => simp [AV.one] at ho
 | func => rfl
 | mp => rfl
 | mpr => rfl
 | stkn => rfl
 | stke => rfl
 | stk => rfl
theorem oB {v : Value} (h : v.oneCell' = true) : v.cells = #[v] := by
 cases v <;> first | rfl | simp [Value.oneCell'] at h
def AV.cellsA : AV → Option (List AV)
 | .p (.agg cs) => bif PV.onesB cs then some (cs.map .p) else none
 | .agg cs => bif AV.onesB cs then some cs else none
 | .p (.val v) => bif v.oneCell' then some [.p (.val v)] else none
 | .p (.slice es) => some [.p (.slice es)]
 | .vec t s y es => some [.vec t s y es]
 | .arr i s o n => some [.arr i s o n]
 | .ptr i o => some [.ptr i o]
 | .bptr T sz i => some [.bptr T sz i]
 | .rptr cs => some [.rptr cs]
 | .func f cs => some [.func f cs]
 | .stk t s es => some [.stk t s es]
 | _ => none
theorem kC {w : World} {g : Gh} {x : AV} {xs : List AV} {v : Value} (hx : x.cellsA = some xs) (h : ARep w g x v) :
  v.cells.size = xs.length ∧ ∀ (i : Nat) c u, xs[i]? = some c → v.cells[i]? = some u → ARep w g c u ∧ u.oneCell' = true := by
 have single : ∀ {y : AV}, ARep w g y v → y.one = true → xs = [y] → v.cells.size = xs.length ∧ ∀ (i : Nat) c u, xs[i]? = some c → v.cells[i]? = some u → ARep w g c u ∧ u.oneCell' = true := by
  intro y hy ho e
  have h1 := AV.one_rep hy ho
  rw [oB h1, e]
  refine ⟨rfl, fun i c u h2 h3 => ?_⟩
  cases i with
  | zero => simp only [List.getElem?_cons_zero, Option.some.injEq] at h2; simp at h3; subst h2 h3; exact ⟨hy, h1⟩
  | succ i => simp at h2
 unfold AV.cellsA at hx
 split at hx
 ·rename_i cs
  cases ho : PV.onesB cs <;> rw [ho] at hx <;> simp only [cond_true, cond_false, Option.some.injEq, reduceCtorEq] at hx
  subst hx
  cases h with
  | p h =>
   cases h with
   | agg hl h =>
    refine ⟨by simpa [Value.cells] using hl, fun i c u h2 h3 => ?_⟩
    simp only [List.getElem?_map, Option.map_eq_some_iff] at h2
    obtain ⟨c', h2, rfl⟩ := h2
    have h4 := h i c' u h2 h3
    exact ⟨.p h4, PV.one_rep h4 (g5 ho c' (List.mem_of_getElem? h2))⟩
 ·rename_i cs
  cases ho : AV.onesB cs <;> rw [ho] at hx <;> simp only [cond_true, cond_false, Option.some.injEq, reduceCtorEq] at hx
  subst hx
  cases h with
  | agg hl h =>
   refine ⟨hl, fun i c u h2 h3 => ?_⟩
   have h4 := h i c u h2 h3
   exact ⟨h4, AV.one_rep h4 (AV.onesB_mem ho c (List.mem_of_getElem? h2))⟩
 ·rename_i v'
  cases ho : v'.oneCell' <;> rw [ho] at hx <;> simp only [cond_true, cond_false, Option.some.injEq, reduceCtorEq] at hx
  exact single h ho hx.symm
 all_goals first
  | (simp only [Option.some.injEq] at hx; exact single h rfl hx.symm)
  | (cases hx)
def vT : List AV → Option (List PV)
 | [] => some []
 | .p x :: r => match vT r with
  | some l => some (x :: l)
  | none => none
 | _ :: _ => none
def l7 (cs : List AV) : AV := match vT cs with
 | some l => .p (.agg l)
 | none => .agg cs
theorem wO : ∀ {cs : List AV} {l : List PV}, vT cs = some l → cs = l.map .p
 | [], l, h => by simp only [vT, Option.some.injEq] at h; subst h; rfl
 | x :: r, l, h => by
  cases x <;> simp only [vT, reduceCtorEq] at h
  split at h
  ·rename_i l' h'; cases h; rw [wO h']; rfl
  ·cases h
theorem ni {w : World} {g : Gh} {cs : List AV} {vs : Array Value} (hl : vs.size = cs.length) (h : ∀ (i : Nat) c v, cs[i]? = some c → vs[i]? = some v → ARep w g c v) : ARep w g (l7 cs) (.agg vs) := by
 unfold l7
 split
 ·rename_i l hp
  have e := wO hp
  refine .p (.agg (by rw [hl, e]; simp) fun i c v h1 h2 => ?_)
  have := h i (.p c) v (by rw [e]; simp [h1]) h2
  cases this with | p h => exact h
 ·exact .agg hl h
theorem jt {n : Nat} {w0 : Base} {w : World} {F : Nat → Prop} {g : Gh} {s : AS} {a : Act} (hs : St n w0 F g s a w) {b : Nat} {c : Array Value} {e : TypeId} (hb : w.heap[b]? = some (.cells c e (0, 0))) (o : Nat) :
  w.cell? ⟨b, o, none⟩ = c[o]? := by
 simp [World.cell?, hb]
section
variable {C : Cx} {o : Oper} {K : AS → Prop} {sl : List (Nat × AV)} {ob : List (Nat × List AV)} {d : Nat}
theorem zA {x : AV} {cs : List AV} (hd : o.dst = some d) (hn : Nat.blt d C.n = true)
  (h : ∀ g a w, St C.n C.w0 C.F g ⟨sl, ob⟩ a w → ∃ e v, (execOp a.eval o).run C.P w = .ok (.value (.pointer (some ⟨w.heap.size, 0, none⟩))) (w.alloc (.cells v.cells e)) ∧ ARep w g x v)
  (hx : x.cellsA = some cs)
  (hK : K ⟨(d, .ptr d 0) :: (cv (fun i => Nat.beq i d) ⟨sl, ob⟩).sl, (d, j4 (fun i => Nat.beq i d) cs) :: (cv (fun i => Nat.beq i d) ⟨sl, ob⟩).ob⟩) : aU C o K ⟨sl, ob⟩ := by
 intro g a w hs
 obtain ⟨e, v, h1, h2⟩ := h g a w hs
 obtain ⟨hsz, hcs⟩ := kC hx h2
 unfold Oper.wp
 rw [h1]
 have hDd : (fun i => Nat.beq i d) d = true := by simp
 have hdl : d < M1 := by have h1 := Nat.le_of_ble_eq_true C.nl; have h2 : d < C.n := Nat.blt_eq ▸ hn; omega
 have hf := hs.fresh (fun i => Nat.beq i d) (fun i hi => by have := Nat.eq_of_beq_eq_true hi; omega) d hDd (fun _ => False) v.cells e
 refine ⟨⟨fun b o => g.st b o ∨ (b = w.heap.size ∧ False), fun i => if i = d then some w.heap.size else if Nat.beq i d then none else g.ow i⟩, _, ?_, hK⟩
 have hp := hf.put (d := o.dst) (fun t ht => by rw [hd] at ht; cases ht; exact Nat.blt_eq ▸ hn)
  (x := .ptr d 0) (v := .pointer (some ⟨w.heap.size, 0, none⟩)) (.ptr (by simp))
 rw [hd] at hp ⊢
 have hE : EvO (fun i => Nat.beq i d) w g (w.alloc (.cells v.cells e)) ⟨fun b o => g.st b o ∨ (b = w.heap.size ∧ False), fun i => if i = d then some w.heap.size else if Nat.beq i d then none else g.ow i⟩ := by
  refine ⟨iX hs.lt, fun id b hD hid => ?_, fun id b c e' hD hid hb => ⟨c, ?_, rfl⟩, fun id b o hD hid ho => ?_, fun id b es k hD hid hb => (di (hs.own id b hid).1).trans hb, fun i hi => ?lo, fun id b o hD hid _ => di (hs.own id b hid).1⟩
  case lo =>
   cases hq : Nat.beq i d
   ·rfl
   ·have := Nat.eq_of_beq_eq_true hq; have := sU hi; omega
  ·have hne : id ≠ d := fun e => by subst e; simp at hD
   simp only [if_neg hne, hD]; exact hid
  ·exact (di (hs.own id b hid).1).trans hb
  ·exact ho.resolve_right fun h => h.2
 refine { hp with ob := fun id cs' hc => ?_ }
 simp only [AS.put, bn] at hc
 by_cases e1 : d = id
 ·subst e1
  simp only [if_true, Option.some.injEq] at hc
  subst hc
  refine ⟨w.heap.size, v.cells, e, by simp, cN, by simp [gM, hsz], fun o ho => ?_, fun i y hy => ?_⟩
  ·rcases ho with ho | ⟨_, ho⟩
   ·exact absurd (hs.lt _ _ ho) (by omega)
   ·exact ho
  ·simp only [gM, List.getElem?_map, Option.map_eq_some_iff] at hy
   obtain ⟨z, hz, rfl⟩ := hy
   have hi : i < v.cells.size := by rw [hsz]; exact (List.getElem?_eq_some_iff.1 hz).1
   exact ⟨v.cells[i], Array.getElem?_eq_getElem hi, (hcs i z _ hz (Array.getElem?_eq_getElem hi)).1.dem hE⟩
 ·rw [if_neg e1] at hc
  exact hp.ob id cs' hc
theorem AR {x c0 : AV} {cs : List AV} {T sz : Nat} (hd : o.dst = some d) (hn : Nat.blt d C.n = true)
  (h : ∀ g a w, St C.n C.w0 C.F g ⟨sl, ob⟩ a w → ∃ v, (execOp a.eval o).run C.P w = .ok (.value (.pointer (some ⟨w.heap.size, 0, none⟩))) (w.alloc (.cells v.cells T)) ∧ ARep w g x v ∧ v.cells.size = sz ∧ v.cells[0]? = some (.pointer none))
  (hx : x.cellsA = some (c0 :: cs))
  (hK : K ⟨(d, .ptr d 0) :: (cv (fun i => Nat.beq i d) ⟨sl, ob⟩).sl, (d, .bptr T sz d :: j4 (fun i => Nat.beq i d) cs) :: (cv (fun i => Nat.beq i d) ⟨sl, ob⟩).ob⟩) : aU C o K ⟨sl, ob⟩ := by
 intro g a w hs
 obtain ⟨v, h1, h2, hz2, hz0⟩ := h g a w hs
 obtain ⟨hsz, hcs⟩ := kC hx h2
 unfold Oper.wp
 rw [h1]
 have hDd : (fun i => Nat.beq i d) d = true := by simp
 have hdl : d < M1 := by have h1 := Nat.le_of_ble_eq_true C.nl; have h2 : d < C.n := Nat.blt_eq ▸ hn; omega
 have hf := hs.fresh (fun i => Nat.beq i d) (fun i hi => by have := Nat.eq_of_beq_eq_true hi; omega) d hDd (fun _ => False) v.cells T
 refine ⟨⟨fun b o => g.st b o ∨ (b = w.heap.size ∧ False), fun i => if i = d then some w.heap.size else if Nat.beq i d then none else g.ow i⟩, _, ?_, hK⟩
 have hp := hf.put (d := o.dst) (fun t ht => by rw [hd] at ht; cases ht; exact Nat.blt_eq ▸ hn)
  (x := .ptr d 0) (v := .pointer (some ⟨w.heap.size, 0, none⟩)) (.ptr (by simp))
 rw [hd] at hp ⊢
 have hE : EvO (fun i => Nat.beq i d) w g (w.alloc (.cells v.cells T)) ⟨fun b o => g.st b o ∨ (b = w.heap.size ∧ False), fun i => if i = d then some w.heap.size else if Nat.beq i d then none else g.ow i⟩ := by
  refine ⟨iX hs.lt, fun id b hD hid => ?_, fun id b c e' hD hid hb => ⟨c, ?_, rfl⟩, fun id b o hD hid ho => ?_, fun id b es k hD hid hb => (di (hs.own id b hid).1).trans hb, fun i hi => ?lo, fun id b o hD hid _ => di (hs.own id b hid).1⟩
  case lo =>
   cases hq : Nat.beq i d
   ·rfl
   ·have := Nat.eq_of_beq_eq_true hq; have := sU hi; omega
  ·have hne : id ≠ d := fun e => by subst e; simp at hD
   simp only [if_neg hne, hD]; exact hid
  ·exact (di (hs.own id b hid).1).trans hb
  ·exact ho.resolve_right fun h => h.2
 refine { hp with ob := fun id cs' hc => ?_ }
 simp only [AS.put, bn] at hc
 by_cases e1 : d = id
 ·subst e1
  simp only [if_true, Option.some.injEq] at hc
  subst hc
  refine ⟨w.heap.size, v.cells, T, by simp, cN, by simp [gM, hsz], fun o ho => ?_, fun i y hy => ?_⟩
  ·rcases ho with ho | ⟨_, ho⟩
   ·exact absurd (hs.lt _ _ ho) (by omega)
   ·exact ho
  ·cases i with
   | zero =>
    simp only [List.getElem?_cons_zero, Option.some.injEq] at hy
    subst hy
    exact ⟨_, hz0, .bptrn (by simp) cN hz2⟩
   | succ i =>
    simp only [List.getElem?_cons_succ, gM, List.getElem?_map, Option.map_eq_some_iff] at hy
    obtain ⟨z, hz, rfl⟩ := hy
    have hz' : (c0 :: cs)[i + 1]? = some z := by simpa using hz
    have hi : i + 1 < v.cells.size := by rw [hsz]; exact (List.getElem?_eq_some_iff.1 hz').1
    exact ⟨v.cells[i + 1], Array.getElem?_eq_getElem hi, (hcs (i + 1) z _ hz' (Array.getElem?_eq_getElem hi)).1.dem hE⟩
 ·rw [if_neg e1] at hc
  exact hp.ob id cs' hc
theorem yo {t : TypeId} {v : Operand} {x : AV} {cs : List AV} (ho : o.op = .box t v) (hd : o.dst = some d) (hn : Nat.blt d C.n = true) (hx : evo sl v = some x) (hc : x.cellsA = some cs)
  (hK : K ⟨(d, .ptr d 0) :: (cv (fun i => Nat.beq i d) ⟨sl, ob⟩).sl, (d, j4 (fun i => Nat.beq i d) cs) :: (cv (fun i => Nat.beq i d) ⟨sl, ob⟩).ob⟩) : aU C o K ⟨sl, ob⟩ :=
 zA hd hn (fun g a w hs => ⟨t, a.eval v, by simp [execOp, ho, Instr.box, newVar, newRow], bq hs hx⟩) hc hK
def ew (i : TI) : List AV := i.zero.map fun v => .p (.val v)
theorem jx {P : Program} {tt : List (Nat × TI)} (good : dr P tt) {t : Nat} {i : TI} (h : look tt t = some i) (w : World) : ∃ z, (zeroValue t).run P w = .ok z w ∧ z.cells.toList = i.zero := by
 obtain ⟨j, h1, _, _, z, h2, h3⟩ := eT good h
 exact ⟨z, by simp [zeroValue, typeInfo, h1, h2], h3⟩
theorem ln {t : TypeId} {i : TI} (ho : o.op = .alloc t) (hd : o.dst = some d) (hn : Nat.blt d C.n = true) (hi : look C.tt t = some i) (hz : AV.cellsA (.agg (ew i)) = some (ew i))
  (hK : K ⟨(d, .ptr d 0) :: (cv (fun i => Nat.beq i d) ⟨sl, ob⟩).sl, (d, j4 (fun i => Nat.beq i d) (ew i)) :: (cv (fun i => Nat.beq i d) ⟨sl, ob⟩).ob⟩) : aU C o K ⟨sl, ob⟩ := by
 refine zA (x := .agg (ew i)) hd hn (fun g a w hs => ?_) hz hK
 obtain ⟨z, h1, h2⟩ := jx C.good hi w
 refine ⟨t, .agg z.cells, by simp [execOp, ho, Instr.alloc, h1, newVar, newRow, Value.cells], .agg (by simp [ew, ← h2]) fun k c v h3 h4 => ?_⟩
 simp only [ew, List.getElem?_map, Option.map_eq_some_iff, ← h2, Array.getElem?_toList] at h3
 obtain ⟨u, h5, rfl⟩ := h3
 rw [h4] at h5; cases h5
 exact .p (.val _)
theorem pN {t : TypeId} {i : TI} {zs : List Value} (ho : o.op = .alloc t) (hd : o.dst = some d) (hn : Nat.blt d C.n = true) (hi : look C.tt t = some i) (hz0 : i.zero = .pointer none :: zs) (hz : AV.cellsA (.agg (ew i)) = some (ew i)) (hsz : Nat.beq i.zero.length i.size = true)
  (hK : K ⟨(d, .ptr d 0) :: (cv (fun i => Nat.beq i d) ⟨sl, ob⟩).sl, (d, .bptr t i.size d :: j4 (fun i => Nat.beq i d) (zs.map fun v => .p (.val v))) :: (cv (fun i => Nat.beq i d) ⟨sl, ob⟩).ob⟩) : aU C o K ⟨sl, ob⟩ := by
 have hz' : AV.cellsA (.agg (ew i)) = some (.p (.val (.pointer none)) :: zs.map fun v => .p (.val v)) := by rw [hz, ew, hz0]; rfl
 have hsz' := Nat.eq_of_beq_eq_true hsz
 refine AR (x := .agg (ew i)) hd hn (fun g a w hs => ?_) hz' hK
 obtain ⟨z, h1, h2⟩ := jx C.good hi w
 refine ⟨.agg z.cells, by simp [execOp, ho, Instr.alloc, h1, newVar, newRow, Value.cells], .agg (by simp [ew, ← h2]) (fun k c v h3 h4 => ?_), ?_, ?_⟩
 ·simp only [ew, List.getElem?_map, Option.map_eq_some_iff, ← h2, Array.getElem?_toList] at h3
  obtain ⟨u, h5, rfl⟩ := h3
  rw [h4] at h5; cases h5
  exact .p (.val _)
 ·show z.cells.size = i.size
  rw [← hsz', ← h2, Array.length_toList]
 ·show z.cells[0]? = some (.pointer none)
  rw [← Array.getElem?_toList, h2, hz0]; rfl
theorem ah {t : TypeId} {x : Operand} {f off ft id k : Nat} {i j : TI} {fs : List (Nat × Nat)} (ho : o.op = .fieldAddr t x f) (hd : o.dst = some d) (hn : Nat.blt d C.n = true)
  (hi : look C.tt t = some i) (hik : i.k = .struct fs) (hf : fs[f]? = some (off, ft)) (hj : look C.tt ft = some j) (hjs : Nat.beq j.size 0 = false)
  (hx : evo sl x = some (.ptr id k)) (hK : K ⟨(d, .ptr id (k + off)) :: sl, ob⟩) : aU C o K ⟨sl, ob⟩ := by
 obtain ⟨u, h1, h2⟩ := a6 C.good hi
 obtain ⟨fa, rfl, h4⟩ := gn (h2.trans hik)
 refine ok_one hd hn (fun g a w hs => ?_) hK
 have h5 := bq hs hx
 generalize hv : a.eval x = v at h5
 cases h5 with
 | ptr how =>
  rename_i b
  refine ⟨.pointer (some ⟨b, k + off, none⟩), ?_, .ptr how⟩
  rw [← h4] at hf
  simp only [List.getElem?_map, Array.getElem?_toList, Option.map_eq_some_iff, Prod.mk.injEq] at hf
  obtain ⟨fl, hf1, hf2, hf3⟩ := hf
  have hsz := run_sizeOf C.good hj w
  rw [← hf3] at hsz
  have hne : j.size ≠ 0 := fun e => by rw [e] at hjs; simp at hjs
  simp [execOp, ho, hv, Instr.fieldAt, run_underlying h1, hf1, Instr.sureAddr, fieldPlace, hsz, hne, add_lit, hf2]
theorem g7 {x : Operand} {id k : Nat} (ho : o.op = .nilCheck x) (hd : o.dst = some d) (hn : Nat.blt d C.n = true)
  (hx : evo sl x = some (.ptr id k)) (hK : K ⟨(d, .ptr id k) :: sl, ob⟩) : aU C o K ⟨sl, ob⟩ := by
 refine ok_one hd hn (fun g a w hs => ?_) hK
 have h5 := bq hs hx
 generalize hv : a.eval x = v at h5
 cases h5 with
 | ptr how => exact ⟨_, by simp [execOp, ho, hv], .ptr how⟩
theorem il {t e : TypeId} {x y : Operand} {i ie : TI} {k : IntKind} {n : Int} {id sz off m : Nat} (ho : o.op = .indexAddr t x y) (hd : o.dst = some d) (hn : Nat.blt d C.n = true)
  (hi : look C.tt t = some i) (hik : i.k = .slice e) (hie : look C.tt e = some ie) (hx : evo sl x = some (.arr id sz off m))
  (hy : evo sl y = some (.p (.val (.int k n)))) (hsz : ie.size = sz) (hb : 0 ≤ n ∧ n < m)
  (hK : K ⟨(d, .ptr id (off + n.toNat * sz)) :: sl, ob⟩) : aU C o K ⟨sl, ob⟩ := by
 obtain ⟨u, h1, h2⟩ := a6 C.good hi
 have h3 := bb (h2.trans hik)
 subst h3 hsz
 refine ok_one hd hn (fun g a w hs => ?_) hK
 have h5 := bq hs hx
 generalize hv : a.eval x = v at h5
 cases h5 with
 | arr how hb' hcs hnc =>
  rename_i b cap c e'
  exact ⟨.pointer (some ⟨b, off + n.toNat * ie.size, none⟩), by simp [execOp, ho, hv, bL hs hy, Instr.indexAt, asIntOf, run_underlying h1, hb.1, hb.2, run_sizeOf C.good hie, add_lit], .ptr how⟩
theorem fp {t e : TypeId} {x : Operand} {i : TI} {id sz off m : Nat} (ho : o.op = .call { callee := .builtin .len, args := #[x], argTypes := #[t] }) (hd : o.dst = some d) (hn : Nat.blt d C.n = true)
  (hi : look C.tt t = some i) (hik : i.k = .slice e) (hx : evo sl x = some (.arr id sz off m))
  (hK : K ⟨(d, .p (.val (.int .i64 (m : Int)))) :: sl, ob⟩) : aU C o K ⟨sl, ob⟩ := by
 obtain ⟨u, h1, h2⟩ := a6 C.good hi
 have h3 := bb (h2.trans hik)
 subst h3
 refine ok_one hd hn (fun g b w hs => ?_) hK
 have h5 := bq hs hx
 generalize hv : b.eval x = v at h5
 cases h5 with
 | arr how hb' hcs hnc => exact ⟨_, by rw [dy ho]; simp [builtin, hv, Builtin.len_, run_underlying h1, goInt], .p (.val _)⟩
theorem bB {t : TypeId} {x : Operand} {i : TI} {id k : Nat} {cs : List AV} {y : AV} (ho : o.op = .load t x) (hd : o.dst = some d) (hn : Nat.blt d C.n = true)
  (hi : look C.tt t = some i) (hia : i.k.isAgg = false) (hx : evo sl x = some (.ptr id k)) (hob : look ob id = some cs) (hy : cs[k]? = some y) (hK : K ⟨(d, y) :: sl, ob⟩) : aU C o K ⟨sl, ob⟩ := by
 refine ok_one hd hn (fun g a w hs => ?_) hK
 have h5 := bq hs hx
 generalize hv : a.eval x = v at h5
 cases h5 with
 | ptr how =>
  obtain ⟨b', c, e, k1, k2, k3, k4, k5⟩ := hs.ob id cs hob
  rw [how] at k1; cases k1
  obtain ⟨u, hu, hr⟩ := k5 k y hy
  have hc := (jt hs k2 k).trans hu
  exact ⟨u, by simp [execOp, ho, hv, Instr.loadAt, Instr.sureAddr, jH C.good hi hia hc], hr⟩
theorem gx {t : TypeId} {x : Operand} {i : TI} {id k : Nat} {cs : List AV} (ho : o.op = .load t x) (hd : o.dst = some d) (hn : Nat.blt d C.n = true)
  (hi : look C.tt t = some i) (hia : i.k.isAgg = true) (hx : evo sl x = some (.ptr id k)) (hob : look ob id = some cs) (hl : Nat.ble (k + i.size) cs.length = true) {y : AV} (hy : some (l7 ((cs.drop k).take i.size)) = some y)
  (hK : K ⟨(d, y) :: sl, ob⟩) : aU C o K ⟨sl, ob⟩ := by
 cases hy
 refine ok_one hd hn (fun g a w hs => ?_) hK
 have h5 := bq hs hx
 have hl' := Nat.le_of_ble_eq_true hl
 generalize hv : a.eval x = v at h5
 cases h5 with
 | ptr how =>
  rename_i b
  obtain ⟨b', c, e, k1, k2, k3, k4, k5⟩ := hs.ob id cs hob
  rw [how] at k1; cases k1
  have hc : ∀ j, j < i.size → w.cell? ⟨b, k + j, none⟩ = some (c.getD (k + j) Go.undef) := by
   intro j hj
   rw [jt hs k2]
   have : k + j < c.size := by omega
   simp [Array.getD, this]
  have hld := na C.good hi hia (f := fun j => c.getD (k + j) Go.undef) hc
  refine ⟨.agg ((List.range i.size).map fun j => c.getD (k + j) Go.undef).toArray, by simp only [execOp, ho, hv, Instr.loadAt, Instr.sureAddr, Sem.run_bind, Sem.run_pure, Result.andThen_ok, hld], ni (by simp; omega) fun j y v h1 h2 => ?_⟩
  rw [List.getElem?_take] at h1
  split at h1
  ·rename_i hj
   rw [List.getElem?_drop] at h1
   obtain ⟨u, hu, hr⟩ := k5 (k + j) y h1
   simp only [List.getElem?_toArray, List.getElem?_map, List.getElem?_range hj, Option.map_some, Option.some.injEq] at h2
   subst h2
   rw [Array.getD_eq_getD_getElem?, hu]
   exact hr
  ·cases h1
theorem iB {α : Type} (l xs : List α) (k : Nat) (h : k + xs.length ≤ l.length) (i : Nat) :
  (l.take k ++ xs ++ l.drop (k + xs.length))[i]? = if k ≤ i ∧ i < k + xs.length then xs[i - k]? else l[i]? := by
 have hlen : (l.take k).length = k := by rw [List.length_take]; omega
 by_cases h1 : i < k
 ·rw [List.append_assoc, List.getElem?_append_left (by omega), List.getElem?_take, if_pos h1, if_neg (by omega)]
 ·rw [List.append_assoc, List.getElem?_append_right (by omega), hlen]
  by_cases h2 : i < k + xs.length
  ·rw [List.getElem?_append_left (by omega), if_pos (by omega)]
  ·rw [List.getElem?_append_right (by omega), List.getElem?_drop, if_neg (by omega)]
   congr 1; omega
def pV (cs : List AV) (k : Nat) (xs : List AV) : List AV := match xs with
 | [x] => cs.set k x
 | _ => cs.take k ++ xs ++ cs.drop (k + xs.length)
theorem m6 (cs : List AV) (k : Nat) (xs : List AV) (h : k + xs.length ≤ cs.length) (i : Nat) : (pV cs k xs)[i]? = if k ≤ i ∧ i < k + xs.length then xs[i - k]? else cs[i]? := by
 have gen := iB cs xs k h i
 unfold pV
 split
 ·rename_i x
  simp only [List.length_cons, List.length_nil, Nat.zero_add] at h
  rw [List.getElem?_set]
  by_cases e : k = i
  ·subst e; rw [if_pos rfl, if_pos (by omega), if_pos (by simp)]; simp
  ·rw [if_neg e, if_neg (by simp; omega)]
 ·exact gen
theorem qg (cs : List AV) (k : Nat) (xs : List AV) (h : k + xs.length ≤ cs.length) : (pV cs k xs).length = cs.length := by
 unfold pV
 split
 ·simp
 ·simp; omega
theorem gX {t : TypeId} {x v : Operand} {i : TI} {id k : Nat} {cs xs : List AV} {y : AV} (ho : o.op = .store t x v) (hd : o.dst = none)
  (hi : look C.tt t = some i) (hx : evo sl x = some (.ptr id k)) (hv : evo sl v = some y) (hc : y.cellsA = some xs) (hsz : xs.length = i.size) (hob : look ob id = some cs) (hl : k + xs.length ≤ cs.length)
  (hK : K ⟨sl, (id, pV cs k xs) :: ob⟩) : aU C o K ⟨sl, ob⟩ := by
 intro g a w hs
 have h5 := bq hs hx
 have h6 := bq hs hv
 obtain ⟨hs1, hs2⟩ := kC hc h6
 generalize hev : a.eval x = u at h5
 cases h5 with
 | ptr how =>
  rename_i b
  obtain ⟨b', c, e, k1, k2, k3, k4, k5⟩ := hs.ob id cs hob
  rw [how] at k1; cases k1
  have hone : ∀ u ∈ (a.eval v).cells.toList, u.oneCell' = true := by
   intro u hu
   obtain ⟨j, hj, rfl⟩ := List.getElem_of_mem hu
   simp only [Array.length_toList] at hj
   exact (hs2 j (xs[j]'(by omega)) _ (List.getElem?_eq_getElem (by omega)) (by simp [hj])).2
  have hst := run_storeCells_at C.P b k e (a.eval v).cells.toList 0 c w k2 (by simp; omega) hone
  simp only [Nat.add_zero, Array.length_toList] at hst
  obtain ⟨c', hc'⟩ : ∃ c', c' = (c.toList.take k ++ (a.eval v).cells.toList ++ c.toList.drop (k + (a.eval v).cells.size)).toArray := ⟨_, rfl⟩
  rw [← hc'] at hst
  have hsz' := run_sizeOf C.good hi w
  have hne : (a.eval v).cells.size = i.size := hs1.trans hsz
  unfold Oper.wp
  have hrun : (execOp a.eval o).run C.P w = .ok .skip (w.setRow b c') := by
   simp [execOp, ho, hev, Instr.storeAt, Instr.sureAddr, storeVar, hsz', hne, hst]
  rw [hrun]
  simp only [Oper.upon, hd, Act.put]
  have hcell : ∀ j, c'[j]? = if k ≤ j ∧ j < k + xs.length then (a.eval v).cells[j - k]? else c[j]? := by
   intro j
   rw [hc']
   have := iB c.toList (a.eval v).cells.toList k (by simp; omega) j
   simp only [Array.length_toList, Array.getElem?_toList, hs1] at this
   simpa [hs1] using this
  have hsize' : c'.size = c.size := by
   rw [hc']; simp; omega
  have hev' : Ev w g.st (w.setRow b c') g.st := by
   intro b2 o2 h2
   refine ⟨h2, ?_⟩
   have hne : b2 ≠ b := fun e => k4 o2 (e ▸ h2)
   simp only [World.cell?, setRow_other w b b2 c' hne]
  have hE : EvO (fun _ => false) w g (w.setRow b c') g := by
   refine ⟨hev', fun id b _ h => h, fun id b2 c2 e2 _ h h2 => ?_, fun id b o _ _ h => h, fun id b2 es2 k2' _ h h2 => (setRow_other w b b2 c' (fun e => by subst e; rw [k2] at h2; cases h2)).trans h2, fun _ _ => rfl, fun id b2 o _ _ h => setRow_other w b b2 c' (fun e => k4 o (e ▸ h))⟩
   by_cases e1 : b2 = b
   ·subst e1
    rw [k2] at h2; cases h2
    exact ⟨c', setRow_heap w b2 c c' e (0, 0) k2, hsize'⟩
   ·exact ⟨c2, (setRow_other w b b2 c' e1).trans h2, rfl⟩
  refine ⟨g, ⟨sl, (id, pV cs k xs) :: ob⟩, ?_, hK⟩
  refine ⟨hs.nd, hs.sz, fun j => (hs.sl j).mono hE, fun id' cs' h' => ?_, hs.inj, fun j b2 h => ?_, fun b2 o2 h => ?_, hs.fl, fun b2 h => ?_, hs.os, hs.out, hs.tape, ?_, hs.stf, hs.owf, hs.shf.next (fun _ b c e _ _ h => (rZ k2 hsize').1 b c e h), hs.nst, hs.ev0.trans hev'⟩
  ·simp only [bn] at h'
   by_cases e1 : id = id'
   ·subst e1
    simp only [if_true, Option.some.injEq] at h'
    subst h'
    refine ⟨b, c', e, how, setRow_heap w b c c' e (0, 0) k2, by rw [qg _ _ _ hl, hsize']; exact k3, k4, fun j y hy => ?_⟩
    rw [m6 _ _ _ hl] at hy
    split at hy
    ·rename_i hj
     have hlt : j - k < (a.eval v).cells.size := by omega
     refine ⟨(a.eval v).cells[j - k], ?_, ((hs2 (j - k) y _ hy (Array.getElem?_eq_getElem hlt)).1).mono hE⟩
     rw [hcell j, if_pos hj]; exact Array.getElem?_eq_getElem hlt
    ·rename_i hj
     obtain ⟨u, hu, hr⟩ := k5 j y hy
     exact ⟨u, by rw [hcell j, if_neg hj]; exact hu, hr.mono hE⟩
   ·rw [if_neg e1] at h'
    obtain ⟨b2, c2, e2, m1, m2, m3, m4, m5⟩ := hs.ob id' cs' h'
    have hne : b2 ≠ b := fun e => e1 (hs.inj _ _ _ how (e ▸ m1))
    refine ⟨b2, c2, e2, m1, (setRow_other w b b2 c' hne).trans m2, m3, m4, fun j y hy => ?_⟩
    obtain ⟨u, hu, hr⟩ := m5 j y hy
    exact ⟨u, hu, hr.mono hE⟩
  ·have := hs.own j b2 h; exact ⟨by simpa using this.1, this.2⟩
  ·have := hs.lt b2 o2 h; simpa using this
  ·have hne : b2 ≠ b := fun e => (hs.own id b how).2 (e ▸ h)
   exact (setRow_other w b b2 c' hne).trans (hs.fr b2 h)
  ·have := hs.size; simpa using this
end
end Go.Ab
end
section
set_option linter.unusedVariables false
set_option linter.unusedSimpArgs false
set_option linter.unnecessarySimpa false
namespace Go.Ab
def AV.toPV : AV → Option PV
 | .p (.val (.slice none 0 0)) => some (.slice [])
 | .p x => some x
 | .vec _ _ _ es => some (.slice es)
 | .agg cs => match go cs with
  | some l => some (.agg l)
  | none => none
 | _ => none where
 go : List AV → Option (List PV)
 | [] => some []
 | .p x :: r => match go r with
  | some l => some (x :: l)
  | none => none
 | .vec _ _ _ es :: r => match go r with
  | some l => some (.slice es :: l)
  | none => none
 | _ :: _ => none
theorem tw {w : World} {g : Gh} : ∀ {cs : List AV} {l : List PV}, AV.toPV.go cs = some l → cs.length = l.length ∧ ∀ (i : Nat) c y v, cs[i]? = some c → l[i]? = some y → ARep w g c v → PRep w g.st y v
 | [], l, h => by simp only [AV.toPV.go, Option.some.injEq] at h; subst h; exact ⟨rfl, by simp⟩
 | x :: r, l, h => by
  unfold AV.toPV.go at h
  split at h
  ·rename_i e; cases e
  ·rename_i x0 r0 e; cases e
   split at h
   ·rename_i l' h'; cases h
    obtain ⟨h1, h2⟩ := tw (w := w) (g := g) h'
    refine ⟨by simp [h1], fun i c y v hc hy hv => ?_⟩
    cases i with
    | zero => simp only [List.getElem?_cons_zero, Option.some.injEq] at hc hy; subst hc hy; cases hv with | p h => exact h
    | succ i => simp only [List.getElem?_cons_succ] at hc hy; exact h2 i c y v hc hy hv
   ·cases h
  ·rename_i t0 s0 e0 r0 e; cases e
   split at h
   ·rename_i l' h'; cases h
    obtain ⟨h1, h2⟩ := tw (w := w) (g := g) h'
    refine ⟨by simp [h1], fun i c y v hc hy hv => ?_⟩
    cases i with
    | zero => simp only [List.getElem?_cons_zero, Option.some.injEq] at hc hy; subst hc hy; exact jp (.inr ⟨_, _, _, rfl⟩) hv
    | succ i => simp only [List.getElem?_cons_succ] at hc hy; exact h2 i c y v hc hy hv
   ·cases h
  ·cases h
theorem qW {w : World} {g : Gh} {x : AV} {y : PV} {v : Value} (hx : x.toPV = some y) (h : ARep w g x v) : PRep w g.st y v := by
 unfold AV.toPV at hx
 split at hx
 ·cases hx; cases h with | p h => cases h; exact .nils
 ·cases hx; cases h with | p h => exact h
 ·cases hx; exact jp (.inr ⟨_, _, _, rfl⟩) h
 ·split at hx
  ·rename_i cs _ l h'
   cases hx
   cases h with
   | agg hl hh =>
    rename_i vs
    obtain ⟨h1, h2⟩ := tw (w := w) (g := g) h'
    refine .agg (by omega) fun i y v hy hv => ?_
    have hi : i < cs.length := by
     have := (List.getElem?_eq_some_iff.1 hy).1; omega
    exact h2 i cs[i] y v (List.getElem?_eq_getElem hi) hy (hh i _ v (List.getElem?_eq_getElem hi) hv)
  ·cases hx
 ·cases hx
section
variable {C : Cx} {o : Oper} {K : AS → Prop} {sl : List (Nat × AV)} {ob : List (Nat × List AV)} {d : Nat}
theorem wZ {t : TypeId} {x : Operand} {f off ft : Nat} {i j : TI} {fs : List (Nat × Nat)} {cs : List PV} {c : PV} (ho : o.op = .field t x f) (hd : o.dst = some d) (hn : Nat.blt d C.n = true)
  (hi : look C.tt t = some i) (hik : i.k = .struct fs) (hf : fs[f]? = some (off, ft)) (hj : look C.tt ft = some j) (hja : j.k.isAgg = false)
  (hx : evo sl x = some (.p (.agg cs))) (hc : cs[off]? = some c) (hK : K ⟨(d, .p c) :: sl, ob⟩) : aU C o K ⟨sl, ob⟩ := by
 obtain ⟨u, h1, h2⟩ := a6 C.good hi
 obtain ⟨fa, rfl, h4⟩ := gn (h2.trans hik)
 refine ok_one hd hn (fun g a w hs => ?_) hK
 have h5 := bq hs hx
 generalize hv : a.eval x = v at h5
 cases h5 with
 | p h5 =>
  cases h5 with
  | agg hl hh =>
   rename_i vs
   rw [← h4] at hf
   simp only [List.getElem?_map, Array.getElem?_toList, Option.map_eq_some_iff, Prod.mk.injEq] at hf
   obtain ⟨fl, hf1, hf2, hf3⟩ := hf
   subst hf2 hf3
   have hlt : fl.offset < vs.size := by rw [hl]; exact (List.getElem?_eq_some_iff.1 hc).1
   exact ⟨vs[fl.offset], by simp [execOp, ho, hv, Instr.field, run_underlying h1, hf1, asAgg, part, lh C.good hj, hja, hlt], .p (hh _ c _ hc (Array.getElem?_eq_getElem hlt))⟩
theorem w6 {t : TypeId} {x : Operand} {f off ft : Nat} {i j : TI} {fs : List (Nat × Nat)} {cs : List PV} (ho : o.op = .field t x f) (hd : o.dst = some d) (hn : Nat.blt d C.n = true)
  (hi : look C.tt t = some i) (hik : i.k = .struct fs) (hf : fs[f]? = some (off, ft)) (hj : look C.tt ft = some j) (hja : j.k.isAgg = true)
  (hx : evo sl x = some (.p (.agg cs))) (hl' : Nat.ble (off + j.size) cs.length = true) (hK : K ⟨(d, .p (.agg ((cs.drop off).take j.size))) :: sl, ob⟩) : aU C o K ⟨sl, ob⟩ := by
 obtain ⟨u, h1, h2⟩ := a6 C.good hi
 obtain ⟨fa, rfl, h4⟩ := gn (h2.trans hik)
 refine ok_one hd hn (fun g a w hs => ?_) hK
 have h5 := bq hs hx
 have hle := Nat.le_of_ble_eq_true hl'
 generalize hv : a.eval x = v at h5
 cases h5 with
 | p h5 =>
  cases h5 with
  | agg hl hh =>
   rename_i vs
   rw [← h4] at hf
   simp only [List.getElem?_map, Array.getElem?_toList, Option.map_eq_some_iff, Prod.mk.injEq] at hf
   obtain ⟨fl, hf1, hf2, hf3⟩ := hf
   subst hf2 hf3
   refine ⟨.agg (vs.extract fl.offset (fl.offset + j.size)), by simp [execOp, ho, hv, Instr.field, run_underlying h1, hf1, asAgg, part, lh C.good hj, hja, run_sizeOf C.good hj], .p (.agg (by simp; omega) fun k c v h6 h7 => ?_)⟩
   rw [List.getElem?_take] at h6
   split at h6
   ·rename_i hk
    rw [List.getElem?_drop] at h6
    rw [Array.getElem?_extract] at h7
    split at h7
    ·exact hh _ c v h6 h7
    ·cases h7
   ·cases h6
def qj (place : Nat → Option (Nat × Nat)) (cs : List AV) : List (Nat × AV) → Option (List AV)
 | [] => some cs
 | (i, v) :: r => match place i, v.cellsA with
  | some (off, size), some xs => bif Nat.beq xs.length size && Nat.ble (off + size) cs.length then qj place (pV cs off xs) r else none
  | _, _ => none
theorem pY {w : World} {g : Gh} {place : Nat → Option (Nat × Nat)} : ∀ (ps : List (Nat × AV)) (vs : List (Nat × Value)) (cs cs' : List AV) (c : Array Value),
  ps.length = vs.length → (∀ (k : Nat) p q, ps[k]? = some p → vs[k]? = some q → p.1 = q.1 ∧ ARep w g p.2 q.2) →
  c.size = cs.length → (∀ (i : Nat) x v, cs[i]? = some x → c[i]? = some v → ARep w g x v) → qj place cs ps = some cs' →
  ∃ c', Instr.fill place c vs = some c' ∧ c'.size = cs'.length ∧ ∀ (i : Nat) x v, cs'[i]? = some x → c'[i]? = some v → ARep w g x v
 | [], [], cs, cs', c, _, _, hc, hcc, h => by
  simp only [qj, Option.some.injEq] at h; subst h
  exact ⟨c, rfl, hc, hcc⟩
 | [], _ :: _, _, _, _, hl, _, _, _, _ => by simp at hl
 | _ :: _, [], _, _, _, hl, _, _, _, _ => by simp at hl
 | (i, x) :: ps, (i', v) :: vs, cs, cs', c, hl, hp, hc, hcc, h => by
  obtain ⟨e, hxv⟩ := hp 0 (i, x) (i', v) rfl rfl
  simp only at e hxv
  subst e
  simp only [qj] at h
  split at h
  ·rename_i off size xs hpl hxs
   cases hb : (Nat.beq xs.length size && Nat.ble (off + size) cs.length) <;> rw [hb] at h <;> simp only [cond_true, cond_false, reduceCtorEq] at h
   simp only [Bool.and_eq_true] at hb
   have e1 : xs.length = size := Nat.eq_of_beq_eq_true hb.1
   have e2 : off + size ≤ cs.length := Nat.le_of_ble_eq_true hb.2
   obtain ⟨hsz, hcells⟩ := kC hxs hxv
   obtain ⟨g1, g2⟩ := Great.foldl_set off v.cells.toList 0 c
   obtain ⟨c1, hc1⟩ : ∃ c1, c1 = (v.cells.toList.zipIdx 0).foldl (fun cs (x : Value × Nat) => cs.setIfInBounds (off + x.2) x.1) c := ⟨_, rfl⟩
   rw [← hc1] at g1
   obtain ⟨c', h1, h2, h3⟩ := pY ps vs (pV cs off xs) cs' c1 (by simpa using hl) (fun k p q h1 h2 => hp (k + 1) p q (by simpa using h1) (by simpa using h2))
    (by rw [g1, qg _ _ _ (by omega)]; exact hc) (fun k y u hy hu => by
     rw [m6 _ _ _ (by omega)] at hy
     rw [hc1, g2 k] at hu
     simp only [Nat.add_zero, Array.length_toList, hsz] at hu
     by_cases hk : off ≤ k ∧ k < off + xs.length
     ·rw [if_pos hk] at hy
      rw [if_pos ⟨hk.1, hk.2, by omega⟩] at hu
      exact (hcells _ y u hy (by simpa using hu)).1
     ·rw [if_neg hk] at hy
      rw [if_neg (by omega)] at hu
      exact hcc k y u hy hu) h
   refine ⟨c', ?_, h2, h3⟩
   unfold Instr.fill
   simp only [hpl]
   rw [if_neg (by simp [hsz, e1]; omega)]
   have : (v.cells.zipIdx.foldl (fun cs (x : Value × Nat) => cs.setIfInBounds (off + x.2) x.1) c) = c1 := by
    rw [hc1, ← Array.foldl_toList, Array.toList_zipIdx]
   rw [← h1, ← this]
  ·cases h
def gY (sl : List (Nat × AV)) : List (Nat × Operand) → Option (List (Nat × AV))
 | [] => some []
 | (i, x) :: r => match evo sl x, gY sl r with
  | some y, some l => some ((i, y) :: l)
  | _, _ => none
theorem mE {n : Nat} {w0 : Base} {w : World} {F : Nat → Prop} {g : Gh} {a : Act} (hs : St n w0 F g ⟨sl, ob⟩ a w) : ∀ (ps : List (Nat × Operand)) (l : List (Nat × AV)), gY sl ps = some l →
  l.length = (ps.map fun p => (p.1, a.eval p.2)).length ∧ ∀ (k : Nat) p q, l[k]? = some p → (ps.map fun p => (p.1, a.eval p.2))[k]? = some q → p.1 = q.1 ∧ ARep w g p.2 q.2
 | [], l, h => by simp only [gY, Option.some.injEq] at h; subst h; exact ⟨rfl, by simp⟩
 | (i, x) :: r, l, h => by
  simp only [gY] at h
  split at h
  ·rename_i y l' hy hl'
   cases h
   obtain ⟨h1, h2⟩ := mE hs r l' hl'
   refine ⟨by simpa using h1, fun k p q hp hq => ?_⟩
   cases k with
   | zero => simp only [List.map_cons, List.getElem?_cons_zero, Option.some.injEq] at hp hq; subst hp hq; exact ⟨rfl, bq hs hy⟩
   | succ k => simp only [List.map_cons, List.getElem?_cons_succ] at hp hq; exact h2 k p q hp hq
  ·cases h
def nn (tt : List (Nat × TI)) : List (Nat × Nat) → Option (List (Nat × Nat))
 | [] => some []
 | (off, ft) :: r => match look tt ft, nn tt r with
  | some j, some l => some ((off, j.size) :: l)
  | _, _ => none
theorem qq {P : Program} {tt : List (Nat × TI)} (good : dr P tt) (w : World) : ∀ (fs : List Field) (l : List (Nat × Nat)), nn tt (fs.map fun f => (f.offset, f.type)) = some l →
  (fs.mapM (m := Sem) fun f => do pure (f.offset, ← sizeOf f.type)).run P w = .ok l w
 | [], l, h => by simp only [List.map_nil, nn, Option.some.injEq] at h; subst h; simp
 | f :: r, l, h => by
  simp only [List.map_cons, nn] at h
  split at h
  ·rename_i j l' hj hl'
   cases h
   have ih := qq good w r l' hl'
   simp only [Sem.run_bind, bind_pure_comp] at ih
   simp [run_sizeOf good hj, ih]
  ·cases h
theorem rt {t : TypeId} {parts : Array (Nat × Operand)} {i : TI} {fs pl : List (Nat × Nat)} {ps : List (Nat × AV)} {cs : List AV} {y : AV} (ho : o.op = .build t parts) (hd : o.dst = some d) (hn : Nat.blt d C.n = true)
  (hi : look C.tt t = some i) (hik : i.k = .struct fs) (hpl : nn C.tt fs = some pl) (hps : gY sl parts.toList = some ps) (hf : qj (fun (i : Nat) => pl[i]?) (ew i) ps = some cs) (hy : some (l7 cs) = some y)
  (hK : K ⟨(d, y) :: sl, ob⟩) : aU C o K ⟨sl, ob⟩ := by
 cases hy
 obtain ⟨u, h1, h2⟩ := a6 C.good hi
 obtain ⟨fa, rfl, h4⟩ := gn (h2.trans hik)
 refine ok_one hd hn (fun g a w hs => ?_) hK
 obtain ⟨z, hz1, hz2⟩ := jx C.good hi w
 obtain ⟨q1, q2⟩ := mE hs _ ps hps
 rw [← h4] at hpl
 have hpr := qq C.good w fa.toList pl hpl
 obtain ⟨c', f1, f2, f3⟩ := pY (place := fun (i : Nat) => pl[i]?) ps (parts.toList.map fun p => (p.1, a.eval p.2)) (ew i) cs z.cells q1 q2 (by simp [ew, ← hz2]) (fun k x v hx hv => by
  simp only [ew, List.getElem?_map, Option.map_eq_some_iff, ← hz2, Array.getElem?_toList] at hx
  obtain ⟨u, hu, rfl⟩ := hx
  rw [hv] at hu; cases hu
  exact .p (.val _)) hf
 refine ⟨.agg c', ?_, ni f2 f3⟩
 have e1 : (parts.map fun (i, x) => (i, a.eval x)).toList = parts.toList.map fun p => (p.1, a.eval p.2) := by rw [Array.toList_map]
 have e2 : (fa.mapM (m := Sem) fun f => do pure (f.offset, ← sizeOf f.type)).run C.P w = .ok pl.toArray w := by
  rw [Array.mapM_eq_mapM_toList, Sem.run_map, hpr]; rfl
 have e3 : (fun (i : Nat) => (pl.toArray)[i]?) = fun (i : Nat) => pl[i]? := by funext i; simp
 simp only [execOp, ho, Instr.build, Sem.run_bind, hz1, Result.andThen_ok, run_underlying h1, e2, e1, e3, f1, Sem.run_pure]
def kV (sl : List (Nat × AV)) : Nat → List (Nat × Operand) → Option (List PV)
 | _, [] => some []
 | k, (i, x) :: r => bif Nat.beq i k then match evo sl x, kV sl (k + 1) r with
  | some y, some l => match y.toPV with
   | some z => some (z :: l)
   | none => none
  | _, _ => none
  else none
theorem qh {n : Nat} {w0 : Base} {w : World} {F : Nat → Prop} {g : Gh} {a : Act} (hs : St n w0 F g ⟨sl, ob⟩ a w) : ∀ (ps : List (Nat × Operand)) (k : Nat) (l : List PV), kV sl k ps = some l →
  ps.map (fun p => (p.1, a.eval p.2)) = ((ps.map fun p => a.eval p.2).zipIdx k).map (fun x => (x.2, x.1)) ∧ l.length = ps.length ∧
  ∀ (j : Nat) y v, l[j]? = some y → (ps.map fun p => a.eval p.2)[j]? = some v → PRep w g.st y v
 | [], k, l, h => by simp only [kV, Option.some.injEq] at h; subst h; exact ⟨rfl, rfl, by simp⟩
 | (i, x) :: r, k, l, h => by
  simp only [kV] at h
  cases hb : Nat.beq i k <;> rw [hb] at h <;> simp only [cond_true, cond_false, reduceCtorEq] at h
  have e : i = k := Nat.eq_of_beq_eq_true hb
  subst e
  split at h
  ·rename_i y l' hy hl'
   split at h
   ·rename_i z hz
    cases h
    obtain ⟨h1, h2, h3⟩ := qh hs r (i + 1) l' hl'
    refine ⟨by simp only [List.map_cons, List.zipIdx_cons, h1], by simp [h2], fun j y' v hy' hv => ?_⟩
    cases j with
    | zero => simp only [List.map_cons, List.getElem?_cons_zero, Option.some.injEq] at hy' hv; subst hy' hv; exact qW hz (bq hs hy)
    | succ j => simp only [List.map_cons, List.getElem?_cons_succ] at hy' hv; exact h3 j y' v hy' hv
   ·cases h
  ·cases h
theorem qV {w : World} {st : Nat → Nat → Prop} {x : PV} {v : Value} (h : PRep w st x v) (ho : PV.onesB x.cells = true) :
  v.cells.size = x.cells.length ∧ ∀ (i : Nat) c u, x.cells[i]? = some c → v.cells[i]? = some u → PRep w st c u ∧ u.oneCell' = true := by
 have single : x.one = true → x.cells = [x] → v.cells.size = x.cells.length ∧ ∀ (i : Nat) c u, x.cells[i]? = some c → v.cells[i]? = some u → PRep w st c u ∧ u.oneCell' = true := by
  intro h1 h2
  have h3 := PV.one_rep h h1
  rw [oB h3, h2]
  refine ⟨rfl, fun i c u h4 h5 => ?_⟩
  cases i with
  | zero => simp only [List.getElem?_cons_zero, Option.some.injEq] at h4; simp at h5; subst h4 h5; exact ⟨h, h3⟩
  | succ i => simp at h4
 cases h with
 | val v => exact single (g5 ho _ (by simp [PV.cells])) rfl
 | agg hl hh =>
  refine ⟨hl, fun i c u h1 h2 => ?_⟩
  have h4 := hh i c u h1 h2
  exact ⟨h4, PV.one_rep h4 (g5 ho c (List.mem_of_getElem? h1))⟩
 | ifc => exact single rfl rfl
 | aint => exact single rfl rfl
 | nils => exact single rfl rfl
 | nile a => exact single rfl rfl
 | slice => exact single rfl rfl
def pn (k : Nat) : List PV → Bool
 | [] => true
 | x :: r => Nat.beq x.cells.length k && PV.onesB x.cells && pn k r
theorem jl {k : Nat} : ∀ {l : List PV}, pn k l = true → ∀ x, x ∈ l → x.cells.length = k ∧ PV.onesB x.cells = true
 | [], _, _, h => by simp at h
 | y :: r, h, x, hx => by
  simp only [pn, Bool.and_eq_true] at h
  rcases List.mem_cons.1 hx with rfl | hx
  ·exact ⟨Nat.eq_of_beq_eq_true h.1.1, h.1.2⟩
  ·exact jl h.2 x hx
theorem ze {w : World} {st : Nat → Nat → Prop} {es : List PV} {vs : List Value} {k : Nat} {r : Array Value} {e : TypeId} (hk : 0 < k) (hl : es.length = vs.length) (hlt : ∀ b o, st b o → b < w.heap.size)
  (hr : ∀ (j : Nat) y v, es[j]? = some y → vs[j]? = some v → PRep w st y v) (hsz : pn k es = true)
  (hrs : r.size = es.length * k) (hrk : ∀ m, m < es.length * k → r[m]? = (vs[m / k]?).bind (fun v => v.cells[m % k]?)) (cap : Nat) (hcap : es.length ≤ cap) :
  PRep (w.alloc (.cells r e)) (fun b o => st b o ∨ (b = w.heap.size ∧ o < es.length * k)) (.slice es) (.slice (some ⟨w.heap.size, 0, none⟩) es.length cap) := by
 have hev := iX (w := w) (T := fun o => o < es.length * k) (ob := .cells r e) hlt
 have key : ∀ (i : Nat) y (j : Nat) c, es[i]? = some y → y.cells[j]? = some c → i * k + j < es.length * k ∧ ∃ v u, vs[i]? = some v ∧ v.cells[j]? = some u ∧ PRep w st c u ∧ u.oneCell' = true := by
  intro i y j c hy hc
  obtain ⟨m1, m2⟩ := jl hsz y (List.mem_of_getElem? hy)
  have hi : i < es.length := (List.getElem?_eq_some_iff.1 hy).1
  have hj : j < k := by rw [← m1]; exact (List.getElem?_eq_some_iff.1 hc).1
  have h1 : (i + 1) * k ≤ es.length * k := Nat.mul_le_mul_right k (by omega)
  rw [Nat.add_mul] at h1
  refine ⟨by omega, vs[i]'(by omega), ?_⟩
  have hp := hr i y _ hy (List.getElem?_eq_getElem (by omega))
  obtain ⟨q1, q2⟩ := qV hp m2
  have hj' : j < (vs[i]'(by omega)).cells.size := by omega
  obtain ⟨q3, q4⟩ := q2 j c _ hc (Array.getElem?_eq_getElem hj')
  exact ⟨_, List.getElem?_eq_getElem (by omega), Array.getElem?_eq_getElem hj', q3, q4⟩
 refine .slice k (fun i j => r.getD (i * k + j) Go.undef) hcap (fun y hy => (jl hsz y hy).1) (fun y hy c hc => g5 (jl hsz y hy).2 c hc) (fun i y j c hy hc => ?_) (fun i y j c hy hc => ?_)
 ·obtain ⟨h1, v, u, h2, h3, h4, _⟩ := key i y j c hy hc
  have hlt' : i * k + j < r.size := by omega
  refine ⟨.inr ⟨rfl, by omega⟩, ?_⟩
  rw [World.cell?_alloc_new]
  simp [Array.getD, hlt']
 ·obtain ⟨h1, v, u, h2, h3, h4, _⟩ := key i y j c hy hc
  have hj : j < k := by rw [← (jl hsz y (List.mem_of_getElem? hy)).1]; exact (List.getElem?_eq_some_iff.1 hc).1
  have e1 : r[i * k + j]? = some u := by
   rw [hrk _ h1]
   have d1 : (i * k + j) / k = i := by rw [Nat.mul_comm, Nat.mul_add_div hk, Nat.div_eq_of_lt hj]; rfl
   have d2 : (i * k + j) % k = j := by rw [Nat.mul_comm, Nat.mul_add_mod, Nat.mod_eq_of_lt hj]
   rw [d1, d2, h2]; exact h3
  rw [Array.getD_eq_getD_getElem?, e1]
  exact h4.mono hev
theorem bW {t e len : Nat} {parts : Array (Nat × Operand)} {i ie : TI} {es : List PV} (ho : o.op = .buildSlice t len parts) (hd : o.dst = some d) (hn : Nat.blt d C.n = true)
  (hi : look C.tt t = some i) (hik : i.k = .slice e) (hie : look C.tt e = some ie) (hes : kV sl 0 parts.toList = some es) (hlen : Nat.beq es.length len = true) (hpos : Nat.blt 0 len = true)
  (hk : Nat.blt 0 ie.size = true) (hsm : Nat.ble (len * ie.size) 16777216 = true) (hsz : pn ie.size es = true) (hzl : Nat.beq ie.zero.length ie.size = true)
  (hK : K ⟨(d, .p (.slice es)) :: sl, ob⟩) : aU C o K ⟨sl, ob⟩ := by
 obtain ⟨u, h1, h2⟩ := a6 C.good hi
 have h3 := bb (h2.trans hik)
 subst h3
 have hlen' : es.length = len := Nat.eq_of_beq_eq_true hlen
 have hpos' : 0 < len := by simpa using hpos
 have hk' : 0 < ie.size := by simpa using hk
 have hsm' := Nat.le_of_ble_eq_true hsm
 have hzl' := Nat.eq_of_beq_eq_true hzl
 obtain ⟨j, hj, hj1, hj2, z, hz1, hz2⟩ := eT C.good hie
 intro g a w hs
 obtain ⟨q1, q2, q3⟩ := qh hs _ 0 es hes
 obtain ⟨vs, hvs⟩ : ∃ vs, vs = parts.toList.map fun p => a.eval p.2 := ⟨_, rfl⟩
 rw [← hvs] at q1 q3
 have hvl : es.length = vs.length := by rw [hvs, List.length_map]; exact q2
 have hzs : z.cells.size = ie.size := by rw [← hzl', ← hz2, Array.length_toList]
 have hvsz : ∀ v ∈ vs, v.cells.size = ie.size := by
  intro v hv
  obtain ⟨m, hm, rfl⟩ := List.getElem_of_mem hv
  have hp := q3 m (es[m]'(by omega)) _ (List.getElem?_eq_getElem (by omega)) (List.getElem?_eq_getElem hm)
  obtain ⟨m1, m2⟩ := jl hsz (es[m]'(by omega)) (List.getElem_mem _)
  rw [(qV hp m2).1, m1]
 obtain ⟨r, f1, f2, f3⟩ := Great.fill_dense hk' vs 0 ((Array.range (len * ie.size)).map (z.cells[· % z.cells.size]!)) hvsz (by simp; rw [← hvl, hlen']; exact Nat.le_refl _)
 have f1' : Instr.fill (fun i => some (i * ie.size, ie.size)) ((Array.range (len * ie.size)).map (z.cells[· % z.cells.size]!)) (parts.map fun (i, x) => (i, a.eval x)).toList = some r := by
  rw [Array.toList_map]; rw [← f1]; congr 1
 have hrun := run_buildSlice (P := C.P) w t e len (parts.map fun (i, x) => (i, a.eval x)) r j z h1 hj hz1 (by rw [hj1]; omega) (by rw [hj1]; have := Nat.mul_pos hpos' hk'; omega) (by rw [hj1]; exact f1')
 unfold Oper.wp
 have hrun' : (execOp a.eval o).run C.P w = .ok (.value (.slice (some ⟨w.heap.size, 0, none⟩) len len)) (w.alloc (.cells r e)) := by
  simp only [execOp, ho, Sem.run_bind, hrun, Result.andThen_ok, Sem.run_pure]
 rw [hrun']
 have hprep := ze (e := e) hk' hvl hs.lt q3 hsz (r := r) (by rw [f2]; simp; rw [hlen']) (fun m hm => by rw [f3 m, if_pos (by simp; rw [← hvl]; exact hm)]; simp) len (by omega)
 have hst := (hs.settled (fun o => o < es.length * ie.size) r e).put (d := o.dst) (fun t ht => by rw [hd] at ht; cases ht; exact Nat.blt_eq ▸ hn) (.p hprep)
 rw [hlen'] at hst
 simp only [Oper.upon]
 rw [hd] at hst ⊢
 exact ⟨_, _, hst, hK⟩
def ko (sl : List (Nat × AV)) : List Operand → Option (List AV)
 | [] => some []
 | x :: r => match evo sl x, ko sl r with
  | some y, some l => some (y :: l)
  | _, _ => none
def u3 : List AV → List PV → Prop
 | [], [] => True
 | x :: r, y :: q => x.sub (.p y) ∧ u3 r q
 | _, _ => False
theorem lL {n : Nat} {w0 : Base} {w : World} {F : Nat → Prop} {g : Gh} {a : Act} (hs : St n w0 F g ⟨sl, ob⟩ a w) : ∀ (xs : List Operand) (l : List AV), ko sl xs = some l →
  l.length = xs.length ∧ ∀ (j : Nat) y v, l[j]? = some y → (xs.map a.eval)[j]? = some v → ARep w g y v
 | [], l, h => by simp only [ko, Option.some.injEq] at h; subst h; exact ⟨rfl, by simp⟩
 | x :: r, l, h => by
  simp only [ko] at h
  split at h
  ·rename_i y l' hy hl'
   cases h
   obtain ⟨h1, h2⟩ := lL hs r l' hl'
   refine ⟨by simp [h1], fun j y' v hy' hv => ?_⟩
   cases j with
   | zero => simp only [List.map_cons, List.getElem?_cons_zero, Option.some.injEq] at hy' hv; subst hy' hv; exact bq hs hy
   | succ j => simp only [List.map_cons, List.getElem?_cons_succ] at hy' hv; exact h2 j y' v hy' hv
  ·cases h
theorem qT : ∀ {l : List AV} {q : List PV}, u3 l q → l.length = q.length ∧ ∀ (j : Nat) x y, l[j]? = some x → q[j]? = some y → x.sub (.p y)
 | [], [], _ => ⟨rfl, by simp⟩
 | [], _ :: _, h => h.elim
 | _ :: _, [], h => h.elim
 | x :: r, y :: q, h => by
  obtain ⟨h1, h2⟩ := qT h.2
  refine ⟨by simp [h1], fun j x' y' hx hy => ?_⟩
  cases j with
  | zero => simp only [List.getElem?_cons_zero, Option.some.injEq] at hx hy; subst hx hy; exact h.1
  | succ j => simp only [List.getElem?_cons_succ] at hx hy; exact h2 j x' y' hx hy
def AV.settle : AV → Option AV
 | .p x => some (.p x)
 | .vec _ _ _ es => some (.p (.slice es))
 | .tuple l => match go l with
  | some l => some (.tuple l)
  | none => none
 | .agg cs => match AV.toPV (.agg cs) with
  | some y => some (.p y)
  | none => none
 | _ => none where
 go : List AV → Option (List AV)
 | [] => some []
 | x :: r => match AV.toPV x, go r with
  | some y, some l => some (.p y :: l)
  | _, _ => none
theorem sB {w : World} {g g' : Gh} (hst : g'.st = g.st) : ∀ {l l' : List AV}, AV.settle.go l = some l' → l.length = l'.length ∧ ∀ (j : Nat) x y v, l[j]? = some x → l'[j]? = some y → ARep w g x v → ARep w g' y v
 | [], l', h => by simp only [AV.settle.go, Option.some.injEq] at h; subst h; exact ⟨rfl, by simp⟩
 | x :: r, l', h => by
  simp only [AV.settle.go] at h
  split at h
  ·rename_i y l0 hy h0
   cases h
   obtain ⟨h1, h2⟩ := sB (w := w) hst h0
   refine ⟨by simp [h1], fun j x' y' v hx hy' hv => ?_⟩
   cases j with
   | zero => simp only [List.getElem?_cons_zero, Option.some.injEq] at hx hy'; subst hx hy'; exact .p (hst ▸ qW hy hv)
   | succ j => simp only [List.getElem?_cons_succ] at hx hy'; exact h2 j x' y' v hx hy' hv
  ·cases h
theorem v8 {w : World} {g g' : Gh} (hst : g'.st = g.st) {x y : AV} {v : Value} (hx : x.settle = some y) (h : ARep w g x v) : ARep w g' y v := by
 unfold AV.settle at hx
 split at hx
 ·cases hx; cases h with | p h => exact .p (hst ▸ h)
 ·cases hx; exact .p (hst ▸ jp (.inr ⟨_, _, _, rfl⟩) h)
 ·split at hx
  ·rename_i l _ l' h'
   cases hx
   cases h with
   | tuple hl hh =>
    obtain ⟨h1, h2⟩ := sB (w := w) hst h'
    refine .tuple (by omega) fun i c v hc hv => ?_
    have hi : i < l.length := by have := (List.getElem?_eq_some_iff.1 hc).1; omega
    exact h2 i l[i] c v (List.getElem?_eq_getElem hi) hc (hh i _ v (List.getElem?_eq_getElem hi) hv)
  ·cases hx
 ·split at hx
  ·rename_i y' h'; cases hx; exact .p (hst ▸ qW h' h)
  ·cases hx
 ·cases hx
theorem z7 {f : FuncId} {args : Array Operand} {ts : Array TypeId} {l : List AV} {q : List PV} {R : AV → Prop} (hc : aF C.P f q R) (ho : o.op = .call { callee := .value (.func f), args := args, argTypes := ts })
  (hd : o.dst = some d) (hn : Nat.blt d C.n = true) (hl : ko sl args.toList = some l) (hq : u3 l q) (henter : ∀ vs w, (callFunc f vs).run C.P w = .ok (.enter f vs) w)
  (hK : ∀ r, R r → ∃ r', r.settle = some r' ∧ K ⟨(d, r') :: sl, ob⟩) : aU C o K ⟨sl, ob⟩ := by
 intro g a w hs
 obtain ⟨a1, a2⟩ := lL hs _ l hl
 obtain ⟨b1, b2⟩ := qT hq
 have hargs : ∀ (i : Nat) c v, q[i]? = some c → (args.map a.eval)[i]? = some v → PRep w g.st c v := by
  intro i c v hc hv
  have hi : i < l.length := by have := (List.getElem?_eq_some_iff.1 hc).1; omega
  have hv' : (args.toList.map a.eval)[i]? = some v := by rw [← Array.toList_map]; simpa using hv
  have h1 := b2 i l[i] c (List.getElem?_eq_getElem hi) hc w g v (a2 i _ v (List.getElem?_eq_getElem hi) hv')
  cases h1 with
  | p h1 => exact h1
 have hcall := hc w g.st (args.map a.eval) hs.ok0 (by have hlen := a1.symm.trans b1; simpa using hlen) hargs
 unfold Oper.wp
 have hrun : (execOp a.eval o).run C.P w = .ok (.enter f (args.map a.eval)) w := by
  simp [execOp, ho, resolve, Act.eval, Deferred.ofValue, invoke, henter]
 rw [hrun]
 simp only [Oper.upon]
 refine hcall.mono fun e w' ⟨v, r, g', he, hR, hr, hA⟩ => ?_
 subst he
 obtain ⟨r', hr', hK'⟩ := hK r hR
 have hs' : St C.n C.w0 C.F ⟨g'.st, g.ow⟩ ⟨sl, ob⟩ a w' := by
  refine hs.evolve0 (fun b o h => ?_) (fun id b h => ?_) hs.inj (fun i b h => ?_) hA.lt (fun b h => ?_) hA.os hA.out hA.tape hA.size (fun b hb o => ?_) (fun _ _ => rfl)
  ·have hlt := hs.lt b o h
   exact ⟨(hA.stf b hlt o).2 h, by simp only [World.cell?, hA.fr b hlt]⟩
  ·have hlt := (hs.own id b h).1
   exact ⟨h, hA.fr b hlt, fun o ho => (hA.stf b hlt o).1 ho⟩
  ·have := hs.own i b h; have := hA.size; exact ⟨by omega, (hs.own i b h).2⟩
  ·have := hs.fl b h; have := hs.size; exact hA.fr b (by omega)
  ·have := hs.fl b hb; have := hs.size; exact hA.stf b (by omega) o
 have hp := hs'.put (d := o.dst) (fun t ht => by rw [hd] at ht; cases ht; exact Nat.blt_eq ▸ hn) (v8 (g := g') (g' := ⟨g'.st, g.ow⟩) rfl hr' hr)
 rw [hd] at hp
 simp only
 rw [hd]
 exact ⟨_, _, hp, hK'⟩
theorem bj {f : FuncId} {args : Array Operand} {ts : Array TypeId} {l : List AV} {q : List PV} {r r' : AV} (hc : aF C.P f q (· = r)) (ho : o.op = .call { callee := .value (.func f), args := args, argTypes := ts })
  (hd : o.dst = some d) (hn : Nat.blt d C.n = true) (hl : ko sl args.toList = some l) (hq : u3 l q) (henter : ∀ vs w, (callFunc f vs).run C.P w = .ok (.enter f vs) w)
  (hr : r.settle = some r') (hK : K ⟨(d, r') :: sl, ob⟩) : aU C o K ⟨sl, ob⟩ :=
 z7 hc ho hd hn hl hq henter fun _ e => e ▸ ⟨r', hr, hK⟩
end
end Go.Ab
end
section
set_option linter.unusedVariables false
set_option linter.unusedSimpArgs false
set_option linter.unnecessarySimpa false
namespace Go.Ab
theorem mV {P : Program} {w : World} {st : Nat → Nat → Prop} {ys : List PV} {v : Value} {sz : Nat} {tx e' : TypeId} (hk : P.underlying tx = some (.slice e')) (h : PRep w st (.slice ys) v)
  (hsz : ∀ y ∈ ys, y.cells.length = sz) (h0 : 0 < sz) :
  ∃ news : List Value, Src P sz tx v ys.length news w ∧ (∀ (i : Nat) y (j : Nat) c, ys[i]? = some y → y.cells[j]? = some c → c.one = true ∧ ∃ u, news[i * sz + j]? = some u ∧ PRep w st c u) := by
 have hempty : ys = [] → ∃ news : List Value, Src P sz tx v ys.length news w ∧ (∀ (i : Nat) y (j : Nat) c, ys[i]? = some y → y.cells[j]? = some c → c.one = true ∧ ∃ u, news[i * sz + j]? = some u ∧ PRep w st c u) := by
  intro e
  subst e
  rcases h.nil_inv with rfl | ⟨a, cap, rfl⟩
  ·exact ⟨[], Src.ofNil w hk 0, by simp⟩
  ·exact ⟨[], Src.ofSlice w hk a 0 cap [] (by simp) (by simp) (by simp), by simp⟩
 by_cases hne : ys = []
 ·exact hempty hne
 cases h with
 | nils => exact absurd rfl hne
 | nile a => exact absurd rfl hne
 | slice sz' cf hcap hsz' hone hc hr =>
  rename_i b off cap
  have e1 : sz' = sz := by
   cases ys with
   | nil => exact absurd rfl hne
   | cons y r => exact (hsz' y (by simp)).symm.trans (hsz y (by simp))
  subst e1
  have cellOf : ∀ (i j : Nat), i < ys.length → j < sz' → ∃ y c, ys[i]? = some y ∧ y.cells[j]? = some c := by
   intro i j hi hj
   have h1 := hsz ys[i] (List.getElem_mem hi)
   exact ⟨ys[i], (ys[i]).cells[j]'(by omega), List.getElem?_eq_getElem hi, List.getElem?_eq_getElem (by omega)⟩
  have split : ∀ m, m < ys.length * sz' → m / sz' < ys.length ∧ m % sz' < sz' ∧ m / sz' * sz' + m % sz' = m := by
   intro m hm
   exact ⟨(Nat.div_lt_iff_lt_mul h0).2 hm, Nat.mod_lt _ h0, by rw [Nat.mul_comm]; exact Nat.div_add_mod m sz'⟩
  refine ⟨(List.range (ys.length * sz')).map fun m => cf (m / sz') (m % sz'), Src.ofSlice w hk ⟨b, off, none⟩ ys.length cap _ (by simp) (fun j u hu => ?_) (fun u hu => ?_), fun i y j c hy hc' => ?_⟩
  ·simp only [List.getElem?_map, Option.map_eq_some_iff] at hu
   obtain ⟨m, hm, rfl⟩ := hu
   have hj : j < ys.length * sz' := by have := (List.getElem?_eq_some_iff.1 hm).1; simpa using this
   rw [List.getElem?_range hj] at hm; cases hm
   obtain ⟨s1, s2, s3⟩ := split j hj
   obtain ⟨y, c, hy, hcc⟩ := cellOf _ _ s1 s2
   have := (hc _ y _ c hy hcc).2
   rw [show off + j / sz' * sz' + j % sz' = off + j by omega] at this
   rw [add_lit]; exact this
  ·simp only [List.mem_map, List.mem_range] at hu
   obtain ⟨m, hm, rfl⟩ := hu
   obtain ⟨s1, s2, s3⟩ := split m hm
   obtain ⟨y, c, hy, hcc⟩ := cellOf _ _ s1 s2
   exact PV.one_rep (hr _ y _ c hy hcc) (hone y (List.mem_of_getElem? hy) c (List.mem_of_getElem? hcc))
  ·have hi : i < ys.length := (List.getElem?_eq_some_iff.1 hy).1
   have hj : j < sz' := by rw [← hsz y (List.mem_of_getElem? hy)]; exact (List.getElem?_eq_some_iff.1 hc').1
   have h1 : (i + 1) * sz' ≤ ys.length * sz' := Nat.mul_le_mul_right sz' (by omega)
   rw [Nat.add_mul] at h1
   refine ⟨hone y (List.mem_of_getElem? hy) c (List.mem_of_getElem? hc'), cf i j, ?_, hr i y j c hy hc'⟩
   rw [List.getElem?_map, List.getElem?_range (by omega), Option.map_some]
   have d1 : (i * sz' + j) / sz' = i := by rw [Nat.mul_comm, Nat.mul_add_div h0, Nat.div_eq_of_lt hj]; rfl
   have d2 : (i * sz' + j) % sz' = j := by rw [Nat.mul_comm, Nat.mul_add_mod, Nat.mod_eq_of_lt hj]
   rw [d1, d2]
theorem wU {w : World} {g : Gh} {tok b off cap sz ty : Nat} {c : Array Value} {e : TypeId} {es : List PV} (how : g.ow tok = some b) (hb : w.heap[b]? = some (.cells c e (0, 0))) (hcs : c.size = off + cap * sz)
  (hcap : es.length ≤ cap) (hsz : ∀ e, e ∈ es → e.cells.length = sz) (hst : ∀ o, g.st b o ↔ o < off + es.length * sz)
  (hcell : ∀ (i : Nat) y (j : Nat) x, es[i]? = some y → y.cells[j]? = some x → x.one = true ∧ ∃ u, c[off + i * sz + j]? = some u ∧ PRep w g.st x u) (hty : ty = 0 ∨ ty = e + 1 ∧ off = 0) :
  ARep w g (.vec tok sz ty es) (.slice (some ⟨b, off, none⟩) es.length cap) := by
 have hj : ∀ (i : Nat) y (j : Nat) x, es[i]? = some y → y.cells[j]? = some x → i * sz + j < es.length * sz := by
  intro i y j x hy hx
  have hi : i < es.length := (List.getElem?_eq_some_iff.1 hy).1
  have hj : j < sz := by rw [← hsz y (List.mem_of_getElem? hy)]; exact (List.getElem?_eq_some_iff.1 hx).1
  have h1 : (i + 1) * sz ≤ es.length * sz := Nat.mul_le_mul_right sz (by omega)
  rw [Nat.add_mul] at h1
  omega
 refine .vec how hb hcs hsz hst (.slice sz (fun i j => c.getD (off + i * sz + j) Go.undef) hcap hsz (fun y hy x hx => ?_) (fun i y j x hy hx => ⟨(hst _).2 (by have := hj i y j x hy hx; omega), ?_⟩) (fun i y j x hy hx => ?_)) hty
 ·obtain ⟨i, hi, rfl⟩ := List.getElem_of_mem hy
  obtain ⟨j, hj', rfl⟩ := List.getElem_of_mem hx
  exact (hcell i _ j _ (List.getElem?_eq_getElem hi) (List.getElem?_eq_getElem hj')).1
 ·obtain ⟨_, u, hu, _⟩ := hcell i y j x hy hx
  simp only [World.cell?, hb]
  rw [Array.getD_eq_getD_getElem?, hu]; rfl
 ·obtain ⟨_, u, hu, hr⟩ := hcell i y j x hy hx
  rw [Array.getD_eq_getD_getElem?, hu]; exact hr
theorem Bl {w : World} {g : Gh} {tok b cap sz ty : Nat} {c : Array Value} {e : TypeId} {es : List PV} (how : g.ow tok = some b) (hb : w.heap[b]? = some (.cells c e (0, 0))) (hcs : c.size = cap * sz)
  (hcap : es.length ≤ cap) (hsz : ∀ e, e ∈ es → e.cells.length = sz) (hst : ∀ o, g.st b o ↔ o < es.length * sz)
  (hcell : ∀ (i : Nat) y (j : Nat) x, es[i]? = some y → y.cells[j]? = some x → x.one = true ∧ ∃ u, c[i * sz + j]? = some u ∧ PRep w g.st x u) (hty : ty = 0 ∨ ty = e + 1) :
  ARep w g (.vec tok sz ty es) (.slice (some ⟨b, 0, none⟩) es.length cap) :=
 wU how hb (by omega) hcap hsz (fun o => (hst o).trans (by rw [Nat.zero_add])) (fun i y j x h1 h2 => by rw [Nat.zero_add]; exact hcell i y j x h1 h2) (hty.imp id fun h => ⟨h, rfl⟩)
theorem uW {w : World} {g : Gh} {sz b off cap : Nat} {es : List PV} {c : Array Value} {e : TypeId} (hsz : ∀ e, e ∈ es → e.cells.length = sz)
  (hb : w.heap[b]? = some (.cells c e (0, 0))) (hr : PRep w g.st (.slice es) (.slice (some ⟨b, off, none⟩) es.length cap)) :
  ∀ (i : Nat) y (j : Nat) x, es[i]? = some y → y.cells[j]? = some x → x.one = true ∧ ∃ u, c[off + i * sz + j]? = some u ∧ PRep w g.st x u := by
 intro i y j x hy hx
 cases hr with
 | nile a => simp at hy
 | slice sz' cf hcap hsz' hone hc hr =>
  have e1 : sz' = sz := (hsz' y (List.mem_of_getElem? hy)).symm.trans (hsz y (List.mem_of_getElem? hy))
  subst e1
  have h1 := (hc i y j x hy hx).2
  simp only [World.cell?, hb] at h1
  exact ⟨hone y (List.mem_of_getElem? hy) x (List.mem_of_getElem? hx), cf i j, h1, hr i y j x hy hx⟩
theorem Aw {w : World} {g : Gh} {sz b cap : Nat} {es : List PV} {c : Array Value} {e : TypeId} (hsz : ∀ e, e ∈ es → e.cells.length = sz)
  (hb : w.heap[b]? = some (.cells c e (0, 0))) (hr : PRep w g.st (.slice es) (.slice (some ⟨b, 0, none⟩) es.length cap)) :
  ∀ (i : Nat) y (j : Nat) x, es[i]? = some y → y.cells[j]? = some x → x.one = true ∧ ∃ u, c[i * sz + j]? = some u ∧ PRep w g.st x u := fun i y j x h1 h2 => by
 have := uW hsz hb hr i y j x h1 h2
 rwa [Nat.zero_add] at this
theorem St.inplace {n : Nat} {w0 : Base} {w : World} {F : Nat → Prop} {g : Gh} {s : AS} {a : Act} (hs : St n w0 F g s a w) (D : Nat → Bool) (hDl : ∀ i, D i = true → i < M1) {k d b : Nat} (hk : g.ow k = some b) (hDk : D k = true) (hDd : D d = true)
  {c c' : Array Value} {e : TypeId} (hb : w.heap[b]? = some (.cells c e (0, 0))) (hsz : c'.size = c.size) (hcc : ∀ o, g.st b o → c'[o]? = c[o]?) (T : Nat → Prop) (hT : ∀ o, g.st b o → T o) :
  St n w0 F ⟨fun b' o => (b' = b ∧ T o) ∨ (b' ≠ b ∧ g.st b' o), fun i => if i = d then some b else if D i then none else g.ow i⟩ (cv D s) a (w.setRow b c') := by
 have hbl : b < w.heap.size := (hs.own k b hk).1
 have hnF : ¬ F b := (hs.own k b hk).2
 have keyD : ∀ i b', D i = false → g.ow i = some b' → b' ≠ b := fun i b' hD hi e => by
  subst e
  have := hs.inj i k b' hi hk
  subst this
  rw [hDk] at hD; cases hD
 refine hs.evolve D hDl (fun b' o h => ?_) (fun id b' hD h => ?_) (fun i j b' h1 h2 => ?_) (fun i b' h => ?_) (fun b' o h => ?_) (fun b' h => ?_) rfl rfl rfl (by simp) (fun b' hb' o => ?_) (fun i hi => ?_)
 ·by_cases e : b' = b
  ·subst e
   refine ⟨.inl ⟨rfl, hT o h⟩, ?_⟩
   simp only [World.cell?, hb, setRow_heap w b' c c' _ (0, 0) hb]
   simpa using hcc o h
  ·exact ⟨.inr ⟨e, h⟩, by simp only [World.cell?, setRow_other w b b' c' e]⟩
 ·have hne := keyD id b' hD h
  have hid : id ≠ d := fun e => by subst e; rw [hDd] at hD; cases hD
  refine ⟨by simp only [if_neg hid, hD]; exact h, setRow_other w b b' c' hne, fun o ho => ?_⟩
  rcases ho with ⟨h1, _⟩ | ⟨_, h1⟩
  ·exact absurd h1 hne
  ·exact h1
 ·have key : ∀ i, (if i = d then some b else if D i then none else g.ow i) = some b' → (i = d ∧ b' = b) ∨ (i ≠ d ∧ D i = false ∧ g.ow i = some b') := by
   intro i h
   by_cases e1 : i = d
   ·rw [if_pos e1] at h; cases h; exact .inl ⟨e1, rfl⟩
   ·rw [if_neg e1] at h
    cases hD : D i
    ·rw [hD] at h; exact .inr ⟨e1, rfl, h⟩
    ·rw [hD] at h; cases h
  rcases key i h1 with ⟨a1, a2⟩ | ⟨a1, a2, a3⟩ <;> rcases key j h2 with ⟨b1, b2⟩ | ⟨b1, b2, b3⟩
  ·rw [a1, b1]
  ·exact absurd a2 (keyD j b' b2 b3)
  ·exact absurd b2 (keyD i b' a2 a3)
  ·exact hs.inj i j b' a3 b3
 ·dsimp only at h
  by_cases e1 : i = d
  ·rw [if_pos e1] at h; cases h
   exact ⟨by simpa using hbl, hnF⟩
  ·rw [if_neg e1] at h
   split at h
   ·cases h
   ·have := hs.own i b' h; exact ⟨by simpa using this.1, this.2⟩
 ·rcases h with ⟨h, _⟩ | ⟨_, h⟩
  ·subst h; simpa using hbl
  ·have := hs.lt b' o h; simpa using this
 ·exact setRow_other w b b' c' fun e => hnF (e ▸ h)
 ·have hne : b' ≠ b := fun e => hnF (e ▸ hb')
  exact ⟨fun h => (h.resolve_left fun h => hne h.1).2, fun h => .inr ⟨hne, h⟩⟩
 ·have h1 : i ≠ d := fun e => by have := hDl d hDd; omega
  have h2 : D i = false := by
   cases hq : D i
   ·rfl
   ·have := hDl i hq; omega
  simp only [if_neg h1, h2]; rfl
section
variable {C : Cx} {o : Oper} {K : AS → Prop} {sl : List (Nat × AV)} {ob : List (Nat × List AV)} {d : Nat}
theorem jg {P : Program} {w w' : World} (t tx ty e : TypeId) (i : TypeInfo) (ht : P.underlying t = some (.slice e)) (hi : P.info? e = some i) (b sLen sCap : Nat) (x : Value) (n : Nat) (news : List Value) (hs : Src P i.size tx x n news w)
  (hroom : sLen + n ≤ sCap) (hst : (storeCells ⟨b, sLen * i.size, none⟩ news).run P w = .ok () w') :
  (Builtin.append_ #[t, tx] ty #[.slice (some ⟨b, 0, none⟩) sLen sCap, x]).run P w = .ok (.slice (some ⟨b, 0, none⟩) (sLen + n) sCap) w' := by
 rcases hs.kind with ⟨e', hk⟩ | hk <;> simp [Builtin.append_, run_underlying ht, run_underlying hk, sizeOf, typeInfo, hi, hs.len, hroom, hs.cells, add_lit, hst]
theorem pt {P : Program} {w w' : World} (t tx ty e : TypeId) (i : TypeInfo) (ht : P.underlying t = some (.slice e)) (hi : P.info? e = some i) (b off sLen sCap : Nat) (x : Value) (n : Nat) (news : List Value) (hs : Src P i.size tx x n news w)
  (hroom : sLen + n ≤ sCap) (hst : (storeCells ⟨b, off + sLen * i.size, none⟩ news).run P w = .ok () w') :
  (Builtin.append_ #[t, tx] ty #[.slice (some ⟨b, off, none⟩) sLen sCap, x]).run P w = .ok (.slice (some ⟨b, off, none⟩) (sLen + n) sCap) w' := by
 rcases hs.kind with ⟨e', hk⟩ | hk <;> simp [Builtin.append_, run_underlying ht, run_underlying hk, sizeOf, typeInfo, hi, hs.len, hroom, hs.cells, add_lit, hst]
def uZ (C : Cx) (sl : List (Nat × AV)) (ob : List (Nat × List AV)) (tx : TypeId) (y : Operand) (sz : Nat) (ys : List PV) : Prop :=
 ∀ (g : Gh) (a : Act) (w : World), St C.n C.w0 C.F g ⟨sl, ob⟩ a w → ∃ news : List Value, Src C.P sz tx (a.eval y) ys.length news w ∧
  (∀ (i : Nat) y (j : Nat) c, ys[i]? = some y → y.cells[j]? = some c → c.one = true ∧ ∃ u, news[i * sz + j]? = some u ∧ PRep w g.st c u)
theorem qe {tx e' : TypeId} {y : Operand} {Y : AV} {ys : List PV} {sz : Nat} {j : TI} (hj : look C.tt tx = some j) (hjk : j.k = .slice e')
  (hy : evo sl y = some Y) (hY : Y.elems? = some ys) (hsz : ∀ y ∈ ys, y.cells.length = sz) (h0 : 0 < sz) : uZ C sl ob tx y sz ys := by
 intro g a w hs
 obtain ⟨u', h1', h2'⟩ := a6 C.good hj
 have h3' := bb (h2'.trans hjk)
 subst h3'
 exact mV (P := C.P) h1' (eJ hY (bq hs hy)) hsz h0
theorem j2 (ty0 : Nat) {es ys : List PV} {t tx e : TypeId} {i ie : TI} {y : Operand} (D : Nat → Bool) (hDl : ∀ i, D i = true → i < M1) (hDd : D d = true)
  (hi : look C.tt t = some i) (hik : i.k = .slice e) (hie : look C.tt e = some ie)
  (hS : uZ C sl ob tx y ie.size ys) (hsz : ∀ y ∈ ys, y.cells.length = ie.size) (h0 : 0 < ie.size) (hzl : ie.zero.length = ie.size)
  (hlen : (es.length + ys.length) * ie.bytes ≤ 140737488355328) (hlen' : es.length + ys.length ≤ 9223372036854775807)
  {g : Gh} {a : Act} {w : World} (hs : St C.n C.w0 C.F g ⟨sl, ob⟩ a w) (base : Option Addr) (cap : Nat) (olds : List Value)
  (hold : (Builtin.firstCells ie.size es.length (.slice base es.length cap)).run C.P w.drew = .ok olds.toArray w.drew) (hol : olds.length = es.length * ie.size)
  (hes : ∀ e, e ∈ es → e.cells.length = ie.size)
  (hoc : ∀ (i : Nat) y (j : Nat) x, es[i]? = some y → y.cells[j]? = some x → x.one = true ∧ ∃ u, olds[i * ie.size + j]? = some u ∧ PRep w g.st x u)
  (hg : cap < es.length + ys.length) (ty : TypeId) (hd : o.dst = some d) (hn : Nat.blt d C.n = true) (hty : ty0 = 0 ∨ ty0 = e + 1) :
  ∃ v w' g', (Builtin.append_ #[t, tx] ty #[.slice base es.length cap, a.eval y]).run C.P w = .ok v w' ∧
   St C.n C.w0 C.F g' ⟨(d, .vec d ie.size ty0 (es ++ ys)) :: (cv D ⟨sl, ob⟩).sl, (cv D ⟨sl, ob⟩).ob⟩ (a.put (some d) v) w' := by
 obtain ⟨u, h1, h2⟩ := a6 C.good hi
 have h3 := bb (h2.trans hik)
 subst h3
 obtain ⟨info, hf1, hf2, hf3, z, hf4, hf5⟩ := eT C.good hie
 obtain ⟨news, hsrc, hnews⟩ := hS g a w hs
 have hfit := growslice_fits (bytes := ie.bytes) hg hlen
 have hrun := run_append_grow_src w t tx ty e info z h1 hf1 hf4 base es.length cap olds (by rw [hf2]; exact hold) (a.eval y) ys.length news (by rw [hf2]; exact hsrc) hg (by omega) (by rw [hf3]; exact hfit)
 obtain ⟨q, hq⟩ : ∃ q, q = grownCap w (es.length + ys.length) cap e := ⟨_, rfl⟩
 rw [← hq] at hrun
 have hqn : es.length + ys.length ≤ q := by
  rw [hq]; unfold grownCap; simp only [Question.cut]; omega
 have hzs : z.cells.size = ie.size := by rw [← hzl, ← hf5, Array.length_toList]
 obtain ⟨c, hc⟩ : ∃ c, c = (olds ++ news).toArray ++ Builtin.zeroCells z.cells (q - (es.length + ys.length)) := ⟨_, rfl⟩
 rw [← hc] at hrun
 have hcs : c.size = q * ie.size := by
  rw [hc]
  simp only [Array.size_append, List.size_toArray, List.length_append, hol, hsrc.newsLen, size_zeroCells, hzs]
  rw [← Nat.add_mul, ← Nat.add_mul]; congr 1; omega
 have hget : ∀ m, m < (es.length + ys.length) * ie.size → c[m]? = if m < es.length * ie.size then olds[m]? else news[m - es.length * ie.size]? := by
  intro m hm
  rw [Nat.add_mul] at hm
  rw [hc, Array.getElem?_append]
  simp only [List.size_toArray, List.length_append, hol, hsrc.newsLen]
  rw [if_pos hm, List.getElem?_toArray, List.getElem?_append, hol]
 have hf := hs.drew.fresh D hDl d hDd (fun o => o < (es ++ ys).length * ie.size) c e
 have hv : ARep (w.drew.alloc (.cells c e)) ⟨fun b o => g.st b o ∨ (b = w.drew.heap.size ∧ o < (es ++ ys).length * ie.size), fun i => if i = d then some w.drew.heap.size else if D i then none else g.ow i⟩
   (.vec d ie.size ty0 (es ++ ys)) (.slice (some ⟨w.drew.heap.size, 0, none⟩) (es ++ ys).length q) := by
  refine Bl (by simp) cN hcs (by simp; omega) (fun x hx => ?_) (fun o => ⟨fun h => ?_, fun h => .inr ⟨rfl, h⟩⟩) (fun i y j x hy hx => ?_) hty
  ·rcases List.mem_append.1 hx with hx | hx
   ·exact hes x hx
   ·exact hsz x hx
  ·rcases h with h | h
   ·exact absurd (hs.lt _ _ h) (Nat.lt_irrefl _)
   ·exact h.2
  ·have hev := iX (w := w.drew) (T := fun o => o < (es ++ ys).length * ie.size) (ob := .cells c e) hs.drew.lt
   have hcl : y.cells.length = ie.size := by
    rcases List.mem_append.1 (List.mem_of_getElem? hy) with hx | hx
    ·exact hes y hx
    ·exact hsz y hx
   have hjl : j < ie.size := by rw [← hcl]; exact (List.getElem?_eq_some_iff.1 hx).1
   have hil : i < (es ++ ys).length := (List.getElem?_eq_some_iff.1 hy).1
   simp only [List.length_append] at hil
   have hm1 : (i + 1) * ie.size ≤ (es.length + ys.length) * ie.size := Nat.mul_le_mul_right _ (by omega)
   rw [Nat.add_mul] at hm1
   rw [List.getElem?_append] at hy
   split at hy
   ·rename_i hlt
    obtain ⟨k1, u, hu, hr⟩ := hoc i y j x hy hx
    have hm2 : (i + 1) * ie.size ≤ es.length * ie.size := Nat.mul_le_mul_right _ (by omega)
    rw [Nat.add_mul] at hm2
    refine ⟨k1, u, ?_, (PRep.mono (w := w) (w' := w.drew) (st := g.st) (st' := g.st) (fun b o h => ⟨h, rfl⟩) hr).mono hev⟩
    rw [hget _ (by omega), if_pos (by omega)]; exact hu
   ·rename_i hge
    obtain ⟨k1, u, hu, hr⟩ := hnews _ y j x hy hx
    have hm2 : es.length * ie.size ≤ i * ie.size := Nat.mul_le_mul_right _ (by omega)
    refine ⟨k1, u, ?_, (PRep.mono (w := w) (w' := w.drew) (st := g.st) (st' := g.st) (fun b o h => ⟨h, rfl⟩) hr).mono hev⟩
    rw [hget _ (by omega), if_neg (by omega)]
    rw [show i * ie.size + j - es.length * ie.size = (i - es.length) * ie.size + j by rw [Nat.sub_mul]; omega]
    exact hu
 have hp := hf.put (d := some d) (fun t ht => by cases ht; exact Nat.blt_eq ▸ hn) hv
 simp only [List.length_append] at hp
 exact ⟨_, _, _, hrun, hp⟩
theorem AW {ty e : Nat} (h : (Nat.beq ty 0 || Nat.beq ty (e + 1)) = true) : ty = 0 ∨ ty = e + 1 := by
 simp only [Bool.or_eq_true] at h
 exact h.imp Nat.eq_of_beq_eq_true Nat.eq_of_beq_eq_true
theorem uE (ty : Nat) {t tx e : TypeId} {x y : Operand} {ys : List PV} {i ie : TI} (ho : o.op = .call { callee := .builtin .append, args := #[x, y], argTypes := #[t, tx] }) (hd : o.dst = some d) (hn : Nat.blt d C.n = true)
  (hi : look C.tt t = some i) (hik : i.k = .slice e) (hie : look C.tt e = some ie) (hx : evo sl x = some (.p (.val (.slice none 0 0))))
  (hS : uZ C sl ob tx y ie.size ys) (hsz : ∀ y ∈ ys, y.cells.length = ie.size) (h0 : Nat.blt 0 ie.size = true) (hzl : Nat.beq ie.zero.length ie.size = true)
  (hlen : ys.length * ie.bytes ≤ 140737488355328) (hlen' : ys.length ≤ 9223372036854775807) (hty : (Nat.beq ty 0 || Nat.beq ty (e + 1)) = true)
  (hK : K ⟨(d, .vec d ie.size ty ys) :: (cv (fun i => Nat.beq i d) ⟨sl, ob⟩).sl, (cv (fun i => Nat.beq i d) ⟨sl, ob⟩).ob⟩) : aU C o K ⟨sl, ob⟩ := by
 have h0' : 0 < ie.size := by simpa using h0
 have hzl' := Nat.eq_of_beq_eq_true hzl
 have hdl : d < M1 := by have h1 := Nat.le_of_ble_eq_true C.nl; have h2 : d < C.n := Nat.blt_eq ▸ hn; omega
 have hty' := AW hty
 intro g a w hs
 have hx' := bL hs hx
 have hex : execOp a.eval o = execOp a.eval o := rfl
 have hrun0 : ∀ v w', (Builtin.append_ #[t, tx] o.type #[.slice none 0 0, a.eval y]).run C.P w = .ok v w' → (execOp a.eval o).run C.P w = .ok (.value v) w' := by
  intro v w' h
  rw [dy ho]
  simp [builtin, hx', h]
 by_cases hys : ys = []
 ·subst hys
  obtain ⟨u, h1, h2⟩ := a6 C.good hi
  have h3 := bb (h2.trans hik)
  subst h3
  obtain ⟨info, hf1, hf2, hf3, z, hf4, hf5⟩ := eT C.good hie
  obtain ⟨news, hsrc, hnews⟩ := hS g a w hs
  have hnl : news = [] := by have := hsrc.newsLen; simpa using this
  subst hnl
  have hr := run_append_nothing w t tx o.type e info h1 hf1 none 0 0 (Nat.le_refl _) (a.eval y) (by rw [hf2]; exact hsrc)
  unfold Oper.wp
  rw [hrun0 _ _ hr]
  simp only [Oper.upon, hd]
  have hs' := hs.evolve (fun i => Nat.beq i d) (fun i hi => by have := Nat.eq_of_beq_eq_true hi; omega) (g' := ⟨g.st, fun i => if Nat.beq i d then none else g.ow i⟩) (Ev.refl _ _) (fun id b hD h => ⟨by simp only [hD]; exact h, rfl, fun o h => h⟩)
   (fun i j b h1 h2 => by
    dsimp only at h1 h2
    split at h1
    ·cases h1
    ·split at h2
     ·cases h2
     ·exact hs.inj i j b h1 h2) (fun i b h => by
    dsimp only at h
    split at h
    ·cases h
    ·exact hs.own i b h) hs.lt (fun b h => rfl) rfl rfl rfl (Nat.le_refl _) (fun b _ o => Iff.rfl) (fun i hi => by
     have hne : Nat.beq i d = false := by
      cases hq : Nat.beq i d
      ·rfl
      ·have := Nat.eq_of_beq_eq_true hq; omega
     simp only [hne]; rfl)
  exact ⟨_, _, hs'.put (d := some d) (fun t ht => by cases ht; exact Nat.blt_eq ▸ hn) (.vecn d ie.size _), hK⟩
 ·have hpos : 0 < ys.length := List.length_pos_iff.2 hys
  obtain ⟨v, w', g', hr, hst⟩ := j2 ty (o := o) (es := []) (fun i => Nat.beq i d) (fun i hi => by have := Nat.eq_of_beq_eq_true hi; omega) (by simp) hi hik hie hS hsz h0' hzl' (by simpa using hlen) (by simpa using hlen') hs none 0 []
   (run_firstCells_none w.drew ie.size 0 0 0) (by simp) (by simp) (by simp) (by simpa using hpos) o.type hd hn hty'
  unfold Oper.wp
  rw [hrun0 _ _ hr]
  simp only [Oper.upon, hd]
  exact ⟨g', _, hst, hK⟩
theorem qm {t tx e : TypeId} {x y : Operand} {k sz ty : Nat} {es : List PV} {ys : List PV} {i ie : TI} (ho : o.op = .call { callee := .builtin .append, args := #[x, y], argTypes := #[t, tx] }) (hd : o.dst = some d) (hn : Nat.blt d C.n = true)
  (hi : look C.tt t = some i) (hik : i.k = .slice e) (hie : look C.tt e = some ie) (hx : evo sl x = some (.vec k sz ty es)) (hk : Nat.blt k M1 = true) (hiz : ie.size = sz)
  (hS : uZ C sl ob tx y ie.size ys) (hsz : ∀ y ∈ ys, y.cells.length = ie.size) (h0 : Nat.blt 0 ie.size = true) (hzl : Nat.beq ie.zero.length ie.size = true)
  (hlen : (es.length + ys.length) * ie.bytes ≤ 140737488355328) (hlen' : es.length + ys.length ≤ 9223372036854775807) (hty : (Nat.beq ty 0 || Nat.beq ty (e + 1)) = true)
  (hK : K ⟨(d, .vec d sz ty (es ++ ys)) :: (cv (fun i => Nat.beq i k || Nat.beq i d) ⟨sl, ob⟩).sl, (cv (fun i => Nat.beq i k || Nat.beq i d) ⟨sl, ob⟩).ob⟩) : aU C o K ⟨sl, ob⟩ := by
 subst hiz
 have h0' : 0 < ie.size := by simpa using h0
 have hzl' := Nat.eq_of_beq_eq_true hzl
 have hk' : k < M1 := Nat.blt_eq ▸ hk
 have hdl : d < M1 := by have h1 := Nat.le_of_ble_eq_true C.nl; have h2 : d < C.n := Nat.blt_eq ▸ hn; omega
 have hty' := AW hty
 have hDl : ∀ i, (Nat.beq i k || Nat.beq i d) = true → i < M1 := by
  intro i hi
  simp only [Bool.or_eq_true] at hi
  rcases hi with hi | hi <;> (have := Nat.eq_of_beq_eq_true hi; omega)
 intro g a w hs
 have hxr := bq hs hx
 generalize hxv : a.eval x = xv at hxr
 have hrun0 : ∀ v w', (Builtin.append_ #[t, tx] o.type #[xv, a.eval y]).run C.P w = .ok v w' → (execOp a.eval o).run C.P w = .ok (.value v) w' := by
  intro v w' h
  rw [dy ho]
  simp [builtin, hxv, h]
 cases hxr with
 | vecn =>
  by_cases hys : ys = []
  ·subst hys
   obtain ⟨u, h1, h2⟩ := a6 C.good hi
   have h3 := bb (h2.trans hik)
   subst h3
   obtain ⟨info, hf1, hf2, hf3, z, hf4, hf5⟩ := eT C.good hie
   obtain ⟨news, hsrc, hnews⟩ := hS g a w hs
   have hnl : news = [] := by have := hsrc.newsLen; simpa using this
   subst hnl
   have hr := run_append_nothing w t tx o.type e info h1 hf1 none 0 0 (Nat.le_refl _) (a.eval y) (by rw [hf2]; exact hsrc)
   unfold Oper.wp
   rw [hrun0 _ _ hr]
   simp only [Oper.upon, hd]
   have hs' := hs.evolve (fun i => Nat.beq i k || Nat.beq i d) hDl (g' := ⟨g.st, fun i => if (Nat.beq i k || Nat.beq i d) then none else g.ow i⟩) (Ev.refl _ _) (fun id b hD h => ⟨by simp only [hD]; exact h, rfl, fun o h => h⟩)
    (fun i j b h1 h2 => by
     dsimp only at h1 h2
     split at h1
     ·cases h1
     ·split at h2
      ·cases h2
      ·exact hs.inj i j b h1 h2) (fun i b h => by
     dsimp only at h
     split at h
     ·cases h
     ·exact hs.own i b h) hs.lt (fun b h => rfl) rfl rfl rfl (Nat.le_refl _) (fun b _ o => Iff.rfl) (fun i hi => by
      have hne : (Nat.beq i k || Nat.beq i d) = false := by
       cases hq : (Nat.beq i k || Nat.beq i d)
       ·rfl
       ·have := hDl i hq; omega
      simp only [hne]; rfl)
   exact ⟨_, _, hs'.put (d := some d) (fun t ht => by cases ht; exact Nat.blt_eq ▸ hn) (.vecn d ie.size _), hK⟩
  ·have hpos : 0 < ys.length := List.length_pos_iff.2 hys
   obtain ⟨v, w', g', hr, hst⟩ := j2 ty (o := o) (es := []) (fun i => Nat.beq i k || Nat.beq i d) hDl (by simp) hi hik hie hS hsz h0' hzl' (by simpa using hlen) (by simpa using hlen') hs none 0 []
    (run_firstCells_none w.drew ie.size 0 0 0) (by simp) (by simp) (by simp) (by simpa using hpos) o.type hd hn hty'
   unfold Oper.wp
   rw [hrun0 _ _ hr]
   simp only [Oper.upon, hd]
   exact ⟨g', _, hst, hK⟩
 | vece tok sz a0 =>
  by_cases hys : ys = []
  ·subst hys
   obtain ⟨u, h1, h2⟩ := a6 C.good hi
   have h3 := bb (h2.trans hik)
   subst h3
   obtain ⟨info, hf1, hf2, hf3, z, hf4, hf5⟩ := eT C.good hie
   obtain ⟨news, hsrc, hnews⟩ := hS g a w hs
   have hnl : news = [] := by have := hsrc.newsLen; simpa using this
   subst hnl
   have hr := run_append_nothing w t tx o.type e info h1 hf1 (some a0) 0 0 (Nat.le_refl _) (a.eval y) (by rw [hf2]; exact hsrc)
   unfold Oper.wp
   rw [hrun0 _ _ hr]
   simp only [Oper.upon, hd]
   have hs' := hs.evolve (fun i => Nat.beq i k || Nat.beq i d) hDl (g' := ⟨g.st, fun i => if (Nat.beq i k || Nat.beq i d) then none else g.ow i⟩) (Ev.refl _ _) (fun id b hD h => ⟨by simp only [hD]; exact h, rfl, fun o h => h⟩)
    (fun i j b h1 h2 => by
     dsimp only at h1 h2
     split at h1
     ·cases h1
     ·split at h2
      ·cases h2
      ·exact hs.inj i j b h1 h2) (fun i b h => by
     dsimp only at h
     split at h
     ·cases h
     ·exact hs.own i b h) hs.lt (fun b h => rfl) rfl rfl rfl (Nat.le_refl _) (fun b _ o => Iff.rfl) (fun i hi => by
      have hne : (Nat.beq i k || Nat.beq i d) = false := by
       cases hq : (Nat.beq i k || Nat.beq i d)
       ·rfl
       ·have := hDl i hq; omega
      simp only [hne]; rfl)
   exact ⟨_, _, hs'.put (d := some d) (fun t ht => by cases ht; exact Nat.blt_eq ▸ hn) (.vece d ie.size a0), hK⟩
  ·have hpos : 0 < ys.length := List.length_pos_iff.2 hys
   obtain ⟨v, w', g', hr, hst⟩ := j2 0 (o := o) (es := []) (fun i => Nat.beq i k || Nat.beq i d) hDl (by simp) hi hik hie hS hsz h0' hzl' (by simpa using hlen) (by simpa using hlen') hs (some a0) 0 []
    (run_firstCells_some w.drew ie.size 0 a0 0 0 [] (by simp) (by simp)) (by simp) (by simp) (by simp) (by simpa using hpos) o.type hd hn hty'
   unfold Oper.wp
   rw [hrun0 _ _ hr]
   simp only [Oper.upon, hd]
   exact ⟨g', _, hst, hK⟩
 | vec how hb hcs hsz' hst hr hty0 =>
  rename_i b off cap c e0
  have hinv := uW hsz' hb hr
  have hcapE : es.length ≤ cap := by cases hr with | nile _ => exact Nat.le_refl _ | slice _ _ hcap => exact hcap
  by_cases hroom : es.length + ys.length ≤ cap
  ·obtain ⟨u, h1, h2⟩ := a6 C.good hi
   have h3 := bb (h2.trans hik)
   subst h3
   obtain ⟨info, hf1, hf2, hf3, z, hf4, hf5⟩ := eT C.good hie
   obtain ⟨news, hsrc, hnews⟩ := hS g a w hs
   have hfit : (off + es.length * ie.size) + news.length ≤ c.size := by
    rw [hsrc.newsLen, hcs, Nat.add_assoc, ← Nat.add_mul]; exact Nat.add_le_add_left (Nat.mul_le_mul_right _ hroom) _
   have hstc := run_storeCells_at C.P b (off + es.length * ie.size) e0 news 0 c w hb (by simpa using hfit) hsrc.one
   simp only [Nat.add_zero] at hstc
   obtain ⟨c', hc'⟩ : ∃ c', c' = (c.toList.take (off + es.length * ie.size) ++ news ++ c.toList.drop (off + es.length * ie.size + news.length)).toArray := ⟨_, rfl⟩
   rw [← hc'] at hstc
   have hrr := pt t tx o.type e info h1 hf1 b off es.length cap (a.eval y) ys.length news (by rw [hf2]; exact hsrc) hroom (by rw [hf2]; exact hstc)
   have hcell : ∀ j, c'[j]? = if off + es.length * ie.size ≤ j ∧ j < off + es.length * ie.size + news.length then news[j - (off + es.length * ie.size)]? else c[j]? := by
    intro j
    rw [hc']
    have := iB c.toList news (off + es.length * ie.size) (by simpa using hfit) j
    simpa using this
   have hcs' : c'.size = off + cap * ie.size := by rw [← hcs, hc']; simp; omega
   have hin := hs.inplace (fun i => Nat.beq i k || Nat.beq i d) hDl (k := k) (d := d) how (by simp) (by simp) hb (c' := c') (hcs'.trans hcs.symm) (fun o h => by
    have := (hst o).1 h
    rw [hcell o, if_neg (by omega)]) (fun o => o < off + (es ++ ys).length * ie.size) (fun o h => by
    have := (hst o).1 h
    simp only [List.length_append, Nat.add_mul]; omega)
   have hEv : Ev w g.st (w.setRow b c') (fun b' o => (b' = b ∧ o < off + (es ++ ys).length * ie.size) ∨ (b' ≠ b ∧ g.st b' o)) := by
    intro b' o h
    by_cases e : b' = b
    ·subst e
     have h5 := (hst o).1 h
     refine ⟨.inl ⟨rfl, by simp only [List.length_append, Nat.add_mul]; omega⟩, ?_⟩
     simp only [World.cell?, hb, setRow_heap w b' c c' _ (0, 0) hb]
     have := hcell o
     rw [if_neg (by omega)] at this
     simpa using this
    ·exact ⟨.inr ⟨e, h⟩, by simp only [World.cell?, setRow_other w b b' c' e]⟩
   have hv : ARep (w.setRow b c') ⟨fun b' o => (b' = b ∧ o < off + (es ++ ys).length * ie.size) ∨ (b' ≠ b ∧ g.st b' o), fun i => if i = d then some b else if (Nat.beq i k || Nat.beq i d) then none else g.ow i⟩
     (.vec d ie.size ty (es ++ ys)) (.slice (some ⟨b, off, none⟩) (es ++ ys).length cap) := by
    refine wU (by simp) (setRow_heap w b c c' e0 (0, 0) hb) hcs' (by simpa using hroom) (fun x hx => ?_) (fun o => ⟨fun h => ?_, fun h => .inl ⟨rfl, h⟩⟩) (fun i y j x hy hx => ?_) hty0
    ·rcases List.mem_append.1 hx with hx | hx
     ·exact hsz' x hx
     ·exact hsz x hx
    ·rcases h with h | h
     ·exact h.2
     ·exact absurd rfl h.1
    ·have hcl : y.cells.length = ie.size := by
      rcases List.mem_append.1 (List.mem_of_getElem? hy) with hx | hx
      ·exact hsz' y hx
      ·exact hsz y hx
     have hjl : j < ie.size := by rw [← hcl]; exact (List.getElem?_eq_some_iff.1 hx).1
     have hil : i < (es ++ ys).length := (List.getElem?_eq_some_iff.1 hy).1
     simp only [List.length_append] at hil
     rw [List.getElem?_append] at hy
     split at hy
     ·rename_i hlt
      obtain ⟨k1, u, hu, hr⟩ := hinv i y j x hy hx
      have hm2 : (i + 1) * ie.size ≤ es.length * ie.size := Nat.mul_le_mul_right _ (by omega)
      rw [Nat.add_mul] at hm2
      refine ⟨k1, u, ?_, hr.mono hEv⟩
      rw [hcell, if_neg (by omega)]; exact hu
     ·rename_i hge
      obtain ⟨k1, u, hu, hr⟩ := hnews _ y j x hy hx
      have hm2 : es.length * ie.size ≤ i * ie.size := Nat.mul_le_mul_right _ (by omega)
      have hm3 : (i - es.length + 1) * ie.size ≤ ys.length * ie.size := Nat.mul_le_mul_right _ (by omega)
      have hm4 : (i - es.length) * ie.size = i * ie.size - es.length * ie.size := Nat.sub_mul _ _ _
      rw [Nat.add_mul] at hm3
      refine ⟨k1, u, ?_, hr.mono hEv⟩
      rw [hcell, if_pos ⟨by omega, by rw [hsrc.newsLen]; omega⟩]
      rw [show off + i * ie.size + j - (off + es.length * ie.size) = (i - es.length) * ie.size + j by omega]
      exact hu
   have hp := hin.put (d := some d) (fun t ht => by cases ht; exact Nat.blt_eq ▸ hn) hv
   simp only [List.length_append] at hp
   unfold Oper.wp
   rw [hrun0 _ _ hrr]
   simp only [Oper.upon, hd]
   exact ⟨_, _, hp, hK⟩
  ·obtain ⟨olds, hol, hocell⟩ : ∃ olds : List Value, olds.length = es.length * ie.size ∧ ∀ m, m < es.length * ie.size → olds[m]? = c[off + m]? :=
    ⟨((c.toList.drop off).take (es.length * ie.size)), by
     rw [List.length_take, List.length_drop, show c.toList.length = off + cap * ie.size from Array.length_toList.trans hcs]
     have := Nat.mul_le_mul_right ie.size hcapE; omega, fun m hm => by rw [List.getElem?_take, if_pos hm, List.getElem?_drop, Array.getElem?_toList]⟩
   have hold : (Builtin.firstCells ie.size es.length (.slice (some ⟨b, off, none⟩) es.length cap)).run C.P w.drew = .ok olds.toArray w.drew := by
    refine run_firstCells_some w.drew ie.size es.length ⟨b, off, none⟩ es.length cap olds hol (fun j v hv => ?_)
    have hj : j < es.length * ie.size := by rw [← hol]; exact (List.getElem?_eq_some_iff.1 hv).1
    rw [add_lit, World.cell?_drew]
    simp only [World.cell?, hb]
    rw [← hocell j hj]; simpa using hv
   obtain ⟨v, w', g', hr', hst'⟩ := j2 ty (o := o) (es := es) (fun i => Nat.beq i k || Nat.beq i d) hDl (by simp) hi hik hie hS hsz h0' hzl' hlen hlen' hs (some ⟨b, off, none⟩) cap olds
    hold hol hsz' (fun i y j x hy hx => by
     obtain ⟨k1, u, hu, hr⟩ := hinv i y j x hy hx
     have hi : i < es.length := (List.getElem?_eq_some_iff.1 hy).1
     have hj : j < ie.size := by rw [← hsz' y (List.mem_of_getElem? hy)]; exact (List.getElem?_eq_some_iff.1 hx).1
     have hm2 : (i + 1) * ie.size ≤ es.length * ie.size := Nat.mul_le_mul_right _ (by omega)
     rw [Nat.add_mul] at hm2
     exact ⟨k1, u, by rw [hocell _ (by omega), ← Nat.add_assoc]; exact hu, hr⟩) (by omega) o.type hd hn hty'
   unfold Oper.wp
   rw [hrun0 _ _ hr']
   simp only [Oper.upon, hd]
   exact ⟨g', _, hst', hK⟩
theorem wc (ty : Nat) {t tx e e' : TypeId} {x y : Operand} {Y : AV} {ys : List PV} {i ie j : TI} (ho : o.op = .call { callee := .builtin .append, args := #[x, y], argTypes := #[t, tx] }) (hd : o.dst = some d) (hn : Nat.blt d C.n = true)
  (hi : look C.tt t = some i) (hik : i.k = .slice e) (hie : look C.tt e = some ie) (hj : look C.tt tx = some j) (hjk : j.k = .slice e') (hx : evo sl x = some (.p (.val (.slice none 0 0))))
  (hy : evo sl y = some Y) (hY : Y.elems? = some ys) (hsz : ∀ y ∈ ys, y.cells.length = ie.size) (h0 : Nat.blt 0 ie.size = true) (hzl : Nat.beq ie.zero.length ie.size = true)
  (hlen : ys.length * ie.bytes ≤ 140737488355328) (hlen' : ys.length ≤ 9223372036854775807) (hty : (Nat.beq ty 0 || Nat.beq ty (e + 1)) = true)
  (hK : K ⟨(d, .vec d ie.size ty ys) :: (cv (fun i => Nat.beq i d) ⟨sl, ob⟩).sl, (cv (fun i => Nat.beq i d) ⟨sl, ob⟩).ob⟩) : aU C o K ⟨sl, ob⟩ :=
 uE ty ho hd hn hi hik hie hx (qe hj hjk hy hY hsz (by simpa using h0)) hsz h0 hzl hlen hlen' hty hK
theorem vY {t tx e e' : TypeId} {x y : Operand} {k sz ty : Nat} {es : List PV} {Y : AV} {ys : List PV} {i ie j : TI} (ho : o.op = .call { callee := .builtin .append, args := #[x, y], argTypes := #[t, tx] }) (hd : o.dst = some d) (hn : Nat.blt d C.n = true)
  (hi : look C.tt t = some i) (hik : i.k = .slice e) (hie : look C.tt e = some ie) (hj : look C.tt tx = some j) (hjk : j.k = .slice e') (hx : evo sl x = some (.vec k sz ty es)) (hk : Nat.blt k M1 = true) (hiz : ie.size = sz)
  (hy : evo sl y = some Y) (hY : Y.elems? = some ys) (hsz : ∀ y ∈ ys, y.cells.length = ie.size) (h0 : Nat.blt 0 ie.size = true) (hzl : Nat.beq ie.zero.length ie.size = true)
  (hlen : (es.length + ys.length) * ie.bytes ≤ 140737488355328) (hlen' : es.length + ys.length ≤ 9223372036854775807) (hty : (Nat.beq ty 0 || Nat.beq ty (e + 1)) = true)
  (hK : K ⟨(d, .vec d sz ty (es ++ ys)) :: (cv (fun i => Nat.beq i k || Nat.beq i d) ⟨sl, ob⟩).sl, (cv (fun i => Nat.beq i k || Nat.beq i d) ⟨sl, ob⟩).ob⟩) : aU C o K ⟨sl, ob⟩ :=
 qm ho hd hn hi hik hie hx hk hiz (qe hj hjk hy hY hsz (by simpa using h0)) hsz h0 hzl hlen hlen' hty hK
theorem xJ {tx : TypeId} {y : Operand} {s : List UInt8} {j : TI} (hj : look C.tt tx = some j) (hjk : j.k = .string)
  (hy : evo sl y = some (.p (.val (.string (str s))))) : uZ C sl ob tx y 1 (s.map fun b => .val (.int .u8 (b.toNat : Int))) := by
 intro g a w hs
 obtain ⟨u', h1', h2'⟩ := a6 C.good hj
 have h3' := eA (h2'.trans hjk)
 subst h3'
 rw [bL hs hy]
 refine ⟨byteCells (str s), by have := Src.ofString w h1' (str s); rwa [show (str s).size = (s.map fun b => PV.val (.int .u8 (b.toNat : Int))).length by simp [str, ByteArray.size]] at this, fun i y j c hy hc => ?_⟩
 simp only [List.getElem?_map, Option.map_eq_some_iff] at hy
 obtain ⟨b, hb, rfl⟩ := hy
 cases j with
 | succ j => simp [PV.cells] at hc
 | zero =>
  simp only [PV.cells, List.getElem?_cons_zero, Option.some.injEq] at hc
  subst hc
  exact ⟨rfl, _, by simp [byteCells, str, hb], .val _⟩
end
end Go.Ab
end
section
set_option linter.unusedVariables false
set_option linter.unusedSimpArgs false
set_option linter.unnecessarySimpa false
namespace Go.Ab
theorem St.addOb {n : Nat} {w0 : Base} {w : World} {F : Nat → Prop} {g : Gh} {sl : List (Nat × AV)} {ob : List (Nat × List AV)} {a : Act} (hs : St n w0 F g ⟨sl, ob⟩ a w) {d : Nat} {cs : List AV} (h : jY w g d cs) :
  St n w0 F g ⟨sl, (d, cs) :: ob⟩ a w := by
 refine { hs with ob := fun id ds hd => ?_, sl := hs.sl }
 simp only [bn] at hd
 by_cases e : d = id
 ·subst e; simp only [if_true, Option.some.injEq] at hd; subst hd; exact h
 ·rw [if_neg e] at hd; exact hs.ob id ds hd
section
variable {C : Cx} {o : Oper} {K : AS → Prop} {sl : List (Nat × AV)} {ob : List (Nat × List AV)} {d : Nat}
theorem wk {t e : Nat} {x y : Operand} {i ie : TI} {k k' : IntKind} {n : Int} {z : Value} (ho : o.op = .makeSlice t x y) (hd : o.dst = some d) (hn : Nat.blt d C.n = true)
  (hi : look C.tt t = some i) (hik : i.k = .slice e) (hie : look C.tt e = some ie) (hs1 : ie.size = 1) (hz : ie.zero = [z]) (hx : evo sl x = some (.p (.val (.int k n)))) (hy : evo sl y = some (.p (.val (.int k' n))))
  (hb : 0 ≤ n ∧ n ≤ 9223372036854775807 ∧ (ie.bytes : Int) * n ≤ 281474976710656)
  (hK : K ⟨(d, .arr d 1 0 n.toNat) :: (cv (fun i => Nat.beq i d) ⟨sl, ob⟩).sl, (d, (List.replicate n.toNat (.val z)).map .p) :: (cv (fun i => Nat.beq i d) ⟨sl, ob⟩).ob⟩) : aU C o K ⟨sl, ob⟩ := by
 obtain ⟨u, h1, h2⟩ := a6 C.good hi
 have h3 := bb (h2.trans hik)
 subst h3
 obtain ⟨j, hj, hj1, hj2, zz, hz1, hz2⟩ := eT C.good hie
 have hdl : d < M1 := by have h1 := Nat.le_of_ble_eq_true C.nl; have h2 : d < C.n := Nat.blt_eq ▸ hn; omega
 intro g a w hs
 have hrun := run_make (P := C.P) w t e j zz h1 hj hz1 k k' n n hb.1 (Int.le_refl _) (by rw [hj2]; exact hb.2.2) hb.2.1
 have hzs : zz.cells = #[z] := by rw [← Array.toList_inj]; rw [hz2, hz]
 rw [hzs, hj1, hs1, Nat.mul_one] at hrun
 have hf := hs.fresh (fun i => Nat.beq i d) (fun i hi => by have := Nat.eq_of_beq_eq_true hi; omega) d (by simp) (fun _ => False) (madeCells #[z] n.toNat) e
 have hp := hf.put (d := some d) (fun t ht => by cases ht; exact Nat.blt_eq ▸ hn) (x := .arr d 1 0 n.toNat) (v := .slice (some ⟨w.heap.size, 0, none⟩) n.toNat n.toNat)
  (.arr (by simp) cN (by rw [size_madeCells]; omega) (Nat.le_refl _))
 have hob := hp.addOb (d := d) (cs := (List.replicate n.toNat (.val z)).map .p) (by
  refine ⟨w.heap.size, madeCells #[z] n.toNat, e, by simp, cN, by simp [size_madeCells], fun o ho => ?_, fun i x hx => ?_⟩
  ·rcases ho with ho | ⟨_, ho⟩
   ·exact absurd (hs.lt _ _ ho) (Nat.lt_irrefl _)
   ·exact ho
  ·simp only [List.getElem?_map, Option.map_eq_some_iff, List.getElem?_replicate] at hx
   obtain ⟨y, hy, rfl⟩ := hx
   split at hy
   ·rename_i hlt
    cases hy
    exact ⟨z, by simp [madeCells, hlt, Nat.mod_one], .p (.val _)⟩
   ·cases hy)
 unfold Oper.wp
 have hrun' : (execOp a.eval o).run C.P w = .ok (.value (.slice (some ⟨w.heap.size, 0, none⟩) n.toNat n.toNat)) (w.alloc (.cells (madeCells #[z] n.toNat) e)) := by
  simp only [execOp, ho, bL hs hx, bL hs hy, Sem.run_bind, hrun, Result.andThen_ok, Sem.run_pure]
 rw [hrun']
 simp only [Oper.upon, hd]
 exact ⟨_, _, hob, hK⟩
theorem uX {es ys : List PV} {t tx e e' : TypeId} {i ie j : TI} {y : Operand} {Y : AV} (D : Nat → Bool) (hDl : ∀ i, D i = true → i < M1) (hDd : D d = true)
  (hi : look C.tt t = some i) (hik : i.k = .slice e) (hie : look C.tt e = some ie) (hj : look C.tt tx = some j) (hjk : j.k = .slice e')
  (hy : evo sl y = some Y) (hY : Y.elems? = some ys) (hsz : ∀ y ∈ ys, y.cells = [y]) (h1s : ie.size = 1) (hzl : ie.zero.length = ie.size)
  (hlen : (es.length + ys.length) * ie.bytes ≤ 140737488355328) (hlen' : es.length + ys.length ≤ 9223372036854775807)
  {g : Gh} {a : Act} {w : World} (hs : St C.n C.w0 C.F g ⟨sl, ob⟩ a w) (base : Option Addr) (cap : Nat) (olds : List Value)
  (hold : (Builtin.firstCells ie.size es.length (.slice base es.length cap)).run C.P w.drew = .ok olds.toArray w.drew) (hol : olds.length = es.length)
  (hoc : ∀ (i : Nat) x, es[i]? = some x → ∃ u, olds[i]? = some u ∧ PRep w g.st x u)
  (hg : cap < es.length + ys.length) (ty : TypeId) (hn : Nat.blt d C.n = true) :
  ∃ v w' g', (Builtin.append_ #[t, tx] ty #[.slice base es.length cap, a.eval y]).run C.P w = .ok v w' ∧
   St C.n C.w0 C.F g' ⟨(d, .arr d 1 0 (es.length + ys.length)) :: (cv D ⟨sl, ob⟩).sl, (d, (es ++ ys).map .p) :: (cv D ⟨sl, ob⟩).ob⟩ (a.put (some d) v) w' := by
 obtain ⟨u, h1, h2⟩ := a6 C.good hi
 have h3 := bb (h2.trans hik)
 subst h3
 obtain ⟨u', h1', h2'⟩ := a6 C.good hj
 have h3' := bb (h2'.trans hjk)
 subst h3'
 obtain ⟨info, hf1, hf2, hf3, z, hf4, hf5⟩ := eT C.good hie
 have hyv := eJ hY (bq hs hy)
 obtain ⟨news, hsrc, hnews⟩ := mV (P := C.P) (sz := ie.size) h1' hyv (fun y hy => by rw [hsz y hy, h1s]; rfl) (by omega)
 have hfit := growslice_fits (bytes := ie.bytes) hg hlen
 have hrun := run_append_grow_src w t tx ty e info z h1 hf1 hf4 base es.length cap olds (by rw [hf2]; exact hold) (a.eval y) ys.length news (by rw [hf2]; exact hsrc) hg (by omega) (by rw [hf3]; exact hfit)
 obtain ⟨q, hq⟩ : ∃ q, q = grownCap w (es.length + ys.length) cap e := ⟨_, rfl⟩
 rw [← hq] at hrun
 have hqn : es.length + ys.length ≤ q := by
  rw [hq]; unfold grownCap; simp only [Question.cut]; omega
 have hzs : z.cells.size = 1 := by rw [← h1s, ← hzl, ← hf5, Array.length_toList]
 have hnl : news.length = ys.length := by rw [hsrc.newsLen, h1s, Nat.mul_one]
 obtain ⟨c, hc⟩ : ∃ c, c = (olds ++ news).toArray ++ Builtin.zeroCells z.cells (q - (es.length + ys.length)) := ⟨_, rfl⟩
 rw [← hc] at hrun
 have hcs : c.size = q := by
  rw [hc]
  simp only [Array.size_append, List.size_toArray, List.length_append, hol, hnl, size_zeroCells, hzs]
  omega
 have hf := hs.drew.fresh D hDl d hDd (fun _ => False) c e
 have hp := hf.put (d := some d) (fun t ht => by cases ht; exact Nat.blt_eq ▸ hn) (x := .arr d 1 0 (es.length + ys.length)) (v := .slice (some ⟨w.drew.heap.size, 0, none⟩) (es.length + ys.length) q)
  (.arr (by simp) cN (by omega) hqn)
 have hev := iX (w := w.drew) (T := fun _ => False) (ob := .cells c e) hs.drew.lt
 have hob := hp.addOb (d := d) (cs := (es ++ ys).map .p) (by
  refine ⟨w.drew.heap.size, c, e, by simp, cN, by simp; omega, fun o ho => ?_, fun i x hx => ?_⟩
  ·rcases ho with ho | ⟨_, ho⟩
   ·exact absurd (hs.lt _ _ ho) (Nat.lt_irrefl _)
   ·exact ho
  ·simp only [List.getElem?_map, Option.map_eq_some_iff] at hx
   obtain ⟨y, hy, rfl⟩ := hx
   have hil : i < (es ++ ys).length := (List.getElem?_eq_some_iff.1 hy).1
   simp only [List.length_append] at hil
   have hget : c[i]? = if i < es.length then olds[i]? else news[i - es.length]? := by
    rw [hc, Array.getElem?_append]
    simp only [List.size_toArray, List.length_append, hol, hnl]
    rw [if_pos hil, List.getElem?_toArray, List.getElem?_append, hol]
   rw [List.getElem?_append] at hy
   split at hy
   ·rename_i hlt
    obtain ⟨u, hu, hr⟩ := hoc i y hy
    exact ⟨u, by rw [hget, if_pos hlt]; exact hu, .p ((PRep.mono (w := w) (w' := w.drew) (st := g.st) (st' := g.st) (fun b o h => ⟨h, rfl⟩) hr).mono hev)⟩
   ·rename_i hge
    obtain ⟨k1, u, hu, hr⟩ := hnews (i - es.length) y 0 y hy (by rw [hsz y (List.mem_of_getElem? hy)]; rfl)
    rw [h1s, Nat.mul_one, Nat.add_zero] at hu
    exact ⟨u, by rw [hget, if_neg hge]; exact hu, .p ((PRep.mono (w := w) (w' := w.drew) (st := g.st) (st' := g.st) (fun b o h => ⟨h, rfl⟩) hr).mono hev)⟩)
 exact ⟨_, _, _, hrun, hob⟩
theorem vb {t tx e e' : TypeId} {x y : Operand} {k : Nat} {es : List PV} {n : Nat} {Y : AV} {ys : List PV} {i ie j : TI} (ho : o.op = .call { callee := .builtin .append, args := #[x, y], argTypes := #[t, tx] }) (hd : o.dst = some d) (hn : Nat.blt d C.n = true)
  (hi : look C.tt t = some i) (hik : i.k = .slice e) (hie : look C.tt e = some ie) (hj : look C.tt tx = some j) (hjk : j.k = .slice e') (hx : evo sl x = some (.arr k 1 0 n)) (hk : Nat.blt k M1 = true) (hob : look ob k = some (es.map .p)) (hnl : n = es.length)
  (hy : evo sl y = some Y) (hY : Y.elems? = some ys) (hsz : ∀ y ∈ ys, y.cells = [y]) (h1s : ie.size = 1) (hzl : Nat.beq ie.zero.length ie.size = true)
  (hlen : (es.length + ys.length) * ie.bytes ≤ 140737488355328) (hlen' : es.length + ys.length ≤ 9223372036854775807)
  (hK : K ⟨(d, .arr d 1 0 (es.length + ys.length)) :: (cv (fun i => Nat.beq i k || Nat.beq i d) ⟨sl, ob⟩).sl, (d, (es ++ ys).map .p) :: (cv (fun i => Nat.beq i k || Nat.beq i d) ⟨sl, ob⟩).ob⟩) : aU C o K ⟨sl, ob⟩ := by
 subst hnl
 have hzl' := Nat.eq_of_beq_eq_true hzl
 have hk' : k < M1 := Nat.blt_eq ▸ hk
 have hdl : d < M1 := by have h1 := Nat.le_of_ble_eq_true C.nl; have h2 : d < C.n := Nat.blt_eq ▸ hn; omega
 have hDl : ∀ i, (Nat.beq i k || Nat.beq i d) = true → i < M1 := by
  intro i hi
  simp only [Bool.or_eq_true] at hi
  rcases hi with hi | hi <;> (have := Nat.eq_of_beq_eq_true hi; omega)
 intro g a w hs
 have hxr := bq hs hx
 generalize hxv : a.eval x = xv at hxr
 have hrun0 : ∀ v w', (Builtin.append_ #[t, tx] o.type #[xv, a.eval y]).run C.P w = .ok v w' → (execOp a.eval o).run C.P w = .ok (.value v) w' := by
  intro v w' h
  rw [dy ho]
  simp [builtin, hxv, h]
 cases hxr with
 | arr how hb hcs hn' =>
  rename_i b cap c e0
  obtain ⟨b', c1, e1, k1, k2, k3, k4, k5⟩ := hs.ob k _ hob
  rw [how] at k1; cases k1
  rw [hb] at k2; cases k2
  simp only [Nat.mul_one, Nat.zero_add] at hcs
  have hcell : ∀ (i : Nat) x, es[i]? = some x → ∃ u, c[i]? = some u ∧ PRep w g.st x u := by
   intro i x hx
   obtain ⟨u, hu, hr⟩ := k5 i (.p x) (by simp [hx])
   cases hr with | p hr => exact ⟨u, hu, hr⟩
  by_cases hroom : es.length + ys.length ≤ cap
  ·obtain ⟨u, h1, h2⟩ := a6 C.good hi
   have h3 := bb (h2.trans hik)
   subst h3
   obtain ⟨u', h1', h2'⟩ := a6 C.good hj
   have h3' := bb (h2'.trans hjk)
   subst h3'
   obtain ⟨info, hf1, hf2, hf3, z, hf4, hf5⟩ := eT C.good hie
   have hyv := eJ hY (bq hs hy)
   obtain ⟨news, hsrc, hnews⟩ := mV (P := C.P) (sz := ie.size) h1' hyv (fun y hy => by rw [hsz y hy, h1s]; rfl) (by omega)
   have hnl : news.length = ys.length := by rw [hsrc.newsLen, h1s, Nat.mul_one]
   have hstc := run_storeCells_at C.P b (es.length * ie.size) e0 news 0 c w hb (by rw [h1s]; simp; omega) hsrc.one
   simp only [Nat.add_zero] at hstc
   rw [h1s, Nat.mul_one] at hstc
   obtain ⟨c', hc'⟩ : ∃ c', c' = (c.toList.take es.length ++ news ++ c.toList.drop (es.length + news.length)).toArray := ⟨_, rfl⟩
   rw [← hc'] at hstc
   have hrr := jg t tx o.type e info h1 hf1 b es.length cap (a.eval y) ys.length news (by rw [hf2]; exact hsrc) hroom (by rw [hf2, h1s, Nat.mul_one]; exact hstc)
   have hcell' : ∀ j, c'[j]? = if es.length ≤ j ∧ j < es.length + news.length then news[j - es.length]? else c[j]? := by
    intro j
    rw [hc']
    have := iB c.toList news es.length (by simp; omega) j
    simpa using this
   have hcs' : c'.size = cap := by rw [← hcs, hc']; simp; omega
   have hin := hs.inplace (fun i => Nat.beq i k || Nat.beq i d) hDl (k := k) (d := d) how (by simp) (by simp) hb (c' := c') (hcs'.trans hcs.symm) (fun o h => absurd h (k4 o)) (fun _ => False) (fun o h => k4 o h)
   have hp := hin.put (d := some d) (fun t ht => by cases ht; exact Nat.blt_eq ▸ hn) (x := .arr d 1 0 (es.length + ys.length)) (v := .slice (some ⟨b, 0, none⟩) (es.length + ys.length) cap)
    (.arr (by simp) (setRow_heap w b c c' e0 (0, 0) hb) (by omega) hroom)
   have hEv : Ev w g.st (w.setRow b c') (fun b' o => (b' = b ∧ False) ∨ (b' ≠ b ∧ g.st b' o)) := by
    intro b' o h
    have hne : b' ≠ b := fun e => k4 o (e ▸ h)
    exact ⟨.inr ⟨hne, h⟩, by simp only [World.cell?, setRow_other w b b' c' hne]⟩
   have hfin := hp.addOb (d := d) (cs := (es ++ ys).map .p) (by
    refine ⟨b, c', e0, by simp, setRow_heap w b c c' e0 (0, 0) hb, by simp; omega, fun o ho => ?_, fun i x hx => ?_⟩
    ·rcases ho with ⟨_, ho⟩ | ⟨ho, _⟩
     ·exact ho
     ·exact ho rfl
    ·simp only [List.getElem?_map, Option.map_eq_some_iff] at hx
     obtain ⟨y, hy, rfl⟩ := hx
     rw [List.getElem?_append] at hy
     split at hy
     ·rename_i hlt
      obtain ⟨u, hu, hr⟩ := hcell i y hy
      exact ⟨u, by rw [hcell', if_neg (by omega)]; exact hu, .p (hr.mono hEv)⟩
     ·rename_i hge
      have hi2 : i - es.length < ys.length := (List.getElem?_eq_some_iff.1 hy).1
      obtain ⟨_, u, hu, hr⟩ := hnews (i - es.length) y 0 y hy (by rw [hsz y (List.mem_of_getElem? hy)]; rfl)
      rw [h1s, Nat.mul_one, Nat.add_zero] at hu
      exact ⟨u, by rw [hcell', if_pos (by omega)]; exact hu, .p (hr.mono hEv)⟩)
   unfold Oper.wp
   rw [hrun0 _ _ hrr]
   simp only [Oper.upon, hd]
   exact ⟨_, _, hfin, hK⟩
  ·have hlenT : (c.toList.take es.length).length = es.length := by
    rw [List.length_take, show c.toList.length = cap from Array.length_toList.trans hcs]; omega
   have hold : (Builtin.firstCells ie.size es.length (.slice (some ⟨b, 0, none⟩) es.length cap)).run C.P w.drew = .ok (c.toList.take es.length).toArray w.drew := by
    refine run_firstCells_some w.drew ie.size es.length ⟨b, 0, none⟩ es.length cap _ (by rw [hlenT, h1s, Nat.mul_one]) (fun j v hv => ?_)
    rw [List.getElem?_take] at hv
    split at hv
    ·rw [add_lit, Nat.zero_add, World.cell?_drew]
     simp only [World.cell?, hb]
     simpa using hv
    ·cases hv
   obtain ⟨v, w', g', hr', hst'⟩ := uX (es := es) (fun i => Nat.beq i k || Nat.beq i d) hDl (by simp) hi hik hie hj hjk hy hY hsz h1s hzl' hlen hlen' hs (some ⟨b, 0, none⟩) cap (c.toList.take es.length)
    hold hlenT (fun i x hx => by
     obtain ⟨u, hu, hr⟩ := hcell i x hx
     exact ⟨u, by rw [List.getElem?_take, if_pos (List.getElem?_eq_some_iff.1 hx).1]; simpa using hu, hr⟩) (by omega) o.type hn
   unfold Oper.wp
   rw [hrun0 _ _ hr']
   simp only [Oper.upon, hd]
   exact ⟨g', _, hst', hK⟩
theorem uA {t tx e e' : TypeId} {x y : Operand} {Y : AV} {ys : List PV} {i ie j : TI} (ho : o.op = .call { callee := .builtin .append, args := #[x, y], argTypes := #[t, tx] }) (hd : o.dst = some d) (hn : Nat.blt d C.n = true)
  (hi : look C.tt t = some i) (hik : i.k = .slice e) (hie : look C.tt e = some ie) (hj : look C.tt tx = some j) (hjk : j.k = .slice e') (hx : evo sl x = some (.p (.val (.slice none 0 0))))
  (hy : evo sl y = some Y) (hY : Y.elems? = some ys) (hsz : ∀ y ∈ ys, y.cells = [y]) (hys : 0 < ys.length) (h1s : ie.size = 1) (hzl : Nat.beq ie.zero.length ie.size = true)
  (hlen : ys.length * ie.bytes ≤ 140737488355328) (hlen' : ys.length ≤ 9223372036854775807)
  (hK : K ⟨(d, .arr d 1 0 ys.length) :: (cv (fun i => Nat.beq i d) ⟨sl, ob⟩).sl, (d, ys.map .p) :: (cv (fun i => Nat.beq i d) ⟨sl, ob⟩).ob⟩) : aU C o K ⟨sl, ob⟩ := by
 have hzl' := Nat.eq_of_beq_eq_true hzl
 have hdl : d < M1 := by have h1 := Nat.le_of_ble_eq_true C.nl; have h2 : d < C.n := Nat.blt_eq ▸ hn; omega
 intro g a w hs
 have hx' := bL hs hx
 have hrun0 : ∀ v w', (Builtin.append_ #[t, tx] o.type #[.slice none 0 0, a.eval y]).run C.P w = .ok v w' → (execOp a.eval o).run C.P w = .ok (.value v) w' := by
  intro v w' h
  rw [dy ho]
  simp [builtin, hx', h]
 obtain ⟨v, w', g', hr, hst⟩ := uX (es := []) (fun i => Nat.beq i d) (fun i hi => by have := Nat.eq_of_beq_eq_true hi; omega) (by simp) hi hik hie hj hjk hy hY hsz h1s hzl' (by simpa using hlen) (by simpa using hlen') hs none 0 []
  (run_firstCells_none w.drew ie.size 0 0 0) rfl (by simp) (by simpa using hys) o.type hn
 unfold Oper.wp
 rw [hrun0 _ _ hr]
 simp only [Oper.upon, hd]
 simp only [List.length_nil, Nat.zero_add, List.nil_append] at hst
 exact ⟨g', _, hst, hK⟩
end
theorem St.freeze {n : Nat} {w0 : Base} {w : World} {F : Nat → Prop} {g : Gh} {sl : List (Nat × AV)} {ob : List (Nat × List AV)} {a : Act} (hs : St n w0 F g ⟨sl, ob⟩ a w) {k : Nat} {es : List PV} {j : Nat}
  (hk : k < M1) (hob : look ob k = some (es.map .p)) (hj : look sl j = some (.arr k 1 0 es.length)) (hone : ∀ x ∈ es, x.cells = [x]) (hone' : ∀ x ∈ es, x.one = true) :
  ∃ g', St n w0 F g' ⟨(j, .p (.slice es)) :: (cv (fun i => Nat.beq i k) ⟨sl, ob⟩).sl, (cv (fun i => Nat.beq i k) ⟨sl, ob⟩).ob⟩ a w := by
 obtain ⟨b, c, e, k1, k2, k3, k4, k5⟩ := hs.ob k _ hob
 have hlt : b < w.heap.size := (hs.own k b k1).1
 have keyD : ∀ i b', Nat.beq i k = false → g.ow i = some b' → b' ≠ b := fun i b' hD hi e => by
  subst e
  have := hs.inj i k b' hi k1
  subst this
  simp at hD
 have hev : Ev w g.st w (fun b' o => g.st b' o ∨ (b' = b ∧ o < es.length)) := fun b' o h => ⟨.inl h, rfl⟩
 have hs' := hs.evolve (fun i => Nat.beq i k) (fun i hi => by have := Nat.eq_of_beq_eq_true hi; omega) (g' := ⟨fun b' o => g.st b' o ∨ (b' = b ∧ o < es.length), fun i => if Nat.beq i k then none else g.ow i⟩) hev (fun id b' hD h => ⟨by simp only [hD]; exact h, rfl, fun o ho => ho.resolve_right fun h' => keyD id b' hD h h'.1⟩)
  (fun i j b h1 h2 => by
   dsimp only at h1 h2
   split at h1
   ·cases h1
   ·split at h2
    ·cases h2
    ·exact hs.inj i j b h1 h2) (fun i b h => by
   dsimp only at h
   split at h
   ·cases h
   ·exact hs.own i b h) (fun b' o h => by
   rcases h with h | ⟨rfl, _⟩
   ·exact hs.lt b' o h
   ·exact hlt) (fun b h => rfl) rfl rfl rfl (Nat.le_refl _) (fun b' hb' o => ⟨fun h => h.resolve_right fun h' => (hs.own k b k1).2 (h'.1 ▸ hb'), .inl⟩) (fun i hi => by
    have hne : Nat.beq i k = false := by
     cases hq : Nat.beq i k
     ·rfl
     ·have := Nat.eq_of_beq_eq_true hq; omega
    simp only [hne]; rfl)
 refine ⟨_, { hs' with sl := fun i => ?_, ob := hs'.ob }⟩
 simp only [AS.get, bn]
 by_cases e1 : j = i
 ·subst e1
  simp only [if_true, Option.getD_some]
  have h0 := hs.sl j
  simp only [AS.get, hj, Option.getD_some] at h0
  generalize a.tmps.getD j Go.undef = v at h0
  cases h0 with
  | arr how hb hcs hn =>
   rw [k1] at how; cases how
   rw [k2] at hb; cases hb
   refine .p (.slice 1 (fun i _ => c.getD i Go.undef) hn (fun y hy => by rw [hone y hy]; rfl) (fun x hx y hy => ?_) (fun i x j y hx hy => ?_) (fun i x j y hx hy => ?_))
   ·rw [hone x hx] at hy; simp at hy; rw [hy]; exact hone' x hx
   ·rw [hone x (List.mem_of_getElem? hx)] at hy
    cases j with
    | succ j => simp at hy
    | zero =>
     have hi : i < es.length := (List.getElem?_eq_some_iff.1 hx).1
     have hci : i < c.size := by simp at k3; omega
     refine ⟨.inr ⟨rfl, by omega⟩, ?_⟩
     simp only [World.cell?, k2, Nat.zero_add, Nat.mul_one, Nat.add_zero]
     simp [Array.getD, hci]
   ·rw [hone x (List.mem_of_getElem? hx)] at hy
    cases j with
    | succ j => simp at hy
    | zero =>
     simp only [List.getElem?_cons_zero, Option.some.injEq] at hy
     subst hy
     obtain ⟨u, hu, hr⟩ := k5 i (.p x) (by simp [hx])
     rw [Array.getD_eq_getD_getElem?, hu]
     cases hr with | p hr => exact hr.mono hev
 ·rw [if_neg e1]
  exact hs'.sl i
theorem vu {C : Cx} {c : Code} {Q : Exit → AS → Prop} {sl : List (Nat × AV)} {ob : List (Nat × List AV)} (j : Nat) {k n : Nat} {es : List PV} (hj : look sl j = some (.arr k 1 0 n)) (hk : Nat.blt k M1 = true) (hob : look ob k = some (es.map .p)) (hn : n = es.length)
  (hone : ∀ x ∈ es, x.cells = [x]) (hone' : ∀ x ∈ es, x.one = true)
  (h : awp C c Q ⟨(j, .p (.slice es)) :: (cv (fun i => Nat.beq i k) ⟨sl, ob⟩).sl, (cv (fun i => Nat.beq i k) ⟨sl, ob⟩).ob⟩) : awp C c Q ⟨sl, ob⟩ := by
 subst hn
 intro g a w hs
 obtain ⟨g', hs'⟩ := hs.freeze (Nat.blt_eq ▸ hk) hob hj hone hone'
 exact h g' a w hs'
end Go.Ab
end
section
set_option linter.unusedVariables false
set_option linter.unusedSimpArgs false
set_option linter.unnecessarySimpa false
namespace Go.Ab
def AV.mapA (m : Nat → Option Nat) : AV → Option AV
 | .undef => some .undef
 | .p x => some (.p x)
 | .vec tok sz ty es => match m tok with
  | some t => some (.vec t sz ty es)
  | none => some (.p (.slice es))
 | .arr id sz off n => match m id with
  | some t => some (.arr t sz off n)
  | none => none
 | .ptr id off => match m id with
  | some t => some (.ptr t off)
  | none => none
 | .bptr T sz id => match m id with
  | some t => some (.bptr T sz t)
  | none => none
 | .rptr cs => some (.rptr cs)
 | .agg cs => match go m cs with
  | some l => some (.agg l)
  | none => none
 | .tuple cs => match go m cs with
  | some l => some (.tuple l)
  | none => none
 | .func f cs => match go m cs with
  | some l => some (.func f l)
  | none => none
 | .mp tok kvs => match m tok with
  | some t => some (.mp t kvs)
  | none => none
 | .mpr .. => none
 | .stk tok sz es => match m tok with
  | some t => some (.stk t sz es)
  | none => none where
 go (m : Nat → Option Nat) : List AV → Option (List AV)
 | [] => some []
 | x :: r => match x.mapA m, go m r with
  | some y, some l => some (y :: l)
  | _, _ => none
theorem oD {m : Nat → Option Nat} : ∀ {l l' : List AV}, AV.mapA.go m l = some l' → l.length = l'.length ∧ ∀ (i : Nat) x y, l[i]? = some x → l'[i]? = some y → x.mapA m = some y
 | [], l', h => by simp only [AV.mapA.go, Option.some.injEq] at h; subst h; exact ⟨rfl, by simp⟩
 | x :: r, l', h => by
  simp only [AV.mapA.go] at h
  split at h
  ·rename_i y l0 hy hl
   cases h
   obtain ⟨h1, h2⟩ := oD hl
   refine ⟨by simp [h1], fun i a b ha hb => ?_⟩
   cases i with
   | zero => simp only [List.getElem?_cons_zero, Option.some.injEq] at ha hb; subst ha hb; exact hy
   | succ i => simp only [List.getElem?_cons_succ] at ha hb; exact h2 i a b ha hb
  ·cases h
theorem iV {m : Nat → Option Nat} {w : World} {g g' : Gh} (hst : g'.st = g.st) (hm : ∀ i j b, m i = some j → g.ow i = some b → g'.ow j = some b) {x : AV} {v : Value} (h : ARep w g x v) : ∀ {y : AV}, x.mapA m = some y → ARep w g' y v := by
 have lst : ∀ {cs : List AV} {vs : Array Value} {l : List AV}, vs.size = cs.length → (∀ (i : Nat) c v, cs[i]? = some c → vs[i]? = some v → ∀ {y : AV}, c.mapA m = some y → ARep w g' y v) →
   AV.mapA.go m cs = some l → vs.size = l.length ∧ ∀ (i : Nat) c v, l[i]? = some c → vs[i]? = some v → ARep w g' c v := by
  intro cs vs l hl ih hgo
  obtain ⟨h1, h2⟩ := oD hgo
  refine ⟨by omega, fun i c v hc hv => ?_⟩
  have hi : i < cs.length := by have := (List.getElem?_eq_some_iff.1 hc).1; omega
  exact ih i cs[i] v (List.getElem?_eq_getElem hi) hv (h2 i _ _ (List.getElem?_eq_getElem hi) hc)
 induction h with
 | undef v => intro y hy; simp only [AV.mapA, Option.some.injEq] at hy; subst hy; exact .undef _
 | p h => intro y hy; simp only [AV.mapA, Option.some.injEq] at hy; subst hy; exact .p (hst ▸ h)
 | vecn tok sz ty =>
  intro y hy
  simp only [AV.mapA] at hy
  split at hy <;> cases hy
  ·exact .vecn _ _ _
  ·exact .p .nils
 | vece tok sz a =>
  intro y hy
  simp only [AV.mapA] at hy
  split at hy <;> cases hy
  ·exact .vece _ _ _
  ·exact .p (.nile a)
 | vec how hb hcs hsz hst' hr hty =>
  intro y hy
  simp only [AV.mapA] at hy
  split at hy <;> cases hy
  ·rename_i t ht
   exact .vec (hm _ _ _ ht how) hb hcs hsz (by rw [hst]; exact hst') (by rw [hst]; exact hr) hty
  ·exact .p (by rw [hst]; exact hr)
 | arr how hb hcs hn =>
  intro y hy
  simp only [AV.mapA] at hy
  split at hy <;> cases hy
  rename_i t ht
  exact .arr (hm _ _ _ ht how) hb hcs hn
 | ptr how =>
  intro y hy
  simp only [AV.mapA] at hy
  split at hy <;> cases hy
  rename_i t ht
  exact .ptr (hm _ _ _ ht how)
 | bptrn how hb hcs =>
  intro y hy
  simp only [AV.mapA] at hy
  split at hy <;> cases hy
  rename_i t ht
  exact .bptrn (hm _ _ _ ht how) hb hcs
 | bptr how hb hcs =>
  intro y hy
  simp only [AV.mapA] at hy
  split at hy <;> cases hy
  rename_i t ht
  exact .bptr (hm _ _ _ ht how) hb hcs
 | rptr cf hc hr => intro y hy; simp only [AV.mapA, Option.some.injEq] at hy; subst hy; exact .rptr cf (by rw [hst]; exact hc) (by rw [hst]; exact hr)
 | agg hl h ih =>
  intro y hy
  simp only [AV.mapA] at hy
  split at hy <;> cases hy
  rename_i l hgo
  obtain ⟨k1, k2⟩ := lst hl ih hgo
  exact .agg k1 k2
 | tuple hl h ih =>
  intro y hy
  simp only [AV.mapA] at hy
  split at hy <;> cases hy
  rename_i l hgo
  obtain ⟨k1, k2⟩ := lst hl ih hgo
  exact .tuple k1 k2
 | func hl h ih =>
  intro y hy
  simp only [AV.mapA] at hy
  split at hy <;> cases hy
  rename_i l hgo
  obtain ⟨k1, k2⟩ := lst hl ih hgo
  exact .func k1 k2
 | mp how hb hn hd hk hv =>
  intro y hy
  simp only [AV.mapA] at hy
  split at hy <;> cases hy
  rename_i t ht
  exact .mp (hm _ _ _ ht how) hb hn hd hk (by rw [hst]; exact hv)
 | mpr => intro y hy; simp only [AV.mapA] at hy; cases hy
 | stkn tok sz =>
  intro y hy
  simp only [AV.mapA] at hy
  split at hy <;> cases hy
  exact .stkn _ _
 | stke tok sz a =>
  intro y hy
  simp only [AV.mapA] at hy
  split at hy <;> cases hy
  exact .stke _ _ _
 | stk how hb hcs hlen hsz hone hst' hr =>
  intro y hy
  simp only [AV.mapA] at hy
  split at hy <;> cases hy
  rename_i t ht
  exact .stk (hm _ _ _ ht how) hb hcs hlen hsz hone (by rw [hst]; exact hst') (by rw [hst]; exact hr)
def iA (m : Nat → Option Nat) : List (Nat × List AV) → Option (List (Nat × List AV))
 | [] => some []
 | (i, cs) :: r => match m i, AV.mapA.go m cs, iA m r with
  | some j, some l, some q => some ((j, l) :: q)
  | _, _, _ => none
theorem jP {m : Nat → Option Nat} {w : World} {g g' : Gh} (hst : g'.st = g.st) (hm : ∀ i j b, m i = some j → g.ow i = some b → g'.ow j = some b) :
  ∀ {l l' : List (Nat × List AV)}, iA m l = some l' → (∀ p ∈ l, jY w g p.1 p.2) → ∀ p ∈ l', jY w g' p.1 p.2
 | [], l', h, _, p, hc => by simp only [iA, Option.some.injEq] at h; subst h; simp at hc
 | (i, ds) :: r, l', h, hl, p, hc => by
  simp only [iA] at h
  split at h
  ·rename_i j l q hj hgo hq
   cases h
   rcases List.mem_cons.1 hc with rfl | hc
   ·obtain ⟨b, c, e, k1, k2, k3, k4, k5⟩ := hl (i, ds) (by simp)
    obtain ⟨m1, m2⟩ := oD hgo
    refine ⟨b, c, e, hm _ _ _ hj k1, k2, by simp only at k3 ⊢; omega, by rw [hst]; exact k4, fun n x hx => ?_⟩
    have hn : n < ds.length := by have := (List.getElem?_eq_some_iff.1 hx).1; simp only at this; omega
    obtain ⟨v, hv, hr⟩ := k5 n ds[n] (List.getElem?_eq_getElem hn)
    exact ⟨v, hv, iV hst hm hr (m2 n _ _ (List.getElem?_eq_getElem hn) hx)⟩
   ·exact jP hst hm hq (fun p hp => hl p (by simp [hp])) p hc
  ·cases h
theorem fZ {α : Type} : ∀ {l : List (Nat × α)} {i : Nat} {x : α}, look l i = some x → (i, x) ∈ l
 | [], i, x, h => by simp [look] at h
 | (j, y) :: r, i, x, h => by
  rw [bn] at h
  split at h
  ·rename_i e; subst e; cases h; simp
  ·simp [fZ h]
theorem gm {α : Type} : ∀ (l q : List (Nat × α)) (i : Nat), look (l ++ q) i = match look l i with | some x => some x | none => look q i
 | [], q, i => by simp [look]
 | (j, y) :: r, q, i => by
  simp only [List.cons_append, bn, gm r q i]
  split <;> rfl
structure p7 (w : World) (g : Gh) (w' : World) (g' : Gh) : Prop where
 os : w'.os = w.os
 out : w'.output = w.output
 tape : w'.tape = w.tape
 size : w.heap.size ≤ w'.heap.size
 fr : ∀ b, b < w.heap.size → (∀ i, g.ow i ≠ some b) → w'.heap[b]? = w.heap[b]?
 own : ∀ i b, g'.ow i = some b → b < w'.heap.size ∧ (w.heap.size ≤ b ∨ ∃ j, g.ow j = some b)
 inj : ∀ i j b, g'.ow i = some b → g'.ow j = some b → i = j
 lt : ∀ b o, g'.st b o → b < w'.heap.size
 stf : ∀ b, b < w.heap.size → (∀ i, g.ow i ≠ some b) → ∀ o, g'.st b o ↔ g.st b o
 owf : ∀ i, M1 ≤ i → i < 2 * M1 → g'.ow i = g.ow i
 sh : iU g.ow w w'
 nst : ∀ i b, M1 ≤ i → g.ow i = some b → ∀ o, ¬ g'.st b o
 ev : Ev w g.st w' g'.st
def bO (P : Program) (f : FuncId) (args : List AV) (obs : List (Nat × List AV)) (R : AV → List (Nat × List AV) → Prop) : Prop :=
 ∀ (w : World) (g : Gh) (vs : Array Value), Ok0 w g.st → (∀ i b, g.ow i = some b → b < w.heap.size ∧ i < 2 * M1) →
  (∀ i j b, g.ow i = some b → g.ow j = some b → i = j) → (∀ i b, M1 ≤ i → g.ow i = some b → ∀ o, ¬ g.st b o) → vs.size = args.length →
  (∀ (i : Nat) c v, args[i]? = some c → vs[i]? = some v → ARep w g c v) → (∀ id cs, look obs id = some cs → jY w g id cs) →
  Calls P f vs w fun e w' => ∃ v r obs' g', e = .returned v ∧ R r obs' ∧ ARep w' g' r v ∧ (∀ p ∈ obs', jY w' g' p.1 p.2) ∧ p7 w g w' g'
def iL (args : List AV) : List (Nat × AV) := (args.zipIdx).map fun (x, i) => (i, x)
theorem m9 (args : List AV) : ∀ (k i : Nat), look ((args.zipIdx k).map fun (x, i) => (i, x)) i = if k ≤ i then args[i - k]? else none := by
 induction args with
 | nil => intro k i; simp [look]
 | cons x r ih =>
  intro k i
  simp only [List.zipIdx_cons, List.map_cons, bn, ih]
  by_cases e : k = i
  ·subst e; simp
  ·rw [if_neg e]
   by_cases h : k ≤ i
   ·rw [if_pos (by omega), if_pos h]
    have : i - k = (i - (k + 1)) + 1 := by omega
    rw [this]; simp
   ·rw [if_neg (by omega), if_neg h]
def j8 (ts : List Nat) (i : Nat) : Option Nat := bif Nat.ble M1 i then (bif Nat.blt i MZ then some i else none) else match ts.findIdx? (Nat.beq i) with
 | some k => some (2 * M1 + k)
 | none => none
def hZ (ob : List (Nat × List AV)) : List Nat → Option (List (Nat × List AV))
 | [] => some []
 | i :: r => match look ob i, hZ ob r with
  | some cs, some l => some ((i, cs) :: l)
  | _, _ => none
theorem lf {ob : List (Nat × List AV)} : ∀ {ids : List Nat} {l : List (Nat × List AV)}, hZ ob ids = some l → ∀ p ∈ l, look ob p.1 = some p.2
 | [], l, h, p, hp => by simp only [hZ, Option.some.injEq] at h; subst h; simp at hp
 | i :: r, l, h, p, hp => by
  simp only [hZ] at h
  split at h
  ·rename_i cs l' hcs hl'
   cases h
   rcases List.mem_cons.1 hp with rfl | hp
   ·exact hcs
   ·exact lf hl' p hp
  ·cases h
def nodupB : List Nat → Bool
 | [] => true
 | x :: r => !(r.any (Nat.beq x)) && nodupB r
theorem fE : ∀ {l : List Nat}, nodupB l = true → ∀ (i j x : Nat), l[i]? = some x → l[j]? = some x → i = j
 | [], _, i, j, x, h, _ => by simp at h
 | y :: r, h, i, j, x, hi, hj => by
  simp only [nodupB, Bool.and_eq_true, Bool.not_eq_true', List.any_eq_false] at h
  cases i with
  | zero =>
   cases j with
   | zero => rfl
   | succ j =>
    simp only [List.getElem?_cons_zero, Option.some.injEq, List.getElem?_cons_succ] at hi hj
    subst hi
    exact absurd (by simp) (h.1 y (List.mem_of_getElem? hj))
  | succ i =>
   cases j with
   | zero =>
    simp only [List.getElem?_cons_zero, Option.some.injEq, List.getElem?_cons_succ] at hi hj
    subst hj
    exact absurd (by simp) (h.1 y (List.mem_of_getElem? hi))
   | succ j =>
    simp only [List.getElem?_cons_succ] at hi hj
    rw [fE h.2 i j x hi hj]
def yX (fn : Func) (ts ids : List Nat) (R : AV → List (Nat × List AV) → Prop) (e : Exit) (s : AS) : Prop :=
 (e = .normal ∨ e = .ret) ∧ ∃ l r obs obs', kg fn.results.toList s = some l ∧ (lV l).mapA (j8 ts) = some r ∧ hZ s.ob ids = some obs ∧ iA (j8 ts) obs = some obs' ∧ R r obs'
theorem AL {fn : Func} {ts ids : List Nat} {R : AV → List (Nat × List AV) → Prop} {s : AS} {l : List AV} {r : AV} {obs obs' : List (Nat × List AV)} (h1 : kg fn.results.toList s = some l) (h2 : (lV l).mapA (j8 ts) = some r)
  (h3 : hZ s.ob ids = some obs) (h4 : iA (j8 ts) obs = some obs') (h5 : R r obs') : yX fn ts ids R .ret s := ⟨.inr rfl, l, r, obs, obs', h1, h2, h3, h4, h5⟩
theorem zT {fn : Func} {ts ids : List Nat} {R : AV → List (Nat × List AV) → Prop} {s : AS} {l : List AV} {r : AV} {obs obs' : List (Nat × List AV)} (h1 : kg fn.results.toList s = some l) (h2 : (lV l).mapA (j8 ts) = some r)
  (h3 : hZ s.ob ids = some obs) (h4 : iA (j8 ts) obs = some obs') (h5 : R r obs') : yX fn ts ids R .normal s := ⟨.inl rfl, l, r, obs, obs', h1, h2, h3, h4, h5⟩
theorem gv : ∀ {ts : List Nat} {i k : Nat}, ts.findIdx? (Nat.beq i) = some k → ts[k]? = some i := by
 intro ts i k h
 obtain ⟨h1, h2, _⟩ := List.findIdx?_eq_some_iff_getElem.1 h
 rw [List.getElem?_eq_getElem h1]
 rw [Nat.eq_of_beq_eq_true h2]
theorem mN {P : Program} {tt : List (Nat × TI)} (good : dr P tt) {f : FuncId} {fn : Func} {c : Code} {args : List AV} {obs : List (Nat × List AV)} {R : AV → List (Nat × List AV) → Prop} (ts ids : List Nat) (hf : P.funcs[f]? = some fn) (hb : fn.body = some c)
  (hn : args.length ≤ fn.ntmps) (hnl : Nat.ble fn.ntmps M1 = true) (hts : ts.all (fun i => Nat.blt i M1) = true) (hnd : nodupB ts = true)
  (h : ∀ w0 F, awp ⟨P, tt, good, fn.ntmps, hnl, w0, F⟩ c (yX fn ts ids R) ⟨iL args, obs⟩) : bO P f args obs R := by
 intro w g vs hlt hown hinj hnst h1 h2 hobs
 refine calls_of_wp hf hb ?_
 have hs : St fn.ntmps ⟨w, g.st, g.ow, hlt.gl, fun i b h => Nat.lt_of_lt_of_le (hown i b h).2 sR⟩ (fun b => b < w.heap.size ∧ ∀ i, g.ow i ≠ some b) g ⟨iL args, obs⟩ { tmps := vs ++ Array.replicate (fn.ntmps - vs.size) Go.undef, defers := [] } w := by
  refine ⟨rfl, ?_, ?_, hobs, hinj, ?_, hlt.lt, ?_, ?_, rfl, rfl, rfl, Nat.le_refl _, fun b _ o => Iff.rfl, fun _ _ _ => rfl, iU.refl _ _, fun i b hi h => hnst i b hi h, Ev.refl _ _⟩
  ·simp only [Array.size_append, Array.size_replicate]; omega
  ·intro i
   have := m9 args 0 i
   simp only [AS.get, iL, this, Nat.zero_le, if_true, Nat.sub_zero]
   cases ha : args[i]? with
   | none => exact .undef _
   | some x =>
    have hi : i < args.length := (List.getElem?_eq_some_iff.1 ha).1
    have hi2 : i < vs.size := by omega
    have e : (vs ++ Array.replicate (fn.ntmps - vs.size) Go.undef).getD i Go.undef = vs[i] := by
     simp [Array.getD_eq_getD_getElem?, Array.getElem?_append, hi2]
    simp only [Option.getD_some]
    rw [e]
    exact h2 i x _ ha (Array.getElem?_eq_getElem hi2)
  ·intro i b hi; exact ⟨(hown i b hi).1, fun h => h.2 i hi⟩
  ·intro b h; exact h.1
  ·intro b h; rfl
 refine wp_mono (h ⟨w, g.st, g.ow, hlt.gl, fun i b h => Nat.lt_of_lt_of_le (hown i b h).2 sR⟩ _ g _ w hs) ?_
 rintro e a' w' ⟨g1, s', h3, he, l, r, obs1, obs', hl, hr, hp, hm, hR⟩
 obtain ⟨v, hv, hvr⟩ := ql (P := P) h3 fn l hl
 have hown3 : ∀ i b, M1 ≤ i → i < MZ → g1.ow i = some b → i < 2 * M1 := by
  intro i b hi hz hb
  rw [h3.owf i hi hz] at hb
  exact (hown i b hb).2
 have hmap : ∀ i j b, j8 ts i = some j → g1.ow i = some b → (if 2 * M1 ≤ j then (ts[j - 2 * M1]?).bind g1.ow else if M1 ≤ j then g1.ow j else none) = some b := by
  intro i j b hij hb
  unfold j8 at hij
  cases hle : Nat.ble M1 i
  ·rw [hle] at hij
   simp only [cond_false] at hij
   split at hij
   ·rename_i k hk
    cases hij
    rw [if_pos (by omega), Nat.add_sub_cancel_left, gv hk]
    exact hb
   ·cases hij
  ·rw [hle] at hij
   simp only [cond_true] at hij
   cases hz : Nat.blt i MZ <;> rw [hz] at hij <;> simp only [cond_true, cond_false, Option.some.injEq, reduceCtorEq] at hij
   subst hij
   have h4 := Nat.le_of_ble_eq_true hle
   have h5 := hown3 i b h4 (Nat.blt_eq ▸ hz) hb
   rw [if_neg (by omega), if_pos h4]
   exact hb
 have hts' : ∀ (k t : Nat), ts[k]? = some t → t < M1 := by
  intro k t hk
  have := List.all_eq_true.1 hts t (List.mem_of_getElem? hk)
  exact Nat.blt_eq ▸ this
 have inv : ∀ j b, (if 2 * M1 ≤ j then (ts[j - 2 * M1]?).bind g1.ow else if M1 ≤ j then g1.ow j else none) = some b →
   (∃ t, ts[j - 2 * M1]? = some t ∧ 2 * M1 ≤ j ∧ g1.ow t = some b) ∨ (M1 ≤ j ∧ j < 2 * M1 ∧ g1.ow j = some b) := by
  intro j b h
  by_cases e1 : 2 * M1 ≤ j
  ·rw [if_pos e1] at h
   obtain ⟨t, ht, hb⟩ := Option.bind_eq_some_iff.1 h
   exact .inl ⟨t, ht, e1, hb⟩
  ·rw [if_neg e1] at h
   by_cases e2 : M1 ≤ j
   ·rw [if_pos e2] at h; exact .inr ⟨e2, by omega, h⟩
   ·rw [if_neg e2] at h; cases h
 have hst0 : (⟨g1.st, fun j => if 2 * M1 ≤ j then (ts[j - 2 * M1]?).bind g1.ow else if M1 ≤ j then g1.ow j else none⟩ : Gh).st = g1.st := rfl
 have fin : ∃ v, (results fn a'.tmps).run P w' = .ok v w' ∧ ∃ v1 r obs' g', Ending.returned v = .returned v1 ∧ R r obs' ∧ ARep w' g' r v1 ∧ (∀ p ∈ obs', jY w' g' p.1 p.2) ∧ p7 w g w' g' := by
  refine ⟨v, hv, v, r, obs', ⟨g1.st, fun j => if 2 * M1 ≤ j then (ts[j - 2 * M1]?).bind g1.ow else if M1 ≤ j then g1.ow j else none⟩, rfl, hR, iV hst0 hmap hvr hr, jP hst0 hmap hm (fun p hp' => h3.ob p.1 p.2 (lf hp p hp')), ?_⟩
  refine ⟨h3.os, h3.out, h3.tape, h3.size, fun b hb hno => h3.fr b ⟨hb, hno⟩, fun i b hi => ?_, fun i j b hi hj => ?_, h3.lt, fun b hb hno => h3.stf b ⟨hb, hno⟩, fun i h1 h2 => ?_, h3.shf, h3.nst, h3.ev0⟩
  ·have key : ∀ t, g1.ow t = some b → b < w'.heap.size ∧ (w.heap.size ≤ b ∨ ∃ j, g.ow j = some b) := by
    intro t ht
    obtain ⟨k1, k2⟩ := h3.own t b ht
    refine ⟨k1, ?_⟩
    by_cases hb : w.heap.size ≤ b
    ·exact .inl hb
    ·refine .inr ?_
     by_cases hex : ∃ j, g.ow j = some b
     ·exact hex
     ·exact absurd ⟨by omega, fun i hi => hex ⟨i, hi⟩⟩ k2
   rcases inv i b hi with ⟨t, _, _, ht⟩ | ⟨_, _, ht⟩
   ·exact key t ht
   ·exact key i ht
  ·rcases inv i b hi with ⟨t, a1, a2, a3⟩ | ⟨a1, a2, a3⟩ <;> rcases inv j b hj with ⟨u, b1, b2, b3⟩ | ⟨b1, b2, b3⟩
   ·have := h3.inj t u b a3 b3
    subst this
    have := fE hnd _ _ _ a1 b1
    omega
   ·have := h3.inj t j b a3 b3
    have := hts' _ t a1
    omega
   ·have := h3.inj i u b a3 b3
    have := hts' _ u b1
    omega
   ·exact h3.inj i j b a3 b3
  ·dsimp only
   rw [if_neg (by omega), if_pos h1]
   exact h3.owf i h1 (Nat.lt_of_lt_of_le h2 sR)
 rcases he with rfl | rfl
 ·exact ⟨h3.nd, fin⟩
 ·exact ⟨h3.nd, fin⟩
def qu : List AV → List AV → Prop
 | [], [] => True
 | x :: r, y :: q => x.sub y ∧ qu r q
 | _, _ => False
theorem km : ∀ {l q : List AV}, qu l q → l.length = q.length ∧ ∀ (j : Nat) x y, l[j]? = some x → q[j]? = some y → x.sub y
 | [], [], _ => ⟨rfl, by simp⟩
 | [], _ :: _, h => h.elim
 | _ :: _, [], h => h.elim
 | x :: r, y :: q, h => by
  obtain ⟨h1, h2⟩ := km h.2
  refine ⟨by simp [h1], fun j x' y' hx hy => ?_⟩
  cases j with
  | zero => simp only [List.getElem?_cons_zero, Option.some.injEq] at hx hy; subst hx hy; exact h.1
  | succ j => simp only [List.getElem?_cons_succ] at hx hy; exact h2 j x' y' hx hy
def sK (ids : List Nat) (i : Nat) : Option Nat := match ids.findIdx? (Nat.beq i) with
 | some k => some (M1 + k)
 | none => none
def lX (ids : List Nat) (NB NE : Nat) (j : Nat) : Option Nat := bif Nat.ble (2 * M1) j then (bif Nat.blt (NB + (j - 2 * M1)) NE then some (NB + (j - 2 * M1)) else none) else bif Nat.ble M1 j then ids[j - M1]? else none
theorem qZ {ids : List Nat} {NB NE j i : Nat} (h : lX ids NB NE j = some i) : (∃ k, j = 2 * M1 + k ∧ i = NB + k ∧ i < NE) ∨ (M1 ≤ j ∧ j < 2 * M1 ∧ ids[j - M1]? = some i) := by
 generalize hm : 2 * M1 = m at *
 unfold lX at h
 rw [hm] at h
 rcases Nat.lt_or_ge j m with hlt | hge
 ·have e1 : Nat.ble m j = false := by
   cases hq : Nat.ble m j
   ·rfl
   ·have := Nat.le_of_ble_eq_true hq; omega
  rw [e1, cond_false] at h
  cases h2 : Nat.ble M1 j
  ·rw [h2, cond_false] at h; cases h
  ·rw [h2, cond_true] at h
   exact .inr ⟨Nat.le_of_ble_eq_true h2, hlt, h⟩
 ·obtain ⟨k, rfl⟩ := Nat.le.dest hge
  rw [Nat.ble_eq_true_of_le hge, cond_true, Nat.add_sub_cancel_left] at h
  cases h2 : Nat.blt (NB + k) NE
  ·rw [h2, cond_false] at h; cases h
  ·rw [h2, cond_true] at h
   cases h
   exact .inl ⟨k, rfl, rfl, by rw [← Nat.blt_eq]; exact h2⟩
section
variable {C : Cx} {o : Oper} {K : AS → Prop} {sl : List (Nat × AV)} {ob : List (Nat × List AV)} {d : Nat}
theorem x7 (ids : List Nat) (NB NE : Nat) {f : FuncId} {args : Array Operand} {ts : Array TypeId} {l l' q : List AV} {obs obs0 qo : List (Nat × List AV)} {R : AV → List (Nat × List AV) → Prop} (hc : bO C.P f q qo R) (ho : o.op = .call { callee := .value (.func f), args := args, argTypes := ts })
  (hd : o.dst = some d) (hn : Nat.blt d C.n = true) (hl : ko sl args.toList = some l) (hl' : AV.mapA.go (sK ids) l = some l') (hq : qu l' q) (hpk : hZ ob ids = some obs) (hmo : iA (sK ids) obs = some obs0) (hqo : leO obs0 qo)
  (hnd : nodupB ids = true) (hids : ids.all (fun i => Nat.blt i M1) = true) (hil : Nat.ble ids.length M1 = true) (hdl : Nat.ble NE M1 = true) (hdis : ids.all (fun i => !(Nat.ble NB i && Nat.blt i NE)) = true)
  (henter : ∀ vs w, (callFunc f vs).run C.P w = .ok (.enter f vs) w)
  (hK : ∀ r obs', R r obs' → ∃ r' ob', r.mapA (lX ids NB NE) = some r' ∧ iA (lX ids NB NE) obs' = some ob' ∧
   K ⟨(d, r') :: (cv (fun i => Nat.ble NB i && Nat.blt i NE) ⟨sl, ob⟩).sl, ob' ++ (cv (fun i => Nat.ble NB i && Nat.blt i NE) ⟨sl, ob.filter fun p => !(ids.any (Nat.beq p.1))⟩).ob⟩) : aU C o K ⟨sl, ob⟩ := by
 have hidl : ∀ (k i : Nat), ids[k]? = some i → i < M1 := fun k i h => by
  have := List.all_eq_true.1 hids i (List.mem_of_getElem? h)
  exact Nat.blt_eq ▸ this
 have hidD : ∀ (k i : Nat), ids[k]? = some i → (Nat.ble NB i && Nat.blt i NE) = false := fun k i h => by
  have := List.all_eq_true.1 hdis i (List.mem_of_getElem? h)
  simpa only [Bool.not_eq_true'] using this
 have hD : ∀ i, (Nat.ble NB i && Nat.blt i NE) = true → NB ≤ i ∧ i < NE := fun i h => by
  simp only [Bool.and_eq_true] at h
  exact ⟨Nat.le_of_ble_eq_true h.1, Nat.blt_eq ▸ h.2⟩
 have hdl' := Nat.le_of_ble_eq_true hdl
 have hil' := Nat.le_of_ble_eq_true hil
 intro g a w hs
 obtain ⟨a1, a2⟩ := lL hs _ l hl
 obtain ⟨gc, hgc⟩ : ∃ gc : Gh, gc = ⟨g.st, fun j => if M1 ≤ j then (ids[j - M1]?).bind g.ow else none⟩ := ⟨_, rfl⟩
 have hgst : gc.st = g.st := by rw [hgc]
 have gcinv : ∀ j b, gc.ow j = some b → ∃ i, ids[j - M1]? = some i ∧ M1 ≤ j ∧ j < 2 * M1 ∧ g.ow i = some b := by
  intro j b h
  rw [hgc] at h
  dsimp only at h
  by_cases e : M1 ≤ j
  ·rw [if_pos e] at h
   obtain ⟨i, h1, h2⟩ := Option.bind_eq_some_iff.1 h
   have := (List.getElem?_eq_some_iff.1 h1).1
   exact ⟨i, h1, e, by omega, h2⟩
  ·rw [if_neg e] at h; cases h
 have hpm : ∀ i j b, sK ids i = some j → g.ow i = some b → gc.ow j = some b := by
  intro i j b h hb
  unfold sK at h
  split at h
  ·rename_i k hk
   cases h
   rw [hgc]
   dsimp only
   rw [if_pos (by omega), Nat.add_sub_cancel_left, gv hk]
   exact hb
  ·cases h
 have hidob : ∀ (k i : Nat), ids[k]? = some i → ∃ cs, look ob i = some cs := by
  have : ∀ (ids : List Nat) (obs : List (Nat × List AV)), hZ ob ids = some obs → ∀ (k i : Nat), ids[k]? = some i → ∃ cs, look ob i = some cs := by
   intro ids
   induction ids with
   | nil => intro obs _ k i h; simp at h
   | cons x r ih =>
    intro obs h k i hk
    simp only [hZ] at h
    split at h
    ·rename_i cs l0 h1 h2
     cases k with
     | zero => simp only [List.getElem?_cons_zero, Option.some.injEq] at hk; subst hk; exact ⟨cs, h1⟩
     | succ k => simp only [List.getElem?_cons_succ] at hk; exact ih l0 h2 k i hk
    ·cases h
  exact this ids obs hpk
 have hnst : ∀ j b, gc.ow j = some b → ∀ o, ¬ g.st b o := by
  intro j b h o ho
  obtain ⟨i, h1, _, _, h4⟩ := gcinv j b h
  obtain ⟨cs, hcs⟩ := hidob _ i h1
  obtain ⟨b', c, e, k1, _, _, k4, _⟩ := hs.ob i cs hcs
  rw [h4] at k1; cases k1
  exact k4 o ho
 obtain ⟨m1, m2⟩ := oD hl'
 obtain ⟨b1, b2⟩ := km hq
 have hargs : ∀ (i : Nat) c v, q[i]? = some c → (args.map a.eval)[i]? = some v → ARep w gc c v := by
  intro i c v hc hv
  have hi' : i < l'.length := by have := (List.getElem?_eq_some_iff.1 hc).1; omega
  have hi : i < l.length := by omega
  have hv' : (args.toList.map a.eval)[i]? = some v := by rw [← Array.toList_map]; simpa using hv
  have h1 := a2 i _ v (List.getElem?_eq_getElem hi) hv'
  have h2 := iV hgst hpm h1 (m2 i _ _ (List.getElem?_eq_getElem hi) (List.getElem?_eq_getElem hi'))
  exact b2 i _ c (List.getElem?_eq_getElem hi') hc w gc v h2
 have hobs0 := jP hgst hpm hmo (fun p hp => hs.ob p.1 p.2 (lf hpk p hp))
 have hqo' : ∀ id cs, look qo id = some cs → jY w gc id cs := by
  intro id cs h
  obtain ⟨ds, h1, h2⟩ := oQ hqo id cs h
  obtain ⟨k1, k2⟩ := jf h2
  obtain ⟨b, c, e, n1, n2, n3, n4, n5⟩ := hobs0 (id, ds) (fZ h1)
  refine ⟨b, c, e, n1, n2, by simp only at n3; omega, n4, fun i x hx => ?_⟩
  have hi : i < ds.length := by have := (List.getElem?_eq_some_iff.1 hx).1; omega
  obtain ⟨v, hv, hr⟩ := n5 i ds[i] (List.getElem?_eq_getElem hi)
  exact ⟨v, hv, k2 i x _ hx (List.getElem?_eq_getElem hi) _ _ _ hr⟩
 have hcall := hc w gc (args.map a.eval) (by rw [hgst]; exact hs.ok0) (fun j b h => by
   obtain ⟨i, h1, h2, h3, h4⟩ := gcinv j b h
   exact ⟨(hs.own i b h4).1, h3⟩) (fun i j b h1 h2 => by
   obtain ⟨i', p1, p2, _, p3⟩ := gcinv i b h1
   obtain ⟨j', q1, q2, _, q3⟩ := gcinv j b h2
   have := hs.inj i' j' b p3 q3
   subst this
   have := fE hnd _ _ _ p1 q1
   omega) (fun j b _ h => by rw [hgst]; exact hnst j b h) (by have hlen := a1.symm.trans (m1.trans b1); simpa using hlen) hargs hqo'
 unfold Oper.wp
 have hrun : (execOp a.eval o).run C.P w = .ok (.enter f (args.map a.eval)) w := by
  simp [execOp, ho, resolve, Act.eval, Deferred.ofValue, invoke, henter]
 rw [hrun]
 simp only [Oper.upon]
 refine hcall.mono fun e w' ⟨v, r, obs', g', he, hR, hr, hob', hA⟩ => ?_
 subst he
 obtain ⟨r', ob', hr', hmo', hK'⟩ := hK r obs' hR
 have nogc : ∀ i b, (∀ (k : Nat), ids[k]? ≠ some i) → g.ow i = some b → ∀ j, gc.ow j ≠ some b := by
  intro i b hi hb j hj
  obtain ⟨i', p1, _, _, p3⟩ := gcinv j b hj
  have := hs.inj i i' b hb p3
  subst this
  exact hi _ p1
 have stno : ∀ b o, g.st b o → ∀ j, gc.ow j ≠ some b := fun b o h j hj => hnst j b hj o h
 obtain ⟨g2, hg2⟩ : ∃ g2 : Gh, g2 = ⟨g'.st, fun i => if (Nat.ble NB i && Nat.blt i NE) = true then g'.ow (2 * M1 + (i - NB)) else g.ow i⟩ := ⟨_, rfl⟩
 have hg2st : g2.st = g'.st := by rw [hg2]
 have g2old : ∀ i, (Nat.ble NB i && Nat.blt i NE) = false → g2.ow i = g.ow i := fun i h => by rw [hg2]; simp only [h]; rfl
 have g2new : ∀ i, (Nat.ble NB i && Nat.blt i NE) = true → g2.ow i = g'.ow (2 * M1 + (i - NB)) := fun i h => by rw [hg2]; simp only [h, if_true]
 have hDM : ∀ i, M1 ≤ i → (Nat.ble NB i && Nat.blt i NE) = false := fun i hi => by
  cases hq : (Nat.ble NB i && Nat.blt i NE)
  ·rfl
  ·have := hD i hq; omega
 have hbm : ∀ j i b, lX ids NB NE j = some i → g'.ow j = some b → g2.ow i = some b := by
  intro j i b h hb
  rcases qZ h with ⟨k, rfl, rfl, h4⟩ | ⟨h3, h4, h5⟩
  ·rw [g2new (NB + k) (by
    simp only [Bool.and_eq_true]
    exact ⟨Nat.ble_eq_true_of_le (Nat.le_add_right _ _), by rw [Nat.blt_eq]; exact h4⟩), Nat.add_sub_cancel_left]
   exact hb
  ·rw [g2old i (hidD _ i h5)]
   rw [hA.owf j h3 h4] at hb
   obtain ⟨i', p1, _, _, p3⟩ := gcinv j b hb
   rw [h5] at p1; cases p1
   exact p3
 have hE : EvO (fun i => Nat.ble NB i && Nat.blt i NE) w g w' g2 := by
  refine ⟨fun b o h => ?_, fun id b hq h => by rw [g2old id hq]; exact h, fun id b c e hq h0 h => ?shape, fun id b o hq h ho => ?_, fun id b es k hq h0 h => ?mpc, fun i hi => hDM i (sU hi), fun id b o hq h0 ho => ?stb⟩
  case stb =>
   have hlt := (hs.own id b h0).1
   by_cases hno : ∃ j, gc.ow j = some b
   ·obtain ⟨j, hj⟩ := hno
    obtain ⟨i', p1, _, _, p3⟩ := gcinv j b hj
    obtain ⟨cs, hcs⟩ := hidob _ i' p1
    obtain ⟨b', c, e, k1, k2, _, k4, _⟩ := hs.ob i' cs hcs
    rw [p3] at k1; cases k1
    exact absurd ho (k4 o)
   ·exact hA.fr b hlt (fun j hj => hno ⟨j, hj⟩)
  case mpc =>
   have hlt := (hs.own id b h0).1
   by_cases hno : ∃ j, gc.ow j = some b
   ·obtain ⟨j, hj⟩ := hno
    obtain ⟨i', p1, _, _, p3⟩ := gcinv j b hj
    obtain ⟨cs, hcs⟩ := hidob _ i' p1
    obtain ⟨b', c, e, k1, k2, _⟩ := hs.ob i' cs hcs
    rw [p3] at k1; cases k1
    rw [k2] at h; cases h
   ·exact (hA.fr b hlt (fun j hj => hno ⟨j, hj⟩)).trans h
  case shape =>
   have hlt := (hs.own id b h0).1
   by_cases hno : ∃ j, gc.ow j = some b
   ·obtain ⟨j, hj⟩ := hno
    obtain ⟨_, _, p2, _, _⟩ := gcinv j b hj
    exact hA.sh j b c e p2 hj h
   ·exact ⟨c, (hA.fr b hlt (fun j hj => hno ⟨j, hj⟩)).trans h, rfl⟩
  ·have hlt := hs.lt b o h
   have hno := stno b o h
   refine ⟨by rw [hg2st]; exact (hA.stf b hlt hno o).2 (by rw [hgst]; exact h), ?_⟩
   simp only [World.cell?, hA.fr b hlt hno]
  ·rw [hg2st] at ho
   have hlt := (hs.own id b h).1
   by_cases hno : ∃ j, gc.ow j = some b
   ·obtain ⟨j, hj⟩ := hno
    obtain ⟨_, _, p2, _, _⟩ := gcinv j b hj
    exact absurd ho (hA.nst j b p2 hj o)
   ·have := (hA.stf b hlt (fun j hj => hno ⟨j, hj⟩) o).1 ho
    rw [hgst] at this; exact this
 have hs' : St C.n C.w0 C.F g2 ⟨(cv (fun i => Nat.ble NB i && Nat.blt i NE) ⟨sl, ob⟩).sl, ob' ++ (cv (fun i => Nat.ble NB i && Nat.blt i NE) ⟨sl, ob.filter fun p => !(ids.any (Nat.beq p.1))⟩).ob⟩ a w' := by
  refine ⟨hs.nd, hs.sz, fun i => ?_, fun id cs h => ?_, fun i j b h1 h2 => ?_, fun i b h => ?_, by rw [hg2st]; exact hA.lt, hs.fl, fun b h => ?_, hA.os.trans hs.os, hA.out.trans hs.out, hA.tape.trans hs.tape, Nat.le_trans hs.size hA.size, fun b h o => ?_, fun i h hz => ?_, hs.shf.next (fun i b c e hi hb h => hE.shape i b c e (hDM i hi) ((hs.owf i hi (C.w0.lo i b hb)).trans hb) h), fun i b h1 h2 o h3 => ?_, hs.ev0.trans hE.ev⟩
  ·have h := (hs.sl i).dem hE
   simp only [AS.get, cv, gf]
   simp only [AS.get] at h
   cases hl : look sl i with
   | none => simp only [Option.map_none, Option.getD_none]; exact .undef _
   | some x => rw [hl] at h; simpa using h
  ·dsimp only at h
   rw [gm] at h
   split at h
   ·rename_i x hx
    cases h
    exact jP hg2st hbm hmo' hob' (id, cs) (fZ hx)
   ·have hf1 := gj (fun i => Nat.ble NB i && Nat.blt i NE) (ob.filter fun p => !(ids.any (Nat.beq p.1))) id
    simp only [cv, gf] at h
    rw [hf1] at h
    cases hDi : (Nat.ble NB id && Nat.blt id NE)
    ·simp only [hDi, Bool.false_eq_true, if_false, Option.map_eq_some_iff] at h
     have hf := gj (fun i => ids.any (Nat.beq i)) ob id
     rw [hf] at h
     cases hany : ids.any (Nat.beq id)
     ·rw [hany] at h
      simp only [Bool.false_eq_true, if_false] at h
      obtain ⟨ds, h1, rfl⟩ := h
      have hni : ∀ (k : Nat), ids[k]? ≠ some id := fun k hk => by
       rw [List.any_eq_false] at hany
       exact hany id (List.mem_of_getElem? hk) (by simp)
      obtain ⟨b, c, e, k1, k2, k3, k4, k5⟩ := hs.ob id ds h1
      have hlt := (hs.own id b k1).1
      have hno := nogc id b hni k1
      refine ⟨b, c, e, by rw [g2old id hDi]; exact k1, (hA.fr b hlt hno).trans k2, by simpa [gM] using k3, fun o ho => ?_, fun i x hx => ?_⟩
      ·rw [hg2st] at ho
       have := (hA.stf b hlt hno o).1 ho
       rw [hgst] at this; exact k4 o this
      ·simp only [gM, List.getElem?_map, Option.map_eq_some_iff] at hx
       obtain ⟨y, hy, rfl⟩ := hx
       obtain ⟨v, hv, hr⟩ := k5 i y hy
       exact ⟨v, hv, hr.dem hE⟩
     ·rw [hany] at h; simp at h
    ·simp [hDi] at h
  ·have cross : ∀ i j b, (Nat.ble NB i && Nat.blt i NE) = true → (Nat.ble NB j && Nat.blt j NE) = false → g2.ow i = some b → g2.ow j = some b → False := by
    intro i j b hi hj h1 h2
    rw [g2new i hi] at h1
    rw [g2old j hj] at h2
    have hlt := (hs.own j b h2).1
    rcases (hA.own _ b h1).2 with h3 | ⟨j', hj'⟩
    ·omega
    ·obtain ⟨_, _, p2, p3, _⟩ := gcinv j' b hj'
     have h4 := hA.owf j' p2 p3
     rw [hj'] at h4
     have := hA.inj _ _ b h1 h4
     omega
   cases hDi : (Nat.ble NB i && Nat.blt i NE) <;> cases hDj : (Nat.ble NB j && Nat.blt j NE)
   ·rw [g2old i hDi] at h1; rw [g2old j hDj] at h2; exact hs.inj i j b h1 h2
   ·exact (cross j i b hDj hDi h2 h1).elim
   ·exact (cross i j b hDi hDj h1 h2).elim
   ·rw [g2new i hDi] at h1; rw [g2new j hDj] at h2
    have := hA.inj _ _ b h1 h2
    have := hD i hDi
    have := hD j hDj
    omega
  ·cases hDi : (Nat.ble NB i && Nat.blt i NE)
   ·rw [g2old i hDi] at h
    have := hs.own i b h
    have := hA.size
    exact ⟨by omega, (hs.own i b h).2⟩
   ·rw [g2new i hDi] at h
    obtain ⟨k1, k2⟩ := hA.own _ b h
    refine ⟨k1, fun hF => ?_⟩
    rcases k2 with k2 | ⟨j, hj⟩
    ·have := hs.fl b hF; have := hs.size; omega
    ·obtain ⟨i', _, _, _, p3⟩ := gcinv j b hj
     exact (hs.own i' b p3).2 hF
  ·have hlt : b < w.heap.size := by have := hs.fl b h; have := hs.size; omega
   exact (hA.fr b hlt fun j hj => by
    obtain ⟨i', _, _, _, p3⟩ := gcinv j b hj
    exact (hs.own i' b p3).2 h).trans (hs.fr b h)
  ·have hlt : b < w.heap.size := by have := hs.fl b h; have := hs.size; omega
   rw [hg2st]
   have := hA.stf b hlt (fun j hj => by
    obtain ⟨i', _, _, _, p3⟩ := gcinv j b hj
    exact (hs.own i' b p3).2 h) o
   rw [hgst] at this
   exact this.trans (hs.stf b h o)
  ·rw [g2old i (hDM i h)]; exact hs.owf i h hz
  ·rw [hg2st] at h3
   have h4 : g.ow i = some b := (hs.owf i h1 (C.w0.lo i b h2)).trans h2
   have hlt := (hs.own i b h4).1
   have hno := nogc i b (fun k hk => by have := hidl k i hk; omega) h4
   have := (hA.stf b hlt hno o).1 h3
   rw [hgst] at this
   exact hs.nst i b h1 h2 o this
 have hp := hs'.put (d := o.dst) (fun t ht => by rw [hd] at ht; cases ht; exact Nat.blt_eq ▸ hn) (iV hg2st hbm hr hr')
 rw [hd] at hp
 simp only
 rw [hd]
 exact ⟨_, _, hp, hK'⟩
end
end Go.Ab
end
section
set_option linter.unusedVariables false
set_option linter.unusedSimpArgs false
set_option linter.unnecessarySimpa false
namespace Go.Ab
def noGoto (Q : Exit → AS → Prop) : Exit → AS → Prop
 | .goto _, _ => False
 | e, s => Q e s
theorem dD {C : Cx} {c : Code} {Q : Exit → AS → Prop} {s : AS} (h : awp C c (noGoto Q) s) : awp C (.scope c) Q s := by
 intro g a w hs
 refine wp_scope_straight (wp_mono (h g a w hs) ?_)
 rintro e a' w' ⟨g', s', h1, h2⟩
 cases e with
 | goto l => exact h2.elim
 | normal => exact ⟨g', s', h1, h2⟩
 | exit id => exact ⟨g', s', h1, h2⟩
 | ret => exact ⟨g', s', h1, h2⟩
 | panic ch => exact ⟨g', s', h1, h2⟩
 | outgrown => exact ⟨g', s', h1, h2⟩
theorem aL {K : AS → Prop} {Q : Exit → AS → Prop} {s : AS} (h : Q .ret s) : mB K Q .ret s := h
theorem aG {K : AS → Prop} {Q : Exit → AS → Prop} {s : AS} {id : Nat} (h : Q (.exit id) s) : mB K Q (.exit id) s := h
theorem aH {id : Nat} {Q : Exit → AS → Prop} {s : AS} (h : Q .ret s) : iW id Q .ret s := h
theorem ak {id : Nat} {Q : Exit → AS → Prop} {s : AS} (h : Q .normal s) : iW id Q .normal s := h
theorem aw {id : Nat} {Q : Exit → AS → Prop} {s : AS} (h : Q .normal s) : iW id Q (.exit id) s := by
 simp only [iW, if_true]; exact h
theorem ar {id id' : Nat} {Q : Exit → AS → Prop} {s : AS} (hne : Nat.beq id' id = false) (h : Q (.exit id') s) : iW id Q (.exit id') s := by
 have : ¬ id' = id := fun e => by subst e; simp at hne
 simp only [iW, if_neg this]; exact h
theorem noGoto_ret {Q : Exit → AS → Prop} {s : AS} (h : Q .ret s) : noGoto Q .ret s := h
theorem noGoto_exit {id : Nat} {Q : Exit → AS → Prop} {s : AS} (h : Q (.exit id) s) : noGoto Q (.exit id) s := h
theorem noGoto_normal {Q : Exit → AS → Prop} {s : AS} (h : Q .normal s) : noGoto Q .normal s := h
theorem tH {α : Type} (f : α → PV) (l : List α) (n : Nat) (dflt : α) (h : n < l.length) : (l.map f)[n]? = some (f (l.getD n dflt)) := by
 rw [List.getElem?_map, List.getElem?_eq_getElem h, Option.map_some, List.getD_eq_getElem?_getD, List.getElem?_eq_getElem h]; rfl
section
variable {C : Cx} {o : Oper} {K : AS → Prop} {sl : List (Nat × AV)} {ob : List (Nat × List AV)} {d : Nat}
theorem de {t : TypeId} {x y : Operand} {a : List UInt8} {k : IntKind} {j : Nat} {i : TI} (ho : o.op = .index t x y) (hd : o.dst = some d) (hn : Nat.blt d C.n = true)
  (hi : look C.tt t = some i) (hik : i.k = .string) (hx : evo sl x = some (.p (.val (.string (str a))))) (hy : evo sl y = some (.p (.val (.int k (j : Int)))))
  (hj : j < a.length)
  (hK : K ⟨(d, .p (.val (.int .u8 ((a.getD j 0).toNat : Int)))) :: sl, ob⟩) : aU C o K ⟨sl, ob⟩ :=
 dk ho hd hn hi hik hx hy (by omega) hK
theorem au {α : Type} (dflt : α) {t e : TypeId} {x y : Operand} {z : AV} {f : α → PV} {l : List α} {i ie : TI} {k : IntKind} {n : Int} (ho : o.op = .indexAddr t x y) (hd : o.dst = some d) (hn : Nat.blt d C.n = true)
  (hi : look C.tt t = some i) (hik : i.k = .slice e) (hie : look C.tt e = some ie) (hx : evo sl x = some z) (hz : z.elems? = some (l.map f))
  (hy : evo sl y = some (.p (.val (.int k n)))) (hb : 0 ≤ n ∧ n < l.length) (hsz : ∀ x, (f x).cells.length = ie.size)
  (hK : K ⟨(d, .rptr (f (l.getD n.toNat dflt)).cells) :: sl, ob⟩) : aU C o K ⟨sl, ob⟩ :=
 nJ ho hd hn hi hik hie hx hz hy hb.1 (tH f l n.toNat dflt (by omega)) (hsz _) hK
theorem ao {α : Type} (dflt : α) {t e : TypeId} {x y : Operand} {z : AV} {f : α → PV} {l : List α} {i ie : TI} {k : IntKind} {n : Nat} (ho : o.op = .indexAddr t x y) (hd : o.dst = some d) (hn : Nat.blt d C.n = true)
  (hi : look C.tt t = some i) (hik : i.k = .slice e) (hie : look C.tt e = some ie) (hx : evo sl x = some z) (hz : z.elems? = some (l.map f))
  (hy : evo sl y = some (.p (.val (.int k (n : Int))))) (hb : n < l.length) (hsz : ∀ x, (f x).cells.length = ie.size)
  (hK : K ⟨(d, .rptr (f (l.getD n dflt)).cells) :: sl, ob⟩) : aU C o K ⟨sl, ob⟩ :=
 au dflt ho hd hn hi hik hie hx hz hy (by omega) hsz hK
theorem bF {t e : TypeId} {x y : Operand} {i ie : TI} {k : IntKind} {n : Nat} {id m : Nat} (ho : o.op = .indexAddr t x y) (hd : o.dst = some d) (hn : Nat.blt d C.n = true)
  (hi : look C.tt t = some i) (hik : i.k = .slice e) (hie : look C.tt e = some ie) (hx : evo sl x = some (.arr id 1 0 m))
  (hy : evo sl y = some (.p (.val (.int k (n : Int))))) (hsz : ie.size = 1) (hb : n < m)
  (hK : K ⟨(d, .ptr id n) :: sl, ob⟩) : aU C o K ⟨sl, ob⟩ :=
 il ho hd hn hi hik hie hx hy hsz (by omega) (by rw [Nat.zero_add, Nat.mul_one]; exact hK)
theorem fq {α : Type} {t e : TypeId} {x : Operand} {y : AV} {f : α → PV} {l : List α} {i : TI} (ho : o.op = .call { callee := .builtin .len, args := #[x], argTypes := #[t] }) (hd : o.dst = some d) (hn : Nat.blt d C.n = true)
  (hi : look C.tt t = some i) (hik : i.k = .slice e) (hx : evo sl x = some y) (hy : y.elems? = some (l.map f))
  (hK : K ⟨(d, .p (.val (.int .i64 (l.length : Int)))) :: sl, ob⟩) : aU C o K ⟨sl, ob⟩ :=
 fv ho hd hn hi hik hx hy (by rw [List.length_map]; exact hK)
theorem aW {t e : TypeId} {x y : Operand} {i ie : TI} {k : IntKind} {n : Int} {id m : Nat} (ho : o.op = .indexAddr t x y) (hd : o.dst = some d) (hn : Nat.blt d C.n = true)
  (hi : look C.tt t = some i) (hik : i.k = .slice e) (hie : look C.tt e = some ie) (hx : evo sl x = some (.arr id 1 0 m))
  (hy : evo sl y = some (.p (.val (.int k n)))) (hsz : ie.size = 1) (hb : 0 ≤ n ∧ n < m)
  (hK : K ⟨(d, .ptr id n.toNat) :: sl, ob⟩) : aU C o K ⟨sl, ob⟩ :=
 il ho hd hn hi hik hie hx hy hsz hb (by rw [Nat.zero_add, Nat.mul_one]; exact hK)
theorem bw {α : Type} (dflt : α) {t : TypeId} {x : Operand} {i : TI} {id k : Nat} {f : α → PV} {l : List α} (ho : o.op = .load t x) (hd : o.dst = some d) (hn : Nat.blt d C.n = true)
  (hi : look C.tt t = some i) (hia : i.k.isAgg = false) (hx : evo sl x = some (.ptr id k)) (hob : look ob id = some ((l.map f).map .p)) (hk : k < l.length) (hK : K ⟨(d, .p (f (l.getD k dflt))) :: sl, ob⟩) : aU C o K ⟨sl, ob⟩ :=
 bB ho hd hn hi hia hx hob (by rw [List.getElem?_map, tH f l k dflt hk]; rfl) hK
theorem db {α : Type} {t : TypeId} {x v : Operand} {i : TI} {id k : Nat} {f : α → PV} {l : List α} {b : α} (ho : o.op = .store t x v) (hd : o.dst = none)
  (hi : look C.tt t = some i) (his : i.size = 1) (hx : evo sl x = some (.ptr id k)) (hob : look ob id = some ((l.map f).map .p)) (hv : evo sl v = some (.p (f b))) (hc : AV.cellsA (.p (f b)) = some [.p (f b)]) (hk : k < l.length)
  (hK : K ⟨sl, (id, ((l.set k b).map f).map .p) :: ob⟩) : aU C o K ⟨sl, ob⟩ := by
 refine gX ho hd hi hx hv hc (by rw [his]; rfl) hob (by simp; omega) ?_
 have : pV ((l.map f).map .p) k [.p (f b)] = ((l.set k b).map f).map .p := by
  simp [pV, List.map_set]
 rw [this]; exact hK
theorem gI {t t' : TypeId} {x y : Operand} {k : IntKind} {a b : Int} (ho : o.op = .call { callee := .builtin .max, args := #[x, y], argTypes := #[t, t'] }) (hd : o.dst = some d) (hn : Nat.blt d C.n = true)
  (hx : evo sl x = some (.p (.val (.int k a)))) (hy : evo sl y = some (.p (.val (.int k b))))
  (hK : K ⟨(d, .p (.val (.int k (if a < b then b else a)))) :: sl, ob⟩) : aU C o K ⟨sl, ob⟩ :=
 ok_one hd hn (fun g c w hs => ⟨_, by
  rw [dy ho]
  simp [builtin, bL hs hx, bL hs hy, Builtin.max_, Builtin.max2], .p (.val _)⟩) hK
theorem hC (ids : List Nat) (NB NE : Nat) {f : FuncId} {args : Array Operand} {ts : Array TypeId} {l l' q : List AV} {obs obs0 qo rob ob' : List (Nat × List AV)} {r r' : AV} (hc : bO C.P f q qo (fun x y => x = r ∧ y = rob)) (ho : o.op = .call { callee := .value (.func f), args := args, argTypes := ts })
  (hd : o.dst = some d) (hn : Nat.blt d C.n = true) (hl : ko sl args.toList = some l) (hl' : AV.mapA.go (sK ids) l = some l') (hq : qu l' q) (hpk : hZ ob ids = some obs) (hmo : iA (sK ids) obs = some obs0) (hqo : leO obs0 qo)
  (hnd : nodupB ids = true) (hids : ids.all (fun i => Nat.blt i M1) = true) (hil : Nat.ble ids.length M1 = true) (hdl : Nat.ble NE M1 = true) (hdis : ids.all (fun i => !(Nat.ble NB i && Nat.blt i NE)) = true)
  (henter : ∀ vs w, (callFunc f vs).run C.P w = .ok (.enter f vs) w) (hr : r.mapA (lX ids NB NE) = some r') (hob : iA (lX ids NB NE) rob = some ob')
  (hK : K ⟨(d, r') :: (cv (fun i => Nat.ble NB i && Nat.blt i NE) ⟨sl, ob⟩).sl, ob' ++ (cv (fun i => Nat.ble NB i && Nat.blt i NE) ⟨sl, ob.filter fun p => !(ids.any (Nat.beq p.1))⟩).ob⟩) : aU C o K ⟨sl, ob⟩ :=
 x7 ids NB NE hc ho hd hn hl hl' hq hpk hmo hqo hnd hids hil hdl hdis henter fun x y ⟨e1, e2⟩ => by
  subst e1 e2
  exact ⟨r', ob', hr, hob, hK⟩
end
theorem aF.of_sub {P : Program} {f : FuncId} {args : List PV} {r : AV} (h : aF P f args (fun x => x.sub r)) : aF P f args (· = r) :=
 fun w st vs h0 h1 h2 => (h w st vs h0 h1 h2).mono fun e w' ⟨v, x, g', h3, h4, h5, h6⟩ => ⟨v, r, g', h3, rfl, h4 _ _ _ h5, h6⟩
theorem rq {P : Program} {tt : List (Nat × TI)} (good : dr P tt) {f : FuncId} {fn : Func} {c : Code} {args : List PV} {r : AV} (hf : P.funcs[f]? = some fn) (hb : fn.body = some c) (hn : Nat.ble args.length fn.ntmps = true) (hnl : Nat.ble fn.ntmps M1 = true)
  (h : ∀ w0, awp ⟨P, tt, good, fn.ntmps, hnl, w0, fun b => b < w0.w.heap.size⟩ c (Bf fn (fun x => x.sub r)) ⟨ki args, []⟩) : aF P f args (· = r) :=
 aF.of_sub (rc good hf hb (Nat.le_of_ble_eq_true hn) hnl h)
theorem aM {m : Nat → Option Nat} : ∀ (l : List PV), AV.mapA.go m (l.map .p) = some (l.map .p)
 | [] => rfl
 | x :: r => by simp only [List.map_cons, AV.mapA.go, AV.mapA, aM r]
theorem lT (D : Nat → Bool) : ∀ (l : List PV), j4 D (l.map .p) = l.map .p
 | [] => rfl
 | x :: r => by simp only [List.map_cons, j4, AV.dem, lT D r]
def kM (D : Nat → Bool) (ob : List (Nat × List AV)) : List (Nat × List AV) := (ob.filter fun p => !D p.1).map fun p => (p.1, j4 D p.2)
theorem iI (D : Nat → Bool) : kM D [] = [] := rfl
theorem dw {D : Nat → Bool} {i : Nat} {cs cs' : List AV} {r r' : List (Nat × List AV)} (h : D i = false) (hc : j4 D cs = cs') (hr : kM D r = r') : kM D ((i, cs) :: r) = (i, cs') :: r' := by
 subst hc hr
 simp only [kM, List.filter_cons, h, Bool.not_false, if_true, List.map_cons]
theorem aJ {m : Nat → Option Nat} {i j : Nat} {cs l : List AV} {r q : List (Nat × List AV)} (h1 : m i = some j) (h2 : AV.mapA.go m cs = some l) (h3 : iA m r = some q) : iA m ((i, cs) :: r) = some ((j, l) :: q) := by
 simp only [iA, h1, h2, h3]
theorem ux {C : Cx} {o : Oper} {K : AS → Prop} {sl : List (Nat × AV)} {ob ob' : List (Nat × List AV)} {d : Nat} {t e : Nat} {x y : Operand} {i ie : TI} {k k' : IntKind} {n : Int} {z : Value} (ho : o.op = .makeSlice t x y) (hd : o.dst = some d) (hn : Nat.blt d C.n = true)
  (hi : look C.tt t = some i) (hik : i.k = .slice e) (hie : look C.tt e = some ie) (hs1 : ie.size = 1) (hz : ie.zero = [z]) (hx : evo sl x = some (.p (.val (.int k n)))) (hy : evo sl y = some (.p (.val (.int k' n))))
  (hb : 0 ≤ n ∧ n ≤ 9223372036854775807 ∧ (ie.bytes : Int) * n ≤ 281474976710656) (hdo : kM (fun i => Nat.beq i d) ob = ob')
  (hK : K ⟨(d, .arr d 1 0 n.toNat) :: (cv (fun i => Nat.beq i d) ⟨sl, ob⟩).sl, (d, (List.replicate n.toNat (.val z)).map .p) :: ob'⟩) : aU C o K ⟨sl, ob⟩ :=
 wk ho hd hn hi hik hie hs1 hz hx hy hb (by subst hdo; exact hK)
theorem ap : ∀ (l : List AV), uJ l l
 | [] => trivial
 | x :: r => ⟨AV.sub_refl x, ap r⟩
theorem fk {l q : List AV} (h : l = q) : uJ l q := h ▸ ap l
end Go.Ab
namespace Go.Ab
def Bn : BinOp → Bool → Bool → Option Bool
 | .eql, a, b => some (a == b)
 | .neq, a, b => some (!(a == b))
 | _, _, _ => none
theorem run_equalIn_bool {P : Program} (w : World) (d : Nat) (t : TypeId) (a b : Bool) (h : P.underlying t = some .bool) : (Op.equalIn (d + 1) t (.bool a) (.bool b)).run P w = .ok (a == b) w := by
 simp [Op.equalIn, run_underlying h]
theorem run_equal_bool {P : Program} (w : World) (t : TypeId) (a b : Bool) (h : P.underlying t = some .bool) : (Op.equal t (.bool a) (.bool b)).run P w = .ok (a == b) w := run_equalIn_bool w 9999 t a b h
theorem tP {P : Program} {w : World} (op : BinOp) (t : TypeId) (x y : Operand) (a b : Bool) :
  (eqGuard op t x y (.bool a) (.bool b)).run P w = .ok () w := by
 unfold eqGuard; split <;> rfl
section
variable {C : Cx} {o : Oper} {K : AS → Prop} {sl : List (Nat × AV)} {ob : List (Nat × List AV)} {d : Nat}
theorem Au {op : BinOp} {t t' : TypeId} {x y : Operand} {i : TI} {a b c : Bool} (ho : o.op = .binOp op t x y t') (hd : o.dst = some d) (hn : Nat.blt d C.n = true)
  (hi : look C.tt t = some i) (hik : i.k = .bool)
  (hx : evo sl x = some (.p (.val (.bool a)))) (hy : evo sl y = some (.p (.val (.bool b)))) (hc : Bn op a b = some c)
  (hK : K ⟨(d, .p (.val (.bool c))) :: sl, ob⟩) : aU C o K ⟨sl, ob⟩ := by
 obtain ⟨u, h1, h2⟩ := a6 C.good hi
 have h3 := nk (h2.trans hik)
 subst h3
 refine ok_one hd hn (fun g w' w hs => ⟨_, ?_, .p (.val _)⟩) hK
 cases op <;> simp only [Bn, Option.some.injEq, reduceCtorEq] at hc <;> subst hc <;>
  simp [execOp, ho, bL hs hx, bL hs hy, tP, binOp, run_equal_bool _ _ _ _ h1]
end
structure Kept (W w' : World) : Prop where
 frame : ∀ may : MemPlace → Prop, W.keptBut w' may
 frozen : ∀ a : Addr, a.block < W.heap.size → w'.frozen? a = W.frozen? a
 size : W.heap.size ≤ w'.heap.size
 block : ∀ b, b < W.heap.size → w'.heap[b]? = W.heap[b]?
theorem After.kept {w w' : World} {st : Nat → Nat → Prop} {g' : Gh} (h : After w st w' g') : Kept w w' := by
 refine ⟨fun may => ⟨h.os, h.out, fun i hi => ?_⟩, fun a hb => ?_, h.size, h.fr⟩
 ·rw [h.fr i hi]
  rw [Array.getElem?_eq_getElem hi]
  cases w.heap[i] <;> simp
 ·simp only [World.frozen?, h.fr _ hb]
theorem Bq (a : ByteArray) : str a.data.toList = a := by
 cases a; rfl
theorem grown_of {P : Program} {f : FuncId} {args : List PV} {vs : Array Value} {b : Bool} (h : aF P f args (· = .p (.val (.bool b)))) (w : World) (hgl : kz w (fun b _ => b < w.heap.size)) (hsz : vs.size = args.length)
  (ha : ∀ (i : Nat) c v, args[i]? = some c → vs[i]? = some v → PRep w (fun b _ => b < w.heap.size) c v) :
  Calls P f vs w fun e w' => e = .returned (.bool b) ∧ Kept w w' := by
 refine (h w (fun b _ => b < w.heap.size) vs ⟨fun b o h => h, hgl⟩ hsz ha).mono ?_
 rintro e w' ⟨v, r, g', rfl, rfl, hr, hA⟩
 cases hr with | p h => cases h; exact ⟨rfl, hA.kept⟩
end Go.Ab
namespace Go.Ab
theorem zJ {w : World} {st : Nat → Nat → Prop} (a : ByteArray) : PRep w st (.val (.string (str a.data.toList))) (.string a) := by
 have h : PRep w st (.val (.string (str a.data.toList))) (.string (str a.data.toList)) := .val _
 rwa [Bq a] at h
end Go.Ab
end
