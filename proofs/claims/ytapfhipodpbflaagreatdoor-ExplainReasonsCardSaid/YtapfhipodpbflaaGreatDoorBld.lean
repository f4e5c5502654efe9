/- strings.Builder: copyCheck and String, by the kit's walk, and as contracts over abstract values. -/
import Derived.Test.YtapfhipodpbflaaGreatDoorAbO
import Derived.Test.YtapfhipodpbflaaGreatDoorTy
import Derived.WalkKit
import Derived.Lib.Builder
import Derived.Lib.UnsafeStr
import Derived.Laws.Externs
import Derived.Shelf.RegionOpenPlain
import Derived.Test.YtapfhipodpbflaaGreatDoorAbZ
import Derived.Test.YtapfhipodpbflaaGreatDoorAbMc
set_option linter.unusedSimpArgs false
set_option linter.unnecessarySimpa false
set_option linter.unusedVariables false
namespace Go.Ab
open Go.Proofs Go.RowKit Go

structure TBuilder where
  fbuf : Bytes
def strings_Builder_copyCheck (b : TBuilder) : Option TBuilder := some b
def strings_Builder_String (b : TBuilder) : Option (Bytes × TBuilder) := ck (b.fbuf.length ≤ 9223372036854775807) <| some (b.fbuf, b)

theorem sizeB : ∃ j, Tryz.prog.info? 140 = some j ∧ j.size = 2 := by
  have h : (Tryz.prog.info? 140).map (·.size) = some 2 := by kernel_rfl
  obtain ⟨j, hj, hs⟩ := Option.map_eq_some_iff.1 h
  exact ⟨j, hj, hs⟩

set_option maxHeartbeats 1000000 in
set_option maxRecDepth 100000 in
theorem copyCheck_used (b : Nat) (w : World) (h0 : w.cell? ⟨b, 0, none⟩ = some (.pointer (some ⟨b, 0, none⟩))) :
    Calls Tryz.prog 111 #[.pointer (some ⟨b, 0, none⟩)] w fun e w' => e = .returned (.tuple #[]) ∧ w' = w := by
  obtain ⟨j, hj, _⟩ := sizeB
  go_enter Tryz.func111, Tryz.ntmps111
  go_wp2
  rw [Lib.run_neq_ptr_same w _ Tryz.underlying137 hj]
  go_wp2
  go_end0
  exact ⟨rfl, rfl⟩

set_option maxHeartbeats 1000000 in
set_option maxRecDepth 100000 in
theorem copyCheck_fresh (b : Nat) (w : World) (h0 : w.cell? ⟨b, 0, none⟩ = some (.pointer none)) (hsh : w.shape? b = some (140, 2)) (hfz : w.frozen? ⟨b, 0, none⟩ = false) :
    Calls Tryz.prog 111 #[.pointer (some ⟨b, 0, none⟩)] w fun e w' => e = .returned (.tuple #[]) ∧ w' = w.setCell ⟨b, 0, none⟩ (.pointer (some ⟨b, 0, none⟩)) := by
  obtain ⟨j, hj, hjs⟩ := sizeB
  go_enter Tryz.func111, Tryz.ntmps111
  go_wp2
  rw [Lib.run_to_unsafe w ⟨b, 0, none⟩ Tryz.underlying137 Tryz.underlying196 hj (by rw [hjs]; decide) hsh (Nat.zero_lt_succ 1)]
  simp only [Result.andThen]
  rw [Oper.upon_value]
  go_wp2
  rw [run_callFunc_extern Tryz.func143 (by kernel_rfl) (by kernel_rfl) (by kernel_rfl) (e := Extern.AbiNoEscape.same) (by kernel_rfl)]
  rw [Lib.run_noEscape]
  simp only [Result.andThen]
  rw [Oper.upon_value]
  go_wp2
  rw [Lib.run_from_unsafe w ⟨b, 0, none⟩ Tryz.underlying196 Tryz.underlying137 hj hsh (by kernel_rfl)]
  simp only [Result.andThen]
  rw [Oper.upon_value]
  go_wp2
  go_end0
  exact ⟨rfl, rfl⟩

/-- What a step on a builder's own block leaves. -/
structure OnlyB (b : Nat) (w w' : World) : Prop where
  os : w'.os = w.os
  out : w'.output = w.output
  tape : w'.tape = w.tape
  size : w'.heap.size = w.heap.size
  other : ∀ k, k ≠ b → w'.heap[k]? = w.heap[k]?

def back (i : Nat) : Option Nat := if i = 900000 then some 2000000 else if i = 1000000 then some 1000000 else none
def ghB (g : Gh) : Gh := ⟨g.st, fun i => if i = 2000000 then g.ow 900000 else if M1 ≤ i ∧ i < 2 * M1 then g.ow i else none⟩

theorem ghB_inv {g : Gh} {i b : Nat} (h : (ghB g).ow i = some b) : (i = 2000000 ∧ g.ow 900000 = some b) ∨ (M1 ≤ i ∧ i < 2 * M1 ∧ g.ow i = some b) := by
  simp only [ghB] at h
  split at h
  · exact .inl ⟨‹_›, h⟩
  · split at h
    · rename_i h1; exact .inr ⟨h1.1, h1.2, h⟩
    · cases h

theorem back_rep {g : Gh} : ∀ i j b, back i = some j → g.ow i = some b → (ghB g).ow j = some b := by
  intro i j b h hb
  unfold back at h
  split at h
  · cases h; subst_vars; simp only [ghB, if_true]; exact hb
  · split at h
    · cases h; subst_vars
      simp only [ghB]
      rw [if_neg (by decide), if_pos (by decide)]; exact hb
    · cases h

theorem after_B {w w' : World} {g : Gh} {b : Nat} (hok : Ok0 w g.st) (hown : ∀ i b, g.ow i = some b → b < w.heap.size ∧ i < 2 * M1)
    (hinj : ∀ i j b, g.ow i = some b → g.ow j = some b → i = j) (hnst : ∀ i b, M1 ≤ i → g.ow i = some b → ∀ o, ¬ g.st b o)
    (hb : g.ow 1000000 = some b) (h : OnlyB b w w')
    (hsh : ∀ (c : Array Value) (e : TypeId), w.heap[b]? = some (.cells c e (0, 0)) → ∃ c' : Array Value, w'.heap[b]? = some (.cells c' e (0, 0)) ∧ c'.size = c.size) : AfterO w g w' (ghB g) := by
  have hbs : ∀ o, ¬ g.st b o := hnst _ b (Nat.le_refl _) hb
  have hev : Ev w g.st w' g.st := fun k o hk => ⟨hk, by
    have : k ≠ b := fun e => hbs o (e ▸ hk)
    simp only [World.cell?, h.other k this]⟩
  refine ⟨h.os, h.out, h.tape, by rw [h.size]; exact Nat.le_refl _, fun k hk hno => h.other k (fun e => hno 1000000 (e ▸ hb)), fun i k hi => ?_, fun i j k hi hj => ?_, fun k o hk => by rw [h.size]; exact hok.lt k o hk, fun k hk _ o => Iff.rfl, fun i h1 h2 => ?_, fun i k c e h1 h2 h3 => ?_, fun i k hi hk o => hnst i k hi hk o, hev⟩
  · rcases ghB_inv hi with ⟨_, h1⟩ | ⟨_, _, h1⟩
    · exact ⟨by rw [h.size]; exact (hown _ _ h1).1, .inr ⟨_, h1⟩⟩
    · exact ⟨by rw [h.size]; exact (hown _ _ h1).1, .inr ⟨_, h1⟩⟩
  · rcases ghB_inv hi with ⟨e1, h1⟩ | ⟨a1, a2, h1⟩ <;> rcases ghB_inv hj with ⟨e2, h2⟩ | ⟨b1, b2, h2⟩
    · omega
    · have := hinj _ _ _ h1 h2; unfold M1 at *; omega
    · have := hinj _ _ _ h1 h2; unfold M1 at *; omega
    · exact hinj _ _ _ h1 h2
  · simp only [ghB]
    rw [if_neg (by unfold M1 at *; omega), if_pos ⟨h1, h2⟩]
  · by_cases e1 : k = b
    · subst e1; exact hsh c e h3
    · exact ⟨c, (h.other k e1).trans h3, rfl⟩

theorem evo_B {w w' : World} {g : Gh} {b : Nat} (hbs : ∀ o, ¬ g.st b o) (h : OnlyB b w w') (hc : ∃ c e, w.heap[b]? = some (.cells c e (0, 0)))
    (hsh : ∀ (c : Array Value) (e : TypeId), w.heap[b]? = some (.cells c e (0, 0)) → ∃ c' : Array Value, w'.heap[b]? = some (.cells c' e (0, 0)) ∧ c'.size = c.size) : EvO (fun _ => false) w g w' g := by
  refine ⟨fun k o hk => ⟨hk, ?_⟩, fun _ _ _ h => h, fun id k c e _ _ hk => ?_, fun _ _ _ _ _ h => h, fun id k es k' _ _ hk => (h.other k (fun e => by subst e; obtain ⟨c, t, hc⟩ := hc; rw [hc] at hk; cases hk)).trans hk, fun _ _ => rfl, fun id k o _ _ ho => h.other k (fun e => hbs o (e ▸ ho))⟩
  · have : k ≠ b := fun e => hbs o (e ▸ hk)
    simp only [World.cell?, h.other k this]
  · by_cases e1 : k = b
    · subst e1; exact hsh c e hk
    · exact ⟨c, (h.other k e1).trans hk, rfl⟩

/-- What a builder's cells are. -/
theorem open_B {w : World} {g : Gh} {es : List PV} {vs : Array Value} {T ty : Nat} (hsz : vs.size = 1)
    (hargs : ∀ (i : Nat) c v, [AV.ptr 1000000 0][i]? = some c → vs[i]? = some v → ARep w g c v)
    (hobs : ∀ id cs, look [(1000000, [AV.bptr T 2 1000000, AV.vec 900000 1 ty es])] id = some cs → ObRep w g id cs) :
    ∃ b p q, g.ow 1000000 = some b ∧ vs = #[.pointer (some ⟨b, 0, none⟩)] ∧ w.heap[b]? = some (.cells #[p, q] T (0, 0)) ∧ (∀ o, ¬ g.st b o) ∧
      (p = .pointer none ∨ p = .pointer (some ⟨b, 0, none⟩)) ∧ ARep w g (.vec 900000 1 ty es) q := by
  obtain ⟨b, c, e, h1, h2, h3, h4, h5⟩ := hobs 1000000 _ rfl
  obtain ⟨p, hp, hpr⟩ := h5 0 _ rfl
  obtain ⟨q, hq, hqr⟩ := h5 1 _ rfl
  have hv0 : vs[0]? = some vs[0] := Array.getElem?_eq_getElem (by omega)
  have ha := hargs 0 _ _ rfl hv0
  have hvs : vs = #[vs[0]] := by
    apply Array.ext
    · simp [hsz]
    · intro i h1 h2
      have : i = 0 := by omega
      subst this; rfl
  have hc : ∀ c1 : Array Value, c1 = c → c1.size = 2 → c = #[p, q] := by
    rintro c1 rfl h
    apply Array.ext
    · simp [h]
    · intro i k1 k2
      match i, k2 with
      | 0, _ => rw [Array.getElem?_eq_getElem k1] at hp; simpa using hp
      | 1, _ => rw [Array.getElem?_eq_getElem k1] at hq; simpa using hq
  have hav : vs[0] = .pointer (some ⟨b, 0, none⟩) := by
    generalize vs[0] = v at ha
    cases ha with
    | ptr how => rw [h1] at how; cases how; rfl
  refine ⟨b, p, q, h1, by rw [hvs, hav], ?_, h4, ?_, hqr⟩
  · cases hpr with
    | bptrn how hb hcs => rw [h1] at how; cases how; rw [h2] at hb; cases hb; rw [h2, hc _ rfl hcs]
    | bptr how hb hcs => rw [h1] at how; cases how; rw [h2] at hb; cases hb; rw [h2, hc _ rfl hcs]
  · cases hpr with
    | bptrn how hb hcs => exact .inl rfl
    | bptr how hb hcs => rw [h1] at how; cases how; exact .inr rfl

theorem ob_B {w' : World} {g : Gh} {es : List PV} {T ty b : Nat} {p q : Value} (hb : g.ow 1000000 = some b) (h4 : ∀ o, ¬ g.st b o) (h : w'.heap[b]? = some (.cells #[p, q] T (0, 0)))
    (hp : p = .pointer none ∨ p = .pointer (some ⟨b, 0, none⟩)) (hq : ARep w' g (.vec 900000 1 ty es) q) : ObRep w' (ghB g) 1000000 [.bptr T 2 1000000, .vec 2000000 1 ty es] := by
  have how : (ghB g).ow 1000000 = some b := back_rep 1000000 1000000 b rfl hb
  refine ⟨b, #[p, q], T, how, h, by simp, h4, fun i x hx => ?_⟩
  match i, hx with
  | 0, hx =>
    simp only [List.getElem?_cons_zero, Option.some.injEq] at hx; subst hx
    refine ⟨p, rfl, ?_⟩
    rcases hp with rfl | rfl
    · exact .bptrn how h rfl
    · exact .bptr how h rfl
  | 1, hx =>
    simp only [List.getElem?_cons_succ, List.getElem?_cons_zero, Option.some.injEq] at hx; subst hx
    exact ⟨q, rfl, mapA_rep (m := back) (g := g) (g' := ghB g) rfl back_rep hq rfl⟩
  | n + 2, hx => simp at hx

theorem strings_Builder_copyCheck_ok (b_0 : TBuilder) (r : TBuilder) (h0 : strings_Builder_copyCheck b_0 = some r) : OCalls Tryz.prog 111 [.ptr 1000000 0] [(1000000, [.bptr 140 2 1000000, .vec 900000 1 (5 + 1) (b_0.fbuf.map eU)])]
    (fun x y => x = .tuple [] ∧ y = [(1000000, [.bptr 140 2 1000000, .vec 2000000 1 (5 + 1) (r.fbuf.map eU)])]) := by
  cases h0
  intro w g vs hok hown hinj hnst hsz hargs hobs
  obtain ⟨b, p, q, hb, rfl, hheap, hbs, hp, hq⟩ := open_B hsz hargs hobs
  have hc0 : w.cell? ⟨b, 0, none⟩ = some p := by simp [World.cell?, hheap]
  rcases hp with rfl | rfl
  · refine (copyCheck_fresh b w hc0 (by simp [World.shape?, hheap]) (by simp [World.frozen?, hheap])).mono ?_
    rintro e w' ⟨rfl, rfl⟩
    have hO : OnlyB b w (w.setCell ⟨b, 0, none⟩ (.pointer (some ⟨b, 0, none⟩))) := ⟨rfl, rfl, rfl, by simp [World.setCell], fun k hk => Below.heap_setCell _ _ _ _ hk⟩
    have hheap' : (w.setCell ⟨b, 0, none⟩ (.pointer (some ⟨b, 0, none⟩))).heap[b]? = some (.cells #[.pointer (some ⟨b, 0, none⟩), q] 140 (0, 0)) := by
      simp [World.setCell, Array.getElem?_modify, hheap]
    have hsh : ∀ (c : Array Value) (e : TypeId), w.heap[b]? = some (.cells c e (0, 0)) → ∃ c' : Array Value, (w.setCell ⟨b, 0, none⟩ (.pointer (some ⟨b, 0, none⟩))).heap[b]? = some (.cells c' e (0, 0)) ∧ c'.size = c.size := fun c e h => by
      rw [hheap] at h; cases h; exact ⟨_, hheap', rfl⟩
    refine ⟨_, _, _, ghB g, rfl, ⟨rfl, rfl⟩, .tuple rfl (by simp), fun x hx => ?_, after_B hok hown hinj hnst hb hO hsh⟩
    simp only [List.mem_singleton] at hx; subst hx
    exact ob_B hb hbs hheap' (.inr rfl) (hq.mono (evo_B hbs hO ⟨_, _, hheap⟩ hsh))
  · refine (copyCheck_used b w hc0).mono ?_
    rintro e w' ⟨rfl, rfl⟩
    have hO : OnlyB b w' w' := ⟨rfl, rfl, rfl, rfl, fun k hk => rfl⟩
    refine ⟨_, _, _, ghB g, rfl, ⟨rfl, rfl⟩, .tuple rfl (by simp), fun x hx => ?_, after_B hok hown hinj hnst hb hO (fun c e h => ⟨c, h, rfl⟩)⟩
    simp only [List.mem_singleton] at hx; subst hx
    exact ob_B hb hbs hheap (.inr rfl) hq


/-! ### String -/
theorem mixedO : Tryz.prog.follows .mixedOrders = true := by kernel_rfl
theorem drew_below (w : World) : Below w.heap.size w w.drew := Below.drew (Below.refl _ w)

set_option maxHeartbeats 2000000 in
set_option maxRecDepth 100000 in
theorem String_nil (b : Nat) (p : Value) (w : World) (hbk : w.heap[b]? = some (.cells #[p, .slice none 0 0] 140 (0, 0))) :
    Calls Tryz.prog 78 #[.pointer (some ⟨b, 0, none⟩)] w fun e w' => e = .returned (.string ⟨#[]⟩) ∧ Below w.heap.size w w' := by
  have mixed := mixedO
  have hUS : ∀ (W : World) (q : Option Addr), (Builtin.unsafeString_ #[171, 3] 9 #[.pointer q, .int .i64 0]).run Tryz.prog W = .ok (.string .empty) W := fun W q => Lib.run_unsafeString_none W _ _ _ q
  have c1 : w.drew.cell? ⟨b, 1, none⟩ = some (.slice none 0 0) := by
    have : w.drew.heap[b]? = some (.cells #[p, .slice none 0 0] 140 (0, 0)) := hbk
    rw [Lib.cell_of_heap this]; rfl
  have hSD : (Builtin.unsafeSliceData_ #[138] 171 #[.slice none 0 0]).run Tryz.prog w.drew = .ok (.pointer none) w.drew := rfl
  go_enter Tryz.func78, Tryz.ntmps78
  go_wp2
  go_region_o
  all_goals (go_wp2; go_ret; exact ⟨rfl, drew_below w⟩)

set_option maxHeartbeats 2000000 in
set_option maxRecDepth 100000 in
theorem String_room (b g cap : Nat) (p : Value) (w : World) (hc0 : cap ≠ 0) (hbk : w.heap[b]? = some (.cells #[p, .slice (some ⟨g, 0, none⟩) 0 cap] 140 (0, 0))) :
    Calls Tryz.prog 78 #[.pointer (some ⟨b, 0, none⟩)] w fun e w' => e = .returned (.string ⟨#[]⟩) ∧ Below w.heap.size w w' := by
  have mixed := mixedO
  have hUS : ∀ (W : World) (q : Option Addr), (Builtin.unsafeString_ #[171, 3] 9 #[.pointer q, .int .i64 0]).run Tryz.prog W = .ok (.string .empty) W := fun W q => Lib.run_unsafeString_none W _ _ _ q
  have c1 : w.drew.cell? ⟨b, 1, none⟩ = some (.slice (some ⟨g, 0, none⟩) 0 cap) := by
    have : w.drew.heap[b]? = some (.cells #[p, .slice (some ⟨g, 0, none⟩) 0 cap] 140 (0, 0)) := hbk
    rw [Lib.cell_of_heap this]; rfl
  have hSD : (Builtin.unsafeSliceData_ #[138] 171 #[.slice (some ⟨g, 0, none⟩) 0 cap]).run Tryz.prog w.drew = .ok (.pointer (some ⟨g, 0, none⟩)) w.drew := Lib.run_unsafeSliceData_row _ _ _ _ _ _ hc0
  clear hc0
  go_enter Tryz.func78, Tryz.ntmps78
  go_wp2
  go_region_o
  all_goals (go_wp2; go_ret; exact ⟨rfl, drew_below w⟩)

set_option maxHeartbeats 2000000 in
set_option maxRecDepth 100000 in
theorem String_noroom (b g : Nat) (p : Value) (cur : Array Value) (w : World) (hbk : w.heap[b]? = some (.cells #[p, .slice (some ⟨g, 0, none⟩) 0 0] 140 (0, 0))) (hg : w.heap[g]? = some (.cells cur 5 (0, 0))) :
    Calls Tryz.prog 78 #[.pointer (some ⟨b, 0, none⟩)] w fun e w' => e = .returned (.string ⟨#[]⟩) ∧ Below w.heap.size w w' := by
  have mixed := mixedO
  have hUS : ∀ (W : World) (q : Option Addr), (Builtin.unsafeString_ #[171, 3] 9 #[.pointer q, .int .i64 0]).run Tryz.prog W = .ok (.string .empty) W := fun W q => Lib.run_unsafeString_none W _ _ _ q
  have hlt : b < w.heap.size := by
    rcases Nat.lt_or_ge b w.heap.size with h' | h'
    · exact h'
    · simp [Array.getElem?_eq_none h'] at hbk
  have c1 : w.drew.cell? ⟨b, 1, none⟩ = some (.slice (some ⟨g, 0, none⟩) 0 0) := by
    have : w.drew.heap[b]? = some (.cells #[p, .slice (some ⟨g, 0, none⟩) 0 0] 140 (0, 0)) := hbk
    rw [Lib.cell_of_heap this]; rfl
  have hSD : (Builtin.unsafeSliceData_ #[138] 171 #[.slice (some ⟨g, 0, none⟩) 0 0]).run Tryz.prog w.drew = .ok (.pointer (some ⟨w.drew.heap.size, 0, none⟩)) (w.drew.alloc (.view ⟨g, 0, none⟩ 5)) :=
    Lib.run_unsafeSliceData_zero w.drew _ _ 5 Tryz.underlying171 ⟨g, 0, none⟩ 0 (5, cur.size) (by have hg' : w.drew.heap[g]? = some (.cells cur 5 (0, 0)) := hg; simp [World.shape?, hg'])
  have c2 : (w.drew.alloc (.view ⟨g, 0, none⟩ 5)).cell? ⟨b, 1, none⟩ = some (.slice (some ⟨g, 0, none⟩) 0 0) := by
    have : (w.drew.alloc (.view ⟨g, 0, none⟩ 5)).heap[b]? = _ := (Lib.alloc_old w.drew _ b hlt).trans hbk
    rw [Lib.cell_of_heap this]; rfl
  have c3 : (w.alloc (.view ⟨g, 0, none⟩ 5)).drew.cell? ⟨b, 1, none⟩ = some (.slice (some ⟨g, 0, none⟩) 0 0) := c2
  have c0 : w.cell? ⟨b, 1, none⟩ = some (.slice (some ⟨g, 0, none⟩) 0 0) := c1
  go_enter Tryz.func78, Tryz.ntmps78
  go_wp2
  go_region_o
  all_goals (go_wp2; go_ret; exact ⟨rfl, (drew_below w).alloc (Nat.le_refl _) _⟩)

set_option maxHeartbeats 2000000 in
set_option maxRecDepth 100000 in
theorem String_row (b g cap : Nat) (p : Value) (cur : Array Value) (l : List UInt8) (w : World) (h0 : l ≠ []) (hbk : w.heap[b]? = some (.cells #[p, .slice (some ⟨g, 0, none⟩) l.length cap] 140 (0, 0))) (hg : w.heap[g]? = some (.cells cur 5 (0, 0)))
    (hnc : l.length ≤ cap) (hcs : cur.size = cap) (hcm : l.length ≤ 9223372036854775807) (hcell : ∀ (j : Nat) x, l[j]? = some x → w.cell? ⟨g, j, none⟩ = some (.int .u8 x.toNat)) :
    Calls Tryz.prog 78 #[.pointer (some ⟨b, 0, none⟩)] w fun e w' => e = .returned (.string ⟨l.toArray⟩) ∧ w' = (w.drew.freeze ⟨g, 0, none⟩ l.length) := by
  have mixed := mixedO
  have hl0 : l.length ≠ 0 := by simpa using h0
  have c1 : w.drew.cell? ⟨b, 1, none⟩ = some (.slice (some ⟨g, 0, none⟩) l.length cap) := by
    have : w.drew.heap[b]? = some (.cells #[p, .slice (some ⟨g, 0, none⟩) l.length cap] 140 (0, 0)) := hbk
    rw [Lib.cell_of_heap this]; rfl
  have hSD : (Builtin.unsafeSliceData_ #[138] 171 #[.slice (some ⟨g, 0, none⟩) l.length cap]).run Tryz.prog w.drew = .ok (.pointer (some ⟨g, 0, none⟩)) w.drew := Lib.run_unsafeSliceData_row _ _ _ _ _ _ (by omega)
  have hUS : (Builtin.unsafeString_ #[171, 3] 9 #[.pointer (some ⟨g, 0, none⟩), .int .i64 l.length]).run Tryz.prog w.drew = .ok (.string ⟨l.toArray⟩) (w.drew.freeze ⟨g, 0, none⟩ l.length) := by
    refine Lib.run_unsafeString_row w.drew 171 3 9 5 Tryz.underlying171 (by kernel_rfl) g cur.size (by have hg' : w.drew.heap[g]? = some (.cells cur 5 (0, 0)) := hg; simp [World.shape?, hg']) l h0 (by omega) hcm ?_
    intro j x hx
    have := hcell j x hx
    rw [add_lit, Nat.zero_add, World.cell?_drew]; exact this
  clear hcell hcs hcm hnc h0 hl0
  go_enter Tryz.func78, Tryz.ntmps78
  go_wp2
  go_region_o
  all_goals (go_wp2; go_ret; exact ⟨rfl, rfl⟩)

theorem freeze_other (w : World) (g n k : Nat) (h : k ≠ g) : (w.freeze ⟨g, 0, none⟩ n).heap[k]? = w.heap[k]? := by
  unfold World.freeze
  split
  · rfl
  · simp only [Array.getElem?_modify]
    rw [if_neg (fun e => h e.symm)]
theorem freeze_cell (w : World) (g n : Nat) (a : Addr) : (w.freeze ⟨g, 0, none⟩ n).cell? a = w.cell? a := by
  unfold World.freeze
  split
  · rfl
  · simp only [World.cell?, Array.getElem?_modify]
    by_cases h : g = a.block
    · simp only [h, if_true]
      cases w.heap[a.block]? with
      | none => rfl
      | some o => cases o <;> rfl
    · simp only [h, if_false]
theorem freeze_size (w : World) (g n : Nat) : (w.freeze ⟨g, 0, none⟩ n).heap.size = w.heap.size := by
  unfold World.freeze; split <;> simp
theorem freeze_rest (w : World) (g n : Nat) : (w.freeze ⟨g, 0, none⟩ n).os = w.os ∧ (w.freeze ⟨g, 0, none⟩ n).output = w.output ∧ (w.freeze ⟨g, 0, none⟩ n).tape = w.tape := by
  unfold World.freeze; split <;> exact ⟨rfl, rfl, rfl⟩

def ghS (g : Gh) : Gh := ⟨g.st, fun i => if M1 ≤ i ∧ i < 2 * M1 then g.ow i else none⟩
theorem ghS_inv {g : Gh} {i b : Nat} (h : (ghS g).ow i = some b) : M1 ≤ i ∧ i < 2 * M1 ∧ g.ow i = some b := by
  simp only [ghS] at h
  split at h
  · rename_i h1; exact ⟨h1.1, h1.2, h⟩
  · cases h

/-- What String leaves: all blocks but the buffer's are as they were. -/
theorem after_S {w w' : World} {g : Gh} {q : Nat} (hok : Ok0 w g.st) (hown : ∀ i b, g.ow i = some b → b < w.heap.size ∧ i < 2 * M1)
    (hinj : ∀ i j b, g.ow i = some b → g.ow j = some b → i = j) (hnst : ∀ i b, M1 ≤ i → g.ow i = some b → ∀ o, ¬ g.st b o)
    (hq : g.ow 900000 = some q ∨ w.heap.size ≤ q) (os : w'.os = w.os) (out : w'.output = w.output) (tape : w'.tape = w.tape) (size : w.heap.size ≤ w'.heap.size)
    (other : ∀ k, k < w.heap.size → k ≠ q → w'.heap[k]? = w.heap[k]?) (cell : ∀ b o, b < w.heap.size → w'.cell? ⟨b, o, none⟩ = w.cell? ⟨b, o, none⟩) : AfterO w g w' (ghS g) := by
  have hev : Ev w g.st w' g.st := fun k o hk => ⟨hk, cell k o (hok.lt k o hk)⟩
  refine ⟨os, out, tape, size, fun k hk hno => other k hk (fun e => ?_), fun i k hi => ?_, fun i j k hi hj => ?_, fun k o hk => Nat.lt_of_lt_of_le (hok.lt k o hk) size, fun k hk _ o => Iff.rfl, fun i h1 h2 => ?_, fun i k c e h1 h2 h3 => ?_, fun i k hi hk o => hnst i k hi hk o, hev⟩
  · rcases hq with hq | hq
    · exact hno _ (e ▸ hq)
    · omega
  · obtain ⟨_, _, h1⟩ := ghS_inv hi
    exact ⟨Nat.lt_of_lt_of_le (hown _ _ h1).1 size, .inr ⟨_, h1⟩⟩
  · exact hinj _ _ _ (ghS_inv hi).2.2 (ghS_inv hj).2.2
  · simp only [ghS]; rw [if_pos ⟨h1, h2⟩]
  · refine ⟨c, (other k (hown _ _ h2).1 (fun e => ?_)).trans h3, rfl⟩
    rcases hq with hq | hq
    · have := hinj _ _ _ h2 (e ▸ hq); unfold M1 at *; omega
    · have := (hown _ _ h2).1; omega

theorem ob_S {w' : World} {g : Gh} {es : List PV} {T b : Nat} {p q : Value} (hb : g.ow 1000000 = some b) (h4 : ∀ o, ¬ g.st b o) (h : w'.heap[b]? = some (.cells #[p, q] T (0, 0)))
    (hp : p = .pointer none ∨ p = .pointer (some ⟨b, 0, none⟩)) (hq : PRep w' g.st (.slice es) q) : ObRep w' (ghS g) 1000000 [.bptr T 2 1000000, .p (.slice es)] := by
  have how : (ghS g).ow 1000000 = some b := by simp only [ghS]; rw [if_pos (by decide)]; exact hb
  refine ⟨b, #[p, q], T, how, h, by simp, h4, fun i x hx => ?_⟩
  match i, hx with
  | 0, hx =>
    simp only [List.getElem?_cons_zero, Option.some.injEq] at hx; subst hx
    refine ⟨p, rfl, ?_⟩
    rcases hp with rfl | rfl
    · exact .bptrn how h rfl
    · exact .bptr how h rfl
  | 1, hx =>
    simp only [List.getElem?_cons_succ, List.getElem?_cons_zero, Option.some.injEq] at hx; subst hx
    exact ⟨q, rfl, .p hq⟩
  | n + 2, hx => simp at hx

theorem strings_Builder_String_ok (b_0 : TBuilder) (r : Bytes × TBuilder) (h0 : strings_Builder_String b_0 = some r) : OCalls Tryz.prog 78 [.ptr 1000000 0] [(1000000, [.bptr 140 2 1000000, .vec 900000 1 (5 + 1) (b_0.fbuf.map eU)])]
    (fun x y => x = .p (eS r.1) ∧ y = [(1000000, [.bptr 140 2 1000000, .p (eL eU r.2.fbuf)])]) := by
  obtain ⟨hmax, h0⟩ := ck_cut h0
  cases h0
  intro w g vs hok hown hinj hnst hsz hargs hobs
  obtain ⟨b, p, q, hb, rfl, hheap, hbs, hp, hq⟩ := open_B hsz hargs hobs
  have hbl : b < w.heap.size := (hown _ _ hb).1
  obtain ⟨l, hl⟩ : ∃ l, l = b_0.fbuf := ⟨_, rfl⟩
  rw [← hl] at hq ⊢
  -- a builder that holds nothing
  have none_ : ∀ q0, l = [] → q = q0 → (Calls Tryz.prog 78 #[.pointer (some ⟨b, 0, none⟩)] w fun e w' => e = .returned (.string ⟨#[]⟩) ∧ Below w.heap.size w w') → PRep w g.st (.slice []) q0 →
      Calls Tryz.prog 78 #[.pointer (some ⟨b, 0, none⟩)] w fun e w' => ∃ v r obs' g', e = .returned v ∧ (r = .p (eS l) ∧ obs' = [(1000000, [.bptr 140 2 1000000, .p (eL eU l)])]) ∧ ARep w' g' r v ∧ (∀ p ∈ obs', ObRep w' g' p.1 p.2) ∧ AfterO w g w' g' := by
    rintro q0 rfl rfl hc hr
    refine hc.mono ?_
    rintro e w' ⟨rfl, hB⟩
    have hcell : ∀ b o, b < w.heap.size → w'.cell? ⟨b, o, none⟩ = w.cell? ⟨b, o, none⟩ := fun b o h => hB.cell (p := ⟨b, o, none⟩) h
    refine ⟨_, _, _, ghS g, rfl, ⟨rfl, rfl⟩, .p (.val _), fun x hx => ?_, after_S (q := w.heap.size) hok hown hinj hnst (.inr (Nat.le_refl _)) hB.os hB.output hB.tape hB.size (fun k hk _ => hB.block k hk) hcell⟩
    simp only [List.mem_singleton] at hx; subst hx
    exact ob_S hb hbs ((hB.block b hbl).trans hheap) hp (hr.mono (w' := w') (st' := g.st) (fun k o hk => ⟨hk, hcell k o (hok.lt k o hk)⟩))
  generalize hes : l.map eU = es at hq
  cases hq with
  | vecn =>
    have e : l = [] := by simpa using hes
    exact none_ _ e rfl (String_nil b p w hheap) .nils
  | vec how hb2 hcs hsz2 hst hr hty =>
    rename_i g2 off2 cap c e2
    have he2 : e2 = 5 ∧ off2 = 0 := by
      rcases hty with h | h
      · cases h
      · exact ⟨(Nat.succ.inj h.1).symm, h.2⟩
    obtain ⟨rfl, rfl⟩ := he2
    rw [Nat.zero_add] at hcs
    simp only [Nat.zero_add] at hst
    have hgl : g2 < w.heap.size := (hown _ _ how).1
    subst hes
    simp only [List.length_map] at hheap
    by_cases hl0 : l = []
    · subst hl0
      by_cases hc0 : cap = 0
      · subst hc0
        exact none_ _ rfl rfl (String_noroom b g2 p c w hheap hb2) (by simpa using hr)
      · exact none_ _ rfl rfl (String_room b g2 cap p w hc0 hheap) (by simpa using hr)
    · have hcap : l.length ≤ cap := by
        obtain ⟨a', cap', he, hle⟩ := prep_slice_len hr
        cases he
        simpa using hle
      have hcell : ∀ (j : Nat) x, l[j]? = some x → w.cell? ⟨g2, j, none⟩ = some (.int .u8 x.toNat) := by
        intro j x hx
        have hinv := vec_inv hsz2 hb2 hr
        obtain ⟨_, u, hu, hru⟩ := hinv j (eU x) 0 (eU x) (by simp [hx]) rfl
        cases hru
        simp only [World.cell?, hb2]
        simpa using hu
      refine (String_row b g2 cap p c l w hl0 (by simpa using hheap) hb2 hcap (by simpa using hcs) ?_ hcell).mono ?_
      · rw [hl]; exact hmax
      rintro e w' ⟨rfl, rfl⟩
      have hother : ∀ k, k ≠ g2 → (w.drew.freeze ⟨g2, 0, none⟩ l.length).heap[k]? = w.heap[k]? := fun k hk => freeze_other w.drew g2 _ k hk
      have hcell2 : ∀ b o, (w.drew.freeze ⟨g2, 0, none⟩ l.length).cell? ⟨b, o, none⟩ = w.cell? ⟨b, o, none⟩ := fun b o => freeze_cell w.drew g2 _ _
      obtain ⟨r1, r2, r3⟩ := freeze_rest w.drew g2 l.length
      refine ⟨_, _, _, ghS g, rfl, ⟨rfl, rfl⟩, .p (.val _), fun x hx => ?_, after_S (q := g2) hok hown hinj hnst (.inl how) r1 r2 r3 (by rw [freeze_size]; exact Nat.le_refl _) (fun k _ hk => hother k hk) (fun b o _ => hcell2 b o)⟩
      simp only [List.mem_singleton] at hx; subst hx
      have hne : b ≠ g2 := fun e => by subst e; have := hinj _ _ _ hb how; omega
      exact ob_S hb hbs ((hother b hne).trans (by simpa using hheap)) hp (by simpa using hr.mono (w' := w.drew.freeze ⟨g2, 0, none⟩ l.length) (st' := g.st) (fun k o hk => ⟨hk, hcell2 k o⟩))

end Go.Ab
