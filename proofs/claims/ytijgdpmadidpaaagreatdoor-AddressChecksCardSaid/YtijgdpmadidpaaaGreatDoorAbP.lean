/- A layer of abstract values over the model's worlds, part P: what the printed walks use: functions that may have no answer, cuts, loops with fuel. It holds for every program. -/
import Derived.Test.YtijgdpmadidpaaaGreatDoorAbN
set_option linter.unusedVariables false
set_option linter.unusedSimpArgs false
set_option linter.unnecessarySimpa false
namespace Go.Ab

/-! ### Values -/
abbrev Bytes := List UInt8
def eI (n : Int) : PV := .val (.int .i64 n)
def eK (k : IntKind) (n : Int) : PV := .val (.int k n)
def eS (l : Bytes) : PV := .val (.string (str l))
def eB (b : Bool) : PV := .val (.bool b)
def eL {α : Type} (f : α → PV) (l : List α) : PV := .slice (l.map f)

/-- A byte of a text, an element of a list, a part. -/
def byt (l : Bytes) (i : Int) : Int := ((l.getD i.toNat 0).toNat : Int)
def lat {α : Type} [Inhabited α] (l : List α) (i : Int) : α := l.getD i.toNat default
def sub {α : Type} (l : List α) (i j : Int) : List α := (l.take j.toNat).drop i.toNat

/-! ### Functions that may have no answer -/
def ck {α : Type} (p : Prop) [Decidable p] (k : Option α) : Option α := if p then k else none
def inR (c : Int) : Prop := -9223372036854775808 ≤ c ∧ c ≤ 9223372036854775807
instance (c : Int) : Decidable (inR c) := inferInstanceAs (Decidable (_ ∧ _))
def jn {α β : Type} (o : Option (α ⊕ β)) (k : α → Option β) : Option β := match o with
  | none => none
  | some (.inl v) => k v
  | some (.inr x) => some x

theorem ck_pos {α : Type} {p : Prop} [Decidable p] {k : Option α} (h : p) : ck p k = k := if_pos h
theorem ck_cut {α : Type} {p : Prop} [Decidable p] {k : Option α} {r : α} (h : ck p k = some r) : p ∧ k = some r := by
  unfold ck at h
  split at h
  · rename_i hp; exact ⟨hp, h⟩
  · cases h
theorem bd_cut {α β : Type} {o : Option α} {f : α → Option β} {r : β} (h : o.bind f = some r) : ∃ x, o = some x ∧ f x = some r := by
  cases o with
  | none => cases h
  | some x => exact ⟨x, rfl, h⟩
theorem jn_cut {α β : Type} {o : Option (α ⊕ β)} {k : α → Option β} {r : β} (h : jn o k = some r) : ∃ v, o = some v ∧ (∀ x, v = .inl x → k x = some r) ∧ (∀ x, v = .inr x → x = r) := by
  cases o with
  | none => cases h
  | some v =>
    refine ⟨v, rfl, fun x e => ?_, fun x e => ?_⟩
    · subst e; exact h
    · subst e; exact Option.some.inj h
theorem if_t {α : Type} {c : Prop} [Decidable c] {a b : Option α} {r : α} (hc : c) (h : (if c then a else b) = some r) : a = some r := by rwa [if_pos hc] at h
theorem if_f {α : Type} {c : Prop} [Decidable c] {a b : Option α} {r : α} (hc : ¬c) (h : (if c then a else b) = some r) : b = some r := by rwa [if_neg hc] at h
theorem if_bf {α : Type} {c : Bool} {a b : Option α} {r : α} (hc : c = false) (h : (if c = true then a else b) = some r) : b = some r := by subst hc; exact h

/-! ### Cuts -/
def exQ (id : Nat) (P : AS → Prop) (Q : Exit → AS → Prop) : Exit → AS → Prop
  | .exit id', s => if id' = id then P s else Q (.exit id') s
  | e, s => Q e s

theorem awp_cutN {C : Cx} {x : Code} {Q : Exit → AS → Prop} {s : AS} (P : AS → Prop) (hP : ∀ s', P s' → Q .normal s') (h : awp C x (thenQ P Q) s) : awp C x Q s :=
  awp_mono (fun e s' h => by cases e <;> first | exact hP _ h | exact h) h
theorem awp_cutE {C : Cx} {x : Code} {Q : Exit → AS → Prop} {s : AS} (id : Nat) (P : AS → Prop) (hP : ∀ s', P s' → Q (.exit id) s') (h : awp C x (exQ id P Q) s) : awp C x Q s :=
  awp_mono (fun e s' k => by
    cases e with
    | exit id' =>
      simp only [exQ] at k
      split at k
      · rename_i e; rw [e]; exact hP _ k
      · exact k
    | normal => exact k
    | goto l => exact k
    | ret => exact k
    | panic ch => exact k
    | outgrown => exact k) h
theorem exQ_hit {id : Nat} {P : AS → Prop} {Q : Exit → AS → Prop} {s : AS} (h : P s) : exQ id P Q (.exit id) s := by simp only [exQ]; exact h
theorem exQ_other {id id' : Nat} {P : AS → Prop} {Q : Exit → AS → Prop} {s : AS} (hne : Nat.beq id' id = false) (h : Q (.exit id') s) : exQ id P Q (.exit id') s := by
  simp only [exQ, if_neg (show ¬ id' = id from fun e => by subst e; simp at hne)]; exact h
theorem exQ_ret {id : Nat} {P : AS → Prop} {Q : Exit → AS → Prop} {s : AS} (h : Q .ret s) : exQ id P Q .ret s := h
theorem exQ_normal {id : Nat} {P : AS → Prop} {Q : Exit → AS → Prop} {s : AS} (h : Q .normal s) : exQ id P Q .normal s := h

/-- A loop, by its rounds as a function with fuel. -/
theorem awp_loopF {C : Cx} {c : Code} {Q : Exit → AS → Prop} {s : AS} {σ O : Type} (mk : σ → AS) (lp : Nat → σ → Option O) (hz : ∀ q, lp 0 q = none) {o : O} {n : Nat} (q0 : σ) (h0 : lp n q0 = some o) (hle : s.le (mk q0))
    (round : ∀ m q, lp (m + 1) q = some o → awp C c (thenQ (fun s' => ∃ q', lp m q' = some o ∧ s'.le (mk q')) Q) (mk q)) : awp C (.loop c) Q s := by
  refine awp_loop (σ := Nat × σ) (fun q => mk q.2) (fun q => lp q.1 q.2 = some o) (fun q => q.1) (n, q0) h0 hle ?_
  rintro ⟨m, q⟩ hI
  dsimp only at hI ⊢
  cases m with
  | zero => rw [hz] at hI; cases hI
  | succ m =>
    refine awp_mono (fun e s' h => ?_) (round m q hI)
    cases e <;> first
      | exact h
      | (obtain ⟨q', h1, h2⟩ := h
         exact ⟨(m, q'), h1, Nat.lt_succ_self m, h2⟩)

/-! ### Steps that nothing but the ghost takes -/
def Ghost (C : Cx) (s t : AS) : Prop := ∀ g a w, St C.n C.w0 C.F g s a w → ∃ g', St C.n C.w0 C.F g' t a w
theorem awp_ghost {C : Cx} {c : Code} {Q : Exit → AS → Prop} {s t : AS} (hg : Ghost C s t) (h : awp C c Q t) : awp C c Q s := fun g a w hs => by
  obtain ⟨g', hs'⟩ := hg g a w hs
  exact h g' a w hs'
theorem OpOk_ghost {C : Cx} {o : Oper} {K : AS → Prop} {s t : AS} (hg : Ghost C s t) (h : OpOk C o K t) : OpOk C o K s := fun g a w hs => by
  obtain ⟨g', hs'⟩ := hg g a w hs
  exact h g' a w hs'
theorem rwpL_ghost {C : Cx} {ops : Array Oper} {r : List Oper} {K : AS → Prop} {s t : AS} (hg : Ghost C s t) (h : rwpL C ops r K t) : rwpL C ops r K s := fun k hk g a w hs => by
  obtain ⟨g', hs'⟩ := hg g a w hs
  exact h k hk g' a w hs'
theorem ghost_le {C : Cx} {s t : AS} (h : s.le t) : Ghost C s t := fun g _ _ hs => ⟨g, hs.weaken h⟩
theorem ghost_freeze {C : Cx} {sl : List (Nat × AV)} {ob : List (Nat × List AV)} (j : Nat) {k n : Nat} {es : List PV} (hj : look sl j = some (.arr k 1 0 n)) (hk : Nat.blt k M1 = true) (hob : look ob k = some (es.map .p)) (hn : n = es.length)
    (hone : ∀ x ∈ es, x.cells = [x]) (hone' : ∀ x ∈ es, x.one = true) :
    Ghost C ⟨sl, ob⟩ ⟨(j, .p (.slice es)) :: (demS (fun i => Nat.beq i k) ⟨sl, ob⟩).sl, (demS (fun i => Nat.beq i k) ⟨sl, ob⟩).ob⟩ := by
  subst hn
  intro g a w hs
  exact hs.freeze (Nat.blt_eq ▸ hk) hob hj hone hone'

/-! ### Less is said -/
theorem sub_tuple : ∀ {l q : List AV}, subsA l q → (AV.tuple l).sub (.tuple q) := by
  intro l q hs w g v h
  obtain ⟨h1, h2⟩ := subsA_spec hs
  cases h with
  | tuple hl h =>
    refine .tuple (hl.trans h1) fun i c v hc hv => ?_
    have hi : i < l.length := by have := (List.getElem?_eq_some_iff.1 hc).1; omega
    exact h2 i l[i] c (List.getElem?_eq_getElem hi) hc _ _ _ (h i _ v (List.getElem?_eq_getElem hi) hv)
theorem sub_toPV {x : AV} {y : PV} (h : x.toPV = some y) : x.sub (.p y) := fun _ _ _ hr => .p (toPV_rep h hr)
theorem sub_nilL {α : Type} (f : α → PV) : (AV.p (.val (.slice none 0 0))).sub (.p (eL f [])) := AV.sub_nilv
theorem AS.le_trans {s t u : AS} (h : s.le t) (k : t.le u) : s.le u := by
  refine ⟨fun j x hx w g v hv => ?_, fun id cs hc => ?_⟩
  · have h2 := k.sl j x hx
    cases ht : look t.sl j with
    | none =>
      have : t.get j = .undef := by simp [AS.get, ht]
      rw [this] at h2
      exact h2 w g v (.undef _)
    | some y =>
      have e : t.get j = y := by simp [AS.get, ht]
      rw [e] at h2
      exact h2 w g v (h.sl j y ht w g v hv)
  · obtain ⟨ds, h1, h2, h3⟩ := k.ob id cs hc
    obtain ⟨es, h4, h5, h6⟩ := h.ob id ds h1
    refine ⟨es, h4, by omega, fun i c d hc hd w g v hv => ?_⟩
    have hi : i < ds.length := by have := (List.getElem?_eq_some_iff.1 hc).1; omega
    exact h3 i c ds[i] hc (List.getElem?_eq_getElem hi) w g v (h6 i ds[i] d (List.getElem?_eq_getElem hi) hd w g v hv)

/-! ### Operations, in the printed form -/
section
variable {C : Cx} {o : Oper} {K : AS → Prop} {sl : List (Nat × AV)} {ob : List (Nat × List AV)} {d : Nat}
theorem op_indexS {t : TypeId} {x y : Operand} {a : Bytes} {k : IntKind} {j : Int} {i : TI} (ho : o.op = .index t x y) (hd : o.dst = some d) (hn : Nat.blt d C.n = true)
    (hi : look C.tt t = some i) (hik : i.k = .string) (hx : evo sl x = some (.p (.val (.string (str a))))) (hy : evo sl y = some (.p (.val (.int k j))))
    (hj : 0 ≤ j ∧ j < (a.length : Int)) (hK : K ⟨(d, .p (eK .u8 (byt a j))) :: sl, ob⟩) : OpOk C o K ⟨sl, ob⟩ := ok_indexS ho hd hn hi hik hx hy hj hK
theorem op_sliceS {t : TypeId} {x : Operand} {lo hi : Option Operand} {a : Bytes} {l h : Int} {i : TI} (ho : o.op = .slice t x lo hi none) (hd : o.dst = some d) (hn : Nat.blt d C.n = true)
    (hi' : look C.tt t = some i) (hik : i.k = .string) (hx : evo sl x = some (.p (.val (.string (str a))))) (hlo : loI sl lo = some l) (hhi : hiI sl (a.length : Int) hi = some h)
    (hb : 0 ≤ l ∧ l ≤ h ∧ h ≤ (a.length : Int)) (hK : K ⟨(d, .p (eS (sub a l h))) :: sl, ob⟩) : OpOk C o K ⟨sl, ob⟩ := ok_sliceS ho hd hn hi' hik hx hlo hhi hb hK
theorem op_lenL {α : Type} {t e : TypeId} {x : Operand} {y : AV} {f : α → PV} {l : List α} {i : TI} (ho : o.op = .call { callee := .builtin .len, args := #[x], argTypes := #[t] }) (hd : o.dst = some d) (hn : Nat.blt d C.n = true)
    (hi : look C.tt t = some i) (hik : i.k = .slice e) (hx : evo sl x = some y) (hy : y.elems? = some (l.map f)) (hK : K ⟨(d, .p (eI (l.length : Int))) :: sl, ob⟩) : OpOk C o K ⟨sl, ob⟩ :=
  ok_lenM ho hd hn hi hik hx hy hK
theorem op_at {α : Type} [Inhabited α] {t e : TypeId} {x y : Operand} {z : AV} {f : α → PV} {l : List α} {i ie : TI} {k : IntKind} {n : Int} (cs : α → List PV) (ho : o.op = .indexAddr t x y) (hd : o.dst = some d) (hn : Nat.blt d C.n = true)
    (hi : look C.tt t = some i) (hik : i.k = .slice e) (hie : look C.tt e = some ie) (hx : evo sl x = some z) (hz : z.elems? = some (l.map f))
    (hy : evo sl y = some (.p (.val (.int k n)))) (hb : 0 ≤ n ∧ n < (l.length : Int)) (hcs : ∀ x, (f x).cells = cs x) (hsz : ∀ x, (cs x).length = ie.size)
    (hK : K ⟨(d, .rptr (cs (lat l n))) :: sl, ob⟩) : OpOk C o K ⟨sl, ob⟩ := by
  refine ok_indexAddrV (el := f (lat l n)) ho hd hn hi hik hie hx hz hy hb.1 ?_ (by rw [hcs]; exact hsz _) (by rw [hcs]; exact hK)
  have : n.toNat < l.length := by omega
  simp [lat, List.getD_eq_getElem?_getD, List.getElem?_eq_getElem this]
theorem op_len_arr {t e : TypeId} {x : Operand} {i : TI} {id sz off m : Nat} (ho : o.op = .call { callee := .builtin .len, args := #[x], argTypes := #[t] }) (hd : o.dst = some d) (hn : Nat.blt d C.n = true)
    (hi : look C.tt t = some i) (hik : i.k = .slice e) (hx : evo sl x = some (.arr id sz off m))
    (hK : K ⟨(d, .p (eI (m : Int))) :: sl, ob⟩) : OpOk C o K ⟨sl, ob⟩ := ok_lenA ho hd hn hi hik hx hK
theorem ok_assign_any {x : Operand} (ho : o.op = .assign x) (hd : o.dst = some d) (hn : Nat.blt d C.n = true)
    (hK : K ⟨(d, .undef) :: sl, ob⟩) : OpOk C o K ⟨sl, ob⟩ :=
  ok_one hd hn (fun g a w hs => ⟨a.eval x, by simp [execOp, ho], .undef _⟩) hK
theorem op_make {α : Type} (f : α → PV) (b0 : α) {t e : Nat} {x y : Operand} {i ie : TI} {k k' : IntKind} {n : Int} {z : Value} (ho : o.op = .makeSlice t x y) (hd : o.dst = some d) (hn : Nat.blt d C.n = true)
    (hi : look C.tt t = some i) (hik : i.k = .slice e) (hie : look C.tt e = some ie) (hs1 : ie.size = 1) (hz : ie.zero = [z]) (hf : f b0 = .val z) (hx : evo sl x = some (.p (.val (.int k n)))) (hy : evo sl y = some (.p (.val (.int k' n))))
    (hb : 0 ≤ n ∧ n ≤ 9223372036854775807 ∧ (ie.bytes : Int) * n ≤ 281474976710656)
    (hK : K ⟨(d, .arr d 1 0 (List.replicate n.toNat b0).length) :: (demS (fun i => Nat.beq i d) ⟨sl, ob⟩).sl, (d, ((List.replicate n.toNat b0).map f).map .p) :: (demS (fun i => Nat.beq i d) ⟨sl, ob⟩).ob⟩) : OpOk C o K ⟨sl, ob⟩ :=
  ok_make ho hd hn hi hik hie hs1 hz hx hy hb (by rw [List.length_replicate, List.map_replicate, hf] at hK; exact hK)
theorem op_sliceL {α : Type} {t e : TypeId} {x : Operand} {lo hi : Option Operand} {z : AV} {f : α → PV} {l : List α} {a h : Int} {i ie : TI} (ho : o.op = .slice t x lo hi none) (hd : o.dst = some d) (hn : Nat.blt d C.n = true)
    (hi' : look C.tt t = some i) (hik : i.k = .slice e) (hie : look C.tt e = some ie) (hx : evo sl x = some z) (hz : z.elems? = some (l.map f)) (hlo : loI sl lo = some a) (hhi : hiI sl (l.length : Int) hi = some h)
    (hb : 0 ≤ a ∧ a ≤ h ∧ h ≤ (l.length : Int)) (hsz : ∀ x, (f x).cells.length = ie.size)
    (hK : K ⟨(d, .p (eL f (sub l a h))) :: sl, ob⟩) : OpOk C o K ⟨sl, ob⟩ := by
  refine ok_sliceV ho hd hn hi' hik hie hx hz hlo (by rw [List.length_map]; exact hhi) (by rw [List.length_map]; exact hb) (fun y hy => ?_) ?_
  · obtain ⟨x, _, rfl⟩ := List.mem_map.1 hy; exact hsz x
  · rw [← List.map_take, ← List.map_drop]; exact hK
end

theorem awp_byD {C : Cx} {c : Code} {Q : Exit → AS → Prop} {s : AS} {p : Prop} [Decidable p] (h1 : p → awp C c Q s) (h2 : ¬p → awp C c Q s) : awp C c Q s := by
  by_cases h : p
  · exact h1 h
  · exact h2 h
theorem awp_byB {C : Cx} {c : Code} {Q : Exit → AS → Prop} {s : AS} {b : Bool} (h1 : b = true → awp C c Q s) (h2 : b = false → awp C c Q s) : awp C c Q s := by
  cases b
  · exact h2 rfl
  · exact h1 rfl
theorem exLe {s t : AS} {σ : Type} {A : σ → Prop} {mk : σ → AS} (h : s.le t) (k : ∃ v, A v ∧ t.le (mk v)) : ∃ v, A v ∧ s.le (mk v) := by
  obtain ⟨v, h1, h2⟩ := k
  exact ⟨v, h1, AS.le_trans h h2⟩
theorem hi_some {sl : List (Nat × AV)} {x : Operand} {k : IntKind} {n m : Int} (h : evo sl x = some (.p (.val (.int k n)))) : hiI sl m (some x) = some n := by
  simp only [hiI, h]

/-! ### A row is settled, in all the slots that hold it -/
theorem arr_eq {w : World} {g : Gh} {k off n m : Nat} {v u : Value} (h1 : ARep w g (.arr k 1 off n) v) (h2 : ARep w g (.arr k 1 off m) u) (e : n = m) : v = u := by
  cases h1 with
  | arr how hb hcs hn =>
    cases h2 with
    | arr how' hb' hcs' hn' =>
      rw [how] at how'; cases how'
      rw [hb] at hb'; cases hb'
      subst e
      have : ∀ {a b : Nat}, off + a * 1 = off + b * 1 → a = b := fun h => by omega
      rw [this (hcs.symm.trans hcs')]

def frzs (js : List Nat) (x : AV) (sl : List (Nat × AV)) : List (Nat × AV) := js.map (fun j => (j, x)) ++ sl
theorem look_frzs {x : AV} {sl : List (Nat × AV)} {i : Nat} : ∀ {js : List Nat}, look (frzs js x sl) i = if i ∈ js then some x else look sl i
  | [] => by simp [frzs]
  | j :: r => by
    have ih := look_frzs (x := x) (sl := sl) (i := i) (js := r)
    simp only [frzs] at ih
    simp only [frzs, List.map_cons, List.cons_append, look_cons, ih]
    by_cases e : j = i
    · subst e; simp
    · rw [if_neg e]
      by_cases h : i ∈ r
      · simp [h]
      · have : ¬ i ∈ j :: r := by simp [h]; omega
        rw [if_neg h, if_neg this]
def ArrAt (sl : List (Nat × AV)) (k n : Nat) : List Nat → Prop
  | [] => True
  | j :: r => (∃ m, look sl j = some (.arr k 1 0 m) ∧ m = n) ∧ ArrAt sl k n r
theorem ArrAt.at {sl : List (Nat × AV)} {k n : Nat} : ∀ {js : List Nat}, ArrAt sl k n js → ∀ j ∈ js, look sl j = some (.arr k 1 0 n)
  | [], _, j, hj => by simp at hj
  | i :: r, h, j, hj => by
    obtain ⟨m, h1, rfl⟩ := h.1
    rcases List.mem_cons.1 hj with rfl | hj
    · exact h1
    · exact ArrAt.at h.2 j hj

theorem ghost_freezes {α : Type} {C : Cx} {sl : List (Nat × AV)} {ob : List (Nat × List AV)} (js : List Nat) {k : Nat} {f : α → PV} {l : List α} (hne : js.isEmpty = false) (hk : Nat.blt k M1 = true) (hob : look ob k = some ((l.map f).map .p))
    (hjs : ArrAt sl k l.length js) (hone : ∀ x, (f x).cells = [f x] ∧ (f x).one = true) :
    Ghost C ⟨sl, ob⟩ ⟨frzs js (.p (eL f l)) (demS (fun i => Nat.beq i k) ⟨sl, ob⟩).sl, (demS (fun i => Nat.beq i k) ⟨sl, ob⟩).ob⟩ := by
  intro g a w hs
  have ho1 : ∀ x ∈ l.map f, x.cells = [x] := fun x hx => by obtain ⟨y, _, rfl⟩ := List.mem_map.1 hx; exact (hone y).1
  have ho2 : ∀ x ∈ l.map f, x.one = true := fun x hx => by obtain ⟨y, _, rfl⟩ := List.mem_map.1 hx; exact (hone y).2
  have hat := hjs.at
  cases js with
  | nil => cases hne
  | cons j0 r =>
    obtain ⟨g', hg'⟩ := hs.freeze (j := j0) (k := k) (es := l.map f) (Nat.blt_eq ▸ hk) hob (by rw [List.length_map]; exact hat j0 (by simp)) ho1 ho2
    refine ⟨g', { hg' with sl := fun i => ?_, ob := hg'.ob }⟩
    have hi := hg'.sl i
    simp only [AS.get, look_cons] at hi
    simp only [AS.get, look_frzs]
    by_cases h : i ∈ j0 :: r
    · rw [if_pos h]
      have h0 := hg'.sl j0
      simp only [AS.get, look_cons, if_true, Option.getD_some] at h0 ⊢
      have a1 := hs.sl j0
      have a2 := hs.sl i
      simp only [AS.get, hat j0 (by simp), hat i h, Option.getD_some] at a1 a2
      rw [← arr_eq a1 a2 rfl]
      exact h0
    · rw [if_neg h]
      have hne : ¬ j0 = i := fun e => h (by simp [e])
      rw [if_neg hne] at hi
      exact hi

end Go.Ab
