/- A layer of abstract values over the model's worlds, part B: rules for code, for regions of fixed order, and contracts of functions. It holds for every program. -/
import Derived.Test.YtapfhipodpbflaaGreatDoorAbA
set_option linter.unusedVariables false
set_option linter.unusedSimpArgs false
set_option linter.unnecessarySimpa false
namespace Go.Ab

/-- What the walk must know of a type. -/
inductive TK where
  | bool | int (k : IntKind) | string | ptr (e : Nat) | slice (e : Nat) | array (len e : Nat) | struct (fs : List (Nat × Nat)) | iface | map (k e : Nat) | other

def kindOf : TypeDesc → TK
  | .bool => .bool
  | .int k => .int k
  | .string => .string
  | .pointer e => .ptr e
  | .slice e => .slice e
  | .array n e => .array n e
  | .struct fs => .struct (fs.toList.map fun f => (f.offset, f.type))
  | .interface _ => .iface
  | .map k e => .map k e
  | _ => .other

structure TI where
  k : TK
  size : Nat
  bytes : Nat
  zero : List Value

def tyOk (P : Program) (t : Nat) (i : TI) : Prop :=
  (P.underlying t).map kindOf = some i.k ∧ (P.info? t).map (fun j => (j.size, j.bytes, j.zero.map (·.cells.toList))) = some (i.size, i.bytes, some i.zero)

def TyGood (P : Program) : List (Nat × TI) → Prop
  | [] => True
  | (t, i) :: r => tyOk P t i ∧ TyGood P r

/-- What is fixed while a body runs: the program, what is known of its types, the number of slots, the world in which the call began, the blocks that must stay. -/
structure Cx where
  P : Program
  tt : List (Nat × TI)
  good : TyGood P tt
  n : Nat
  nl : Nat.ble n M1 = true
  w0 : Base
  F : Nat → Prop

def awp (C : Cx) (c : Code) (Q : Exit → AS → Prop) (s : AS) : Prop :=
  ∀ g a w, St C.n C.w0 C.F g s a w → c.wp C.P (fun e a' w' => ∃ g' s', St C.n C.w0 C.F g' s' a' w' ∧ Q e s') a w

def rwp (C : Cx) (ops : Array Oper) (l : List Nat) (K : AS → Prop) (s : AS) : Prop :=
  ∀ g a w, St C.n C.w0 C.F g s a w → wpOps C.P ops (fun e a' w' => e = .normal ∧ ∃ g' s', St C.n C.w0 C.F g' s' a' w' ∧ K s') l a w

def OpOk (C : Cx) (o : Oper) (K : AS → Prop) (s : AS) : Prop :=
  ∀ g a w, St C.n C.w0 C.F g s a w → o.wp C.P a w (fun a' w' => ∃ g' s', St C.n C.w0 C.F g' s' a' w' ∧ K s') (fun _ _ _ => False)

theorem upon_mono {P : Program} {o : Oper} {a : Act} {next next' : Act → World → Prop} {Q Q' : Exit → Act → World → Prop} {r : Result Next}
    (hn : ∀ a w, next a w → next' a w) (hq : ∀ e a w, Q e a w → Q' e a w) (h : o.upon P a next Q r) : o.upon P a next' Q' r := by
  cases r with
  | halt x w =>
    cases x <;> simp only [Oper.upon] at h ⊢
    exact hq _ _ _ h
  | ok x w =>
    cases x <;> simp only [Oper.upon] at h ⊢
    case value v => exact hn _ _ h
    case skip => exact hn _ _ h
    case defer d => exact hn _ _ h
    case enter f args =>
      refine h.mono fun e w' h => ?_
      cases e with
      | returned v => exact hn _ _ h
      | panicked c => exact hq _ _ _ h
      | outgrown => obtain ⟨a0, w1, h⟩ := h; exact ⟨a0, w1, hq _ _ _ h⟩
    case row r args => exact h.mono fun v w' h => hn _ _ h

theorem OpOk.mono {C : Cx} {o : Oper} {K K' : AS → Prop} {s : AS} (hk : ∀ s, K s → K' s) (h : OpOk C o K s) : OpOk C o K' s :=
  fun g a w hs => upon_mono (fun _ _ ⟨g', s', h1, h2⟩ => ⟨g', s', h1, hk _ h2⟩) (fun _ _ _ h => h) (h g a w hs)

/-! ### Code -/
def thenQ (K : AS → Prop) (Q : Exit → AS → Prop) : Exit → AS → Prop
  | .normal, s => K s
  | e, s => Q e s
def blockQ (id : Nat) (Q : Exit → AS → Prop) : Exit → AS → Prop
  | .exit id', s => if id' = id then Q .normal s else Q (.exit id') s
  | e, s => Q e s

theorem awp_mono {C : Cx} {c : Code} {Q Q' : Exit → AS → Prop} {s : AS} (hq : ∀ e s, Q e s → Q' e s) (h : awp C c Q s) : awp C c Q' s :=
  fun g a w hs => wp_mono (h g a w hs) fun _ _ _ ⟨g', s', h1, h2⟩ => ⟨g', s', h1, hq _ _ h2⟩

theorem awp_weaken {C : Cx} {c : Code} {Q : Exit → AS → Prop} {s t : AS} (hle : s.le t) (h : awp C c Q t) : awp C c Q s :=
  fun g a w hs => h g a w (hs.weaken hle)

theorem awp_seq {C : Cx} {x y : Code} {Q : Exit → AS → Prop} {s : AS} (h : awp C x (thenQ (awp C y Q) Q) s) : awp C (.seq x y) Q s := by
  intro g a w hs
  refine wp_seq (wp_mono (h g a w hs) ?_)
  rintro e a' w' ⟨g', s', h1, h2⟩
  cases e with
  | normal => exact h2 g' a' w' h1
  | exit id => exact ⟨g', s', h1, h2⟩
  | goto l => exact ⟨g', s', h1, h2⟩
  | ret => exact ⟨g', s', h1, h2⟩
  | panic ch => exact ⟨g', s', h1, h2⟩
  | outgrown => exact ⟨g', s', h1, h2⟩

theorem awp_block {C : Cx} {id : Nat} {c : Code} {Q : Exit → AS → Prop} {s : AS} (h : awp C c (blockQ id Q) s) : awp C (.block id c) Q s := by
  intro g a w hs
  refine wp_block (wp_mono (h g a w hs) ?_)
  rintro e a' w' ⟨g', s', h1, h2⟩
  cases e with
  | exit id' =>
    simp only [blockQ] at h2
    simp only [Exit.inBlock]
    split
    · rename_i e; rw [if_pos e] at h2; exact ⟨g', s', h1, h2⟩
    · rename_i e; rw [if_neg e] at h2; exact ⟨g', s', h1, h2⟩
  | normal => exact ⟨g', s', h1, h2⟩
  | goto l => exact ⟨g', s', h1, h2⟩
  | ret => exact ⟨g', s', h1, h2⟩
  | panic ch => exact ⟨g', s', h1, h2⟩
  | outgrown => exact ⟨g', s', h1, h2⟩

theorem awp_skip {C : Cx} {Q : Exit → AS → Prop} {s : AS} (h : Q .normal s) : awp C .skip Q s :=
  fun g a w hs => wp_skip ⟨g, s, hs, h⟩
theorem awp_label {C : Cx} {l : Nat} {Q : Exit → AS → Prop} {s : AS} (h : Q .normal s) : awp C (.label l) Q s :=
  fun g a w hs => wp_label ⟨g, s, hs, h⟩
theorem awp_exit {C : Cx} {id : Nat} {Q : Exit → AS → Prop} {s : AS} (h : Q (.exit id) s) : awp C (.exit id) Q s :=
  fun g a w hs => wp_exit ⟨g, s, hs, h⟩
theorem awp_ret {C : Cx} {Q : Exit → AS → Prop} {s : AS} (h : Q .ret s) : awp C .ret Q s :=
  fun g a w hs => wp_ret ⟨g, s, hs, h⟩

def cst : Value → PV
  | .agg vs => .agg (vs.toList.map .val)
  | v => .val v

def AS.ev (s : AS) : Operand → AV
  | .tmp t => s.get t
  | .const v => .p (cst v)
  | .global g => ((globTab g).map .rptr).getD .undef
  | .func f => .func (.func f) []

theorem cst_rep (w : World) (st : Nat → Nat → Prop) (v : Value) : PRep w st (cst v) v := by
  unfold cst
  split
  · rename_i vs
    refine .agg (by simp) fun i c v h1 h2 => ?_
    simp only [List.getElem?_map, Array.getElem?_toList, h2, Option.map_some, Option.some.injEq] at h1
    subst h1
    exact .val _
  · exact .val _

theorem ev_rep {n : Nat} {w0 : Base} {w : World} {F : Nat → Prop} {g : Gh} {s : AS} {a : Act} (h : St n w0 F g s a w) (x : Operand) : ARep w g (s.ev x) (a.eval x) := by
  cases x with
  | tmp t => exact h.sl t
  | const v => exact .p (cst_rep _ _ _)
  | global q =>
    simp only [AS.ev]
    cases h2 : globTab q with
    | none => exact .undef _
    | some cs =>
      have hg := w0.gl.mono h.ev0
      refine .rptr (fun j => (w.cell? ⟨q, j, none⟩).getD Go.undef) (fun j c hc => ?_) (fun j c hc => ?_)
      · obtain ⟨k1, v, k2, k3⟩ := (hg q cs h2).1 j c hc
        rw [Nat.zero_add, k2]; exact ⟨k1, rfl⟩
      · obtain ⟨k1, v, k2, k3⟩ := (hg q cs h2).1 j c hc
        rw [k2]; exact k3
  | func f => exact .func rfl (fun i c v h => by simp at h)

theorem val_inv {w : World} {g : Gh} {x v : Value} (h : ARep w g (.p (.val x)) v) : v = x := by
  cases h with
  | p h => cases h; rfl

theorem ev_val {n : Nat} {w0 : Base} {w : World} {F : Nat → Prop} {g : Gh} {s : AS} {a : Act} (h : St n w0 F g s a w) {x : Operand} {v : Value} (hx : s.ev x = .p (.val v)) : a.eval x = v := by
  have := ev_rep h x
  rw [hx] at this
  exact val_inv this

theorem awp_cond {C : Cx} {c : Operand} {x y : Code} {Q : Exit → AS → Prop} {s : AS} {b : Bool} (hc : s.ev c = .p (.val (.bool b)))
    (h1 : b = true → awp C x Q s) (h2 : b = false → awp C y Q s) : awp C (.cond c x y) Q s := by
  intro g a w hs
  have he := ev_val hs hc
  cases b
  · exact wp_cond_false he (h2 rfl g a w hs)
  · exact wp_cond_true he (h1 rfl g a w hs)

theorem awp_true {C : Cx} {c : Operand} {x y : Code} {Q : Exit → AS → Prop} {s : AS} {b : Bool} (hc : s.ev c = .p (.val (.bool b))) (hb : b = true)
    (h1 : awp C x Q s) : awp C (.cond c x y) Q s := awp_cond hc (fun _ => h1) (fun h => by rw [hb] at h; cases h)
theorem awp_false {C : Cx} {c : Operand} {x y : Code} {Q : Exit → AS → Prop} {s : AS} {b : Bool} (hc : s.ev c = .p (.val (.bool b))) (hb : b = false)
    (h1 : awp C y Q s) : awp C (.cond c x y) Q s := awp_cond hc (fun h => by rw [hb] at h; cases h) (fun _ => h1)

/-- A loop, by an invariant over a ghost variable. -/
theorem awp_loop {C : Cx} {c : Code} {Q : Exit → AS → Prop} {s : AS} {σ : Type} (mk : σ → AS) (I : σ → Prop) (μ : σ → Nat) (k0 : σ)
    (h0 : I k0) (hle : s.le (mk k0))
    (round : ∀ k, I k → awp C c (thenQ (fun s' => ∃ k', I k' ∧ μ k' < μ k ∧ s'.le (mk k')) Q) (mk k)) : awp C (.loop c) Q s := by
  refine awp_weaken hle ?_
  intro g a w hs
  let J : Act → World → Nat → Prop := fun a w m => ∃ g k, St C.n C.w0 C.F g (mk k) a w ∧ I k ∧ μ k = m
  have hJ : ∀ a w m, J a w m → ∃ m0, J a w m0 ∧ ∀ m', J a w m' → m0 ≤ m' := by
    intro a w m
    induction m using Nat.strongRecOn with
    | _ m ih =>
      intro hm
      by_cases h : ∃ m', m' < m ∧ J a w m'
      · obtain ⟨m', h1, h2⟩ := h; exact ih m' h1 h2
      · exact ⟨m, hm, fun m' h' => Nat.le_of_not_lt fun hlt => h ⟨m', hlt, h'⟩⟩
  let M : Act → World → Nat := fun a w => by
    classical
    exact if h : ∃ m0, J a w m0 ∧ ∀ m', J a w m' → m0 ≤ m' then Classical.choose h else 0
  have hM : ∀ a w m, J a w m → J a w (M a w) ∧ M a w ≤ m := by
    intro a w m hm
    have h := hJ a w m hm
    have e : M a w = Classical.choose h := by simp only [M]; rw [dif_pos h]
    rw [e]
    exact ⟨(Classical.choose_spec h).1, (Classical.choose_spec h).2 m hm⟩
  refine wp_loop (fun a w => ∃ m, J a w m) M ⟨μ k0, g, k0, hs, h0, rfl⟩ ?_
  rintro a w ⟨m, hm⟩
  obtain ⟨⟨g1, k1, hs1, hI1, hμ1⟩, _⟩ := hM a w m hm
  refine wp_mono (round k1 hI1 g1 a w hs1) ?_
  rintro e a' w' ⟨g', s', h1, h2⟩
  cases e with
  | normal =>
    obtain ⟨k', hI', hlt, hle'⟩ := h2
    have hj : J a' w' (μ k') := ⟨g', k', h1.weaken hle', hI', rfl⟩
    refine ⟨⟨_, hj⟩, ?_⟩
    have := (hM a' w' _ hj).2
    omega
  | exit id => exact ⟨g', s', h1, h2⟩
  | goto l => exact ⟨g', s', h1, h2⟩
  | ret => exact ⟨g', s', h1, h2⟩
  | panic ch => exact ⟨g', s', h1, h2⟩
  | outgrown => exact ⟨g', s', h1, h2⟩

/-- Ways meet again. -/
theorem awp_meet {C : Cx} {c : Code} {K : AS → Prop} {Q : Exit → AS → Prop} {s : AS} (M : AS → Prop) (h : awp C c (thenQ M Q) s) (hm : ∀ s, M s → K s) : awp C c (thenQ K Q) s :=
  awp_mono (fun e s h => by cases e <;> first | exact hm _ h | exact h) h

/-! ### Regions of fixed order -/
theorem awp_region {C : Cx} {id : Nat} {ops : Array Oper} {Q : Exit → AS → Prop} {s : AS} {l : List Nat} (hl : List.range ops.size = l)
    (h : rwp C ops l (Q .normal) s) : awp C (.region id ops false) Q s := by
  intro g a w hs
  refine wp_region ?_
  rw [hl]
  have := h g a w hs
  have mono : ∀ (l : List Nat) (a : Act) (w : World) (Q1 Q2 : Exit → Act → World → Prop), (∀ e a w, Q1 e a w → Q2 e a w) → wpOps C.P ops Q1 l a w → wpOps C.P ops Q2 l a w := by
    intro l
    induction l with
    | nil => intro a w Q1 Q2 h12 h; exact h12 _ _ _ h
    | cons i r ih =>
      intro a w Q1 Q2 h12 h
      simp only [wpOps] at h ⊢
      cases ho : ops[i]? with
      | none => simp only [ho] at h; exact ih _ _ _ _ h12 h
      | some o =>
        simp only [ho] at h
        dsimp only
        split
        · rename_i hw
          rw [if_pos hw] at h
          rcases h with h | ⟨h, a0, w1, hq⟩
          · exact .inl (upon_mono (fun a w h => ih a w _ _ h12 h) h12 h)
          · exact .inr ⟨h, a0, w1, h12 _ _ _ hq⟩
        · rename_i hw
          rw [if_neg hw] at h
          exact ih _ _ _ _ h12 h
  refine mono _ _ _ _ _ ?_ this
  rintro e a' w' ⟨rfl, g', s', h1, h2⟩
  exact ⟨g', s', h1, h2⟩

theorem rwp_nil {C : Cx} {ops : Array Oper} {K : AS → Prop} {s : AS} (h : K s) : rwp C ops [] K s :=
  fun g a w hs => ⟨rfl, g, s, hs, h⟩

theorem rwp_op {C : Cx} {ops : Array Oper} {K : AS → Prop} {s : AS} {i : Nat} {r : List Nat} {o : Oper} (ho : ops[i]? = some o) (hg : o.guard = none)
    (h : OpOk C o (rwp C ops r K) s) : rwp C ops (i :: r) K s := by
  intro g a w hs
  simp only [wpOps, ho, Region.wanted, hg, if_true]
  exact .inl (upon_mono (fun a' w' ⟨g', s', h1, h2⟩ => h2 g' a' w' h1) (fun _ _ _ h => h.elim) (h g a w hs))

theorem yielded_eq {n : Nat} {w0 : Base} {w : World} {F : Nat → Prop} {g : Gh} {s : AS} {a : Act} (hs : St n w0 F g s a w) {ops : Array Oper} {j t : Nat} (hj : (ops[j]?).bind (·.dst) = some t)
    {b : Bool} (hv : s.get t = .p (.val (.bool b))) : yielded ops a.tmps j = some b := by
  have h1 := hs.sl t
  rw [hv] at h1
  have h2 := val_inv h1
  simp only [yielded, hj, Option.bind_some]
  rw [Array.getD_eq_getD_getElem?] at h2
  cases h3 : a.tmps[t]? with
  | none => rw [h3] at h2; simp [Go.undef] at h2
  | some v => rw [h3] at h2; simp only [Option.getD_some] at h2; subst h2; rfl

/-- An operation that is carried out only where a test says so. -/
theorem rwp_guard {C : Cx} {ops : Array Oper} {K : AS → Prop} {s : AS} {i : Nat} {r : List Nat} {o : Oper} {j : Nat} {want : Bool} {t : Nat} {b : Bool} (ho : ops[i]? = some o) (hg : o.guard = some (j, want))
    (hj : (ops[j]?).bind (·.dst) = some t) (hv : s.get t = .p (.val (.bool b))) (hd : ∀ t, o.dst = some t → t < C.n)
    (h1 : b = want → OpOk C o (rwp C ops r K) s) (h2 : b = !want → rwp C ops r K (s.put o.dst (.p (.val Go.undef)))) : rwp C ops (i :: r) K s := by
  intro g a w hs
  have hy := yielded_eq hs hj hv
  simp only [wpOps, ho, Region.wanted, hg, hy]
  by_cases e : b = want
  · subst e
    simp only [BEq.rfl, if_true]
    exact .inl (upon_mono (fun a' w' ⟨g', s', h1, h2⟩ => h2 g' a' w' h1) (fun _ _ _ h => h.elim) (h1 rfl g a w hs))
  · have e2 : b = !want := by
      cases b <;> cases want <;> first | rfl | exact absurd rfl e
    have e3 : (some b == some want) = false := by
      cases b <;> cases want <;> first | rfl | exact absurd rfl e
    rw [e3]
    simp only [Bool.false_eq_true, if_false]
    exact h2 e2 g _ w (hs.put hd (.p (.val _)))

theorem rwp_guard_yes {C : Cx} {ops : Array Oper} {K : AS → Prop} {s : AS} {i : Nat} {r : List Nat} {o : Oper} {j : Nat} {want : Bool} {t : Nat} {b : Bool} (ho : ops[i]? = some o) (hg : o.guard = some (j, want))
    (hj : (ops[j]?).bind (·.dst) = some t) (hv : s.get t = .p (.val (.bool b))) (hb : b = want)
    (h1 : OpOk C o (rwp C ops r K) s) : rwp C ops (i :: r) K s := by
  intro g a w hs
  have hy := yielded_eq hs hj hv
  simp only [wpOps, ho, Region.wanted, hg, hy]
  subst hb
  simp only [BEq.rfl, if_true]
  exact .inl (upon_mono (fun a' w' ⟨g', s', h1, h2⟩ => h2 g' a' w' h1) (fun _ _ _ h => h.elim) (h1 g a w hs))

theorem rwp_guard_no {C : Cx} {ops : Array Oper} {K : AS → Prop} {s : AS} {i : Nat} {r : List Nat} {o : Oper} {j : Nat} {want : Bool} {t : Nat} {b : Bool} (ho : ops[i]? = some o) (hg : o.guard = some (j, want))
    (hj : (ops[j]?).bind (·.dst) = some t) (hv : s.get t = .p (.val (.bool b))) (hb : b = !want) (hd : ∀ t, o.dst = some t → t < C.n)
    (h2 : rwp C ops r K (s.put o.dst (.p (.val Go.undef)))) : rwp C ops (i :: r) K s :=
  rwp_guard ho hg hj hv hd (fun e => by subst e; cases b <;> simp at hb) (fun _ => h2)

/-- The test itself was passed over. -/
theorem rwp_guard_none {C : Cx} {ops : Array Oper} {K : AS → Prop} {s : AS} {i : Nat} {r : List Nat} {o : Oper} {j : Nat} {want : Bool} {t : Nat} (ho : ops[i]? = some o) (hg : o.guard = some (j, want))
    (hj : (ops[j]?).bind (·.dst) = some t) (hv : s.get t = .p (.val Go.undef)) (hd : ∀ t, o.dst = some t → t < C.n)
    (h2 : rwp C ops r K (s.put o.dst (.p (.val Go.undef)))) : rwp C ops (i :: r) K s := by
  intro g a w hs
  have h1 := hs.sl t
  rw [hv] at h1
  have h3 := val_inv h1
  have hy : yielded ops a.tmps j = none := by
    simp only [yielded, hj, Option.bind_some]
    rw [Array.getD_eq_getD_getElem?] at h3
    cases h4 : a.tmps[t]? with
    | none => rfl
    | some v => rw [h4] at h3; simp only [Option.getD_some] at h3; subst h3; rfl
  simp only [wpOps, ho, Region.wanted, hg, hy]
  rw [if_neg (by simp)]
  exact h2 g _ w (hs.put hd (.p (.val _)))

/-- The operations that are left of a region. -/
def rwpL (C : Cx) (ops : Array Oper) (rest : List Oper) (K : AS → Prop) (s : AS) : Prop :=
  ∀ k, ops.toList.drop k = rest → rwp C ops (List.range' k rest.length) K s

theorem awp_reg {C : Cx} {id : Nat} {ops : Array Oper} {Q : Exit → AS → Prop} {s : AS} (h : rwpL C ops ops.toList (Q .normal) s) : awp C (.region id ops false) Q s := by
  refine awp_region (l := List.range' 0 ops.toList.length) ?_ (h 0 rfl)
  rw [List.range_eq_range', Array.length_toList]

theorem rwpL_nil {C : Cx} {ops : Array Oper} {K : AS → Prop} {s : AS} (h : K s) : rwpL C ops [] K s :=
  fun _ _ => rwp_nil h

theorem drop_at {ops : Array Oper} {k : Nat} {o : Oper} {r : List Oper} (h : ops.toList.drop k = o :: r) : ops[k]? = some o ∧ ops.toList.drop (k + 1) = r := by
  constructor
  · have := congrArg List.head? h
    simpa [List.head?_drop] using this
  · have := congrArg List.tail h
    simpa [List.tail_drop] using this

theorem rwpL_op {C : Cx} {ops : Array Oper} {K : AS → Prop} {s : AS} {r : List Oper} {o : Oper} (hg : o.guard = none)
    (h : OpOk C o (rwpL C ops r K) s) : rwpL C ops (o :: r) K s := by
  intro k hk
  obtain ⟨h1, h2⟩ := drop_at hk
  rw [List.length_cons, List.range'_succ]
  exact rwp_op h1 hg (h.mono fun s h => h (k + 1) h2)

theorem rwpL_guard {C : Cx} {ops : Array Oper} {K : AS → Prop} {s : AS} {r : List Oper} {o : Oper} {j : Nat} {want : Bool} {t : Nat} {b : Bool} (hg : o.guard = some (j, want))
    (hj : (ops.toList[j]?).bind (·.dst) = some t) (hv : look s.sl t = some (.p (.val (.bool b)))) {d : Nat} (hd : o.dst = some d) (hn : Nat.blt d C.n = true)
    (h1 : b = want → OpOk C o (rwpL C ops r K) s) (h2 : b = !want → rwpL C ops r K ⟨(d, .p (.val Go.undef)) :: s.sl, s.ob⟩) : rwpL C ops (o :: r) K s := by
  intro k hk
  obtain ⟨h3, h4⟩ := drop_at hk
  rw [List.length_cons, List.range'_succ]
  refine rwp_guard h3 hg (t := t) (b := b) (by simpa using hj) (by simp [AS.get, hv]) (fun t ht => by rw [hd] at ht; cases ht; exact Nat.blt_eq ▸ hn) (fun e => (h1 e).mono fun s h => h (k + 1) h4) (fun e => ?_)
  have := h2 e (k + 1) h4
  rw [hd]
  exact this

theorem rwpL_guard_yes {C : Cx} {ops : Array Oper} {K : AS → Prop} {s : AS} {r : List Oper} {o : Oper} {j : Nat} {want : Bool} {t : Nat} {b : Bool} (hg : o.guard = some (j, want))
    (hj : (ops.toList[j]?).bind (·.dst) = some t) (hv : look s.sl t = some (.p (.val (.bool b)))) (hb : b = want)
    (h1 : OpOk C o (rwpL C ops r K) s) : rwpL C ops (o :: r) K s := by
  intro k hk
  obtain ⟨h3, h4⟩ := drop_at hk
  rw [List.length_cons, List.range'_succ]
  exact rwp_guard_yes h3 hg (t := t) (b := b) (by simpa using hj) (by simp [AS.get, hv]) hb (h1.mono fun s h => h (k + 1) h4)

theorem rwpL_guard_no {C : Cx} {ops : Array Oper} {K : AS → Prop} {s : AS} {r : List Oper} {o : Oper} {j : Nat} {want : Bool} {t : Nat} {b : Bool} (hg : o.guard = some (j, want))
    (hj : (ops.toList[j]?).bind (·.dst) = some t) (hv : look s.sl t = some (.p (.val (.bool b)))) (hb : b = !want) {d : Nat} (hd : o.dst = some d) (hn : Nat.blt d C.n = true)
    (h2 : rwpL C ops r K ⟨(d, .p (.val Go.undef)) :: s.sl, s.ob⟩) : rwpL C ops (o :: r) K s :=
  rwpL_guard hg hj hv hd hn (fun e => by subst e; cases b <;> simp at hb) (fun _ => h2)

theorem rwpL_guard_none {C : Cx} {ops : Array Oper} {K : AS → Prop} {s : AS} {r : List Oper} {o : Oper} {j : Nat} {want : Bool} {t : Nat} (hg : o.guard = some (j, want))
    (hj : (ops.toList[j]?).bind (·.dst) = some t) (hv : look s.sl t = some (.p (.val Go.undef))) {d : Nat} (hd : o.dst = some d) (hn : Nat.blt d C.n = true)
    (h2 : rwpL C ops r K ⟨(d, .p (.val Go.undef)) :: s.sl, s.ob⟩) : rwpL C ops (o :: r) K s := by
  intro k hk
  obtain ⟨h3, h4⟩ := drop_at hk
  rw [List.length_cons, List.range'_succ]
  refine rwp_guard_none h3 hg (t := t) (by simpa using hj) (by simp [AS.get, hv]) (fun t ht => by rw [hd] at ht; cases ht; exact Nat.blt_eq ▸ hn) ?_
  have := h2 (k + 1) h4
  rw [hd]
  exact this

/-! ### Contracts -/
/-- What a call leaves: all blocks that were there are as they were; own blocks are new. -/
structure After (w : World) (st : Nat → Nat → Prop) (w' : World) (g' : Gh) : Prop where
  os : w'.os = w.os
  out : w'.output = w.output
  tape : w'.tape = w.tape
  size : w.heap.size ≤ w'.heap.size
  fr : ∀ b, b < w.heap.size → w'.heap[b]? = w.heap[b]?
  own : ∀ i b, g'.ow i = some b → w.heap.size ≤ b ∧ b < w'.heap.size
  inj : ∀ i j b, g'.ow i = some b → g'.ow j = some b → i = j
  lt : ∀ b o, g'.st b o → b < w'.heap.size
  stf : ∀ b, b < w.heap.size → ∀ o, g'.st b o ↔ st b o

/-- Called with settled values, the function returns an R and turns nothing that was there. -/
def PCalls (P : Program) (f : FuncId) (args : List PV) (R : AV → Prop) : Prop :=
  ∀ (w : World) (st : Nat → Nat → Prop) (vs : Array Value), Ok0 w st → vs.size = args.length →
    (∀ (i : Nat) c v, args[i]? = some c → vs[i]? = some v → PRep w st c v) →
    Calls P f vs w fun e w' => ∃ v r g', e = .returned v ∧ R r ∧ ARep w' g' r v ∧ After w st w' g'

theorem PCalls.mono {P : Program} {f : FuncId} {args : List PV} {R R' : AV → Prop} (h : PCalls P f args R) (hr : ∀ r, R r → R' r) : PCalls P f args R' :=
  fun w st vs h0 h1 h2 => (h w st vs h0 h1 h2).mono fun e w' ⟨v, r, g', h3, h4, h5, h6⟩ => ⟨v, r, g', h3, hr _ h4, h5, h6⟩

theorem PCalls.sub {P : Program} {f : FuncId} {args : List PV} {r r' : AV} (h : PCalls P f args (· = r)) (hr : r.sub r') : PCalls P f args (· = r') :=
  fun w st vs h0 h1 h2 => (h w st vs h0 h1 h2).mono fun e w' ⟨v, _, g', h3, h4, h5, h6⟩ => ⟨v, r', g', h3, rfl, hr _ _ _ (h4 ▸ h5), h6⟩

/-- The results of a body: temporaries. -/
def resT : List ResultVar → AS → Option (List AV)
  | [], _ => some []
  | .tmp t :: r, s => match look s.sl t, resT r s with
    | some x, some l => some (x :: l)
    | _, _ => none
  | .cell _ _ :: _, _ => none

def resV : List AV → AV
  | [x] => x
  | l => .tuple l

def retQ (fn : Func) (R : AV → Prop) (e : Exit) (s : AS) : Prop := (e = .normal ∨ e = .ret) ∧ ∃ l, resT fn.results.toList s = some l ∧ R (resV l)

def resF (tmps : Array Value) : ResultVar → Sem Value
  | .tmp t => pure (tmps.getD t Go.undef)
  | .cell c t => do loadVar t (← asAddr (tmps.getD c Go.undef))

theorem results_eq (fn : Func) (tmps : Array Value) : results fn tmps = (do let vs ← fn.results.mapM (resF tmps); pure (if h : vs.size = 1 then vs[0] else .tuple vs)) := rfl

theorem resT_run {P : Program} {n : Nat} {w0 : Base} {w : World} {F : Nat → Prop} {g : Gh} {s : AS} {a : Act} (hs : St n w0 F g s a w) (rs : List ResultVar) :
    ∀ l, resT rs s = some l → ∃ vs : List Value,
      (rs.mapM (resF a.tmps)).run P w = .ok vs w ∧ vs.length = l.length ∧
        ∀ (i : Nat) c v, l[i]? = some c → vs[i]? = some v → ARep w g c v := by
  induction rs with
  | nil => intro l h; simp only [resT, Option.some.injEq] at h; subst h; exact ⟨[], by simp, rfl, by simp⟩
  | cons r rs ih =>
    intro l h
    cases r with
    | cell c t => simp [resT] at h
    | tmp t =>
      have ht := hs.sl t
      simp only [resT] at h
      split at h
      case h_2 => cases h
      rename_i x l' hx h1
      cases h
      simp only [AS.get, hx, Option.getD_some] at ht
      obtain ⟨vs, h2, h3, h4⟩ := ih l' h1
      refine ⟨a.tmps.getD t Go.undef :: vs, ?_, by simp [h3], ?_⟩
      · simp only [List.mapM_cons, resF, Sem.run_bind, Sem.run_pure, Result.andThen_ok, h2]
      · intro i c v h5 h6
        cases i with
        | zero => simp only [List.getElem?_cons_zero, Option.some.injEq] at h5 h6; subst h5 h6; exact ht
        | succ i => simp only [List.getElem?_cons_succ] at h5 h6; exact h4 i c v h5 h6

theorem ret_mk {fn : Func} {R : AV → Prop} {s : AS} {l : List AV} (h : resT fn.results.toList s = some l) (hR : R (resV l)) : retQ fn R .ret s := ⟨.inr rfl, l, h, hR⟩
theorem end_mk {fn : Func} {R : AV → Prop} {s : AS} {l : List AV} (h : resT fn.results.toList s = some l) (hR : R (resV l)) : retQ fn R .normal s := ⟨.inl rfl, l, h, hR⟩

theorem loop_next {σ : Type} {mk : σ → AS} {I : σ → Prop} {μ : σ → Nat} {k : σ} {Q : Exit → AS → Prop} {s : AS} (k' : σ) (h1 : I k') (h2 : μ k' < μ k) (h3 : s.le (mk k')) :
    thenQ (fun s' => ∃ k', I k' ∧ μ k' < μ k ∧ s'.le (mk k')) Q .normal s := ⟨k', h1, h2, h3⟩

theorem results_run {P : Program} {n : Nat} {w0 : Base} {w : World} {F : Nat → Prop} {g : Gh} {s : AS} {a : Act} (hs : St n w0 F g s a w) (fn : Func) (l : List AV) (h : resT fn.results.toList s = some l) :
    ∃ v, (results fn a.tmps).run P w = .ok v w ∧ ARep w g (resV l) v := by
  obtain ⟨vs, h2, h3, h4⟩ := resT_run (P := P) hs _ l h
  refine ⟨if h : vs.length = 1 then vs[0] else .tuple vs.toArray, ?_, ?_⟩
  · rw [results_eq, Array.mapM_eq_mapM_toList]
    simp only [Sem.run_bind, Sem.run_map, h2, Result.andThen_ok, Sem.run_pure, List.size_toArray]
    congr 1
  · by_cases e : vs.length = 1
    · rw [dif_pos e]
      obtain ⟨v, rfl⟩ := List.length_eq_one_iff.1 e
      obtain ⟨x, rfl⟩ := List.length_eq_one_iff.1 (h3.symm.trans e)
      exact h4 0 x v rfl rfl
    · rw [dif_neg e]
      have e2 : resV l = .tuple l := by
        match l, h3 with
        | [], _ => rfl
        | [x], h3 => exact absurd h3 e
        | x :: y :: r, _ => rfl
      rw [e2]
      exact .tuple (by simpa using h3) (fun i c v h5 h6 => h4 i c v h5 (by simpa using h6))

def argSlots (args : List PV) : List (Nat × AV) := (args.zipIdx).map fun (x, i) => (i, .p x)

theorem TyGood.at {P : Program} : ∀ {tt : List (Nat × TI)}, TyGood P tt → ∀ {t : Nat} {i : TI}, look tt t = some i → tyOk P t i
  | [], _, _, _, h => by simp [look] at h
  | (u, j) :: r, hg, t, i, h => by
    rw [look_cons] at h
    split at h
    · rename_i e; subst e; cases h; exact hg.1
    · exact TyGood.at hg.2 h

theorem look_argSlots (args : List PV) : ∀ (k i : Nat), look ((args.zipIdx k).map fun (x, i) => (i, AV.p x)) i = if k ≤ i then (args[i - k]?).map .p else none := by
  induction args with
  | nil => intro k i; simp [look]
  | cons x r ih =>
    intro k i
    simp only [List.zipIdx_cons, List.map_cons, look_cons, ih]
    by_cases e : k = i
    · subst e; simp
    · rw [if_neg e]
      by_cases h : k ≤ i
      · rw [if_pos (by omega), if_pos h]
        have : i - k = (i - (k + 1)) + 1 := by omega
        rw [this]; simp
      · rw [if_neg (by omega), if_neg h]

/-- A function's contract by a walk of its body. -/
theorem pcalls_of_body {P : Program} {tt : List (Nat × TI)} (good : TyGood P tt) {f : FuncId} {fn : Func} {c : Code} {args : List PV} {R : AV → Prop} (hf : P.funcs[f]? = some fn) (hb : fn.body = some c) (hn : args.length ≤ fn.ntmps) (hnl : Nat.ble fn.ntmps M1 = true)
    (h : ∀ w0, awp ⟨P, tt, good, fn.ntmps, hnl, w0, fun b => b < w0.w.heap.size⟩ c (retQ fn R) ⟨argSlots args, []⟩) : PCalls P f args R := by
  intro w st vs h0 h1 h2
  refine calls_of_wp hf hb ?_
  have hs : St fn.ntmps ⟨w, st, fun _ => none, h0.gl, (fun _ _ h => nomatch h), []⟩ (fun b => b < w.heap.size) ⟨st, fun _ => none⟩ ⟨argSlots args, []⟩ { tmps := vs ++ Array.replicate (fn.ntmps - vs.size) Go.undef, defers := [] } w := by
    refine ⟨rfl, ?_, ?_, ?_, ?_, ?_, ?_, ?_, ?_, rfl, rfl, rfl, Nat.le_refl _, fun b _ o => Iff.rfl, fun _ _ _ => rfl, ShapesH.refl _ _, fun i b _ h => (by cases h), Ev.refl _ _⟩
    · simp only [Array.size_append, Array.size_replicate]; omega
    · intro i
      have := look_argSlots args 0 i
      simp only [AS.get, argSlots, this, Nat.zero_le, if_true, Nat.sub_zero]
      cases ha : args[i]? with
      | none => exact .undef _
      | some x =>
        have hi : i < args.length := (List.getElem?_eq_some_iff.1 ha).1
        have hi2 : i < vs.size := by omega
        have e : (vs ++ Array.replicate (fn.ntmps - vs.size) Go.undef).getD i Go.undef = vs[i] := by
          simp [Array.getD_eq_getD_getElem?, Array.getElem?_append, hi2]
        simp only [Option.map_some, Option.getD_some]
        rw [e]
        exact .p (h2 i x _ ha (Array.getElem?_eq_getElem hi2))
    · intro id cs h; simp [look] at h
    · intro i j b h; simp at h
    · intro i b h; simp at h
    · intro b o h; exact h0.lt b o h
    · intro b h; exact h
    · intro b h; rfl
  refine wp_mono (h ⟨w, st, fun _ => none, h0.gl, (fun _ _ h => nomatch h), []⟩ _ _ w hs) ?_
  rintro e a' w' ⟨g', s', h3, he, l, hl, hR⟩
  obtain ⟨v, hv, hr⟩ := results_run (P := P) h3 fn l hl
  have fin : ∃ v, (results fn a'.tmps).run P w' = .ok v w' ∧ ∃ v1 r g', Ending.returned v = .returned v1 ∧ R r ∧ ARep w' g' r v1 ∧ After w st w' g' := by
    refine ⟨v, hv, v, _, g', rfl, hR, hr, ⟨h3.os, h3.out, h3.tape, h3.size, fun b hb => h3.fr b hb, fun i b hi => ?_, h3.inj, h3.lt, h3.stf⟩⟩
    have := h3.own i b hi
    exact ⟨Nat.le_of_not_lt this.2, this.1⟩
  rcases he with rfl | rfl
  · exact ⟨h3.nd, fin⟩
  · exact ⟨h3.nd, fin⟩

end Go.Ab
