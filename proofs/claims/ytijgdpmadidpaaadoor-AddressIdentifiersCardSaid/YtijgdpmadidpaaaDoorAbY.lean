/- A layer of abstract values over the model's worlds, part Y: steps of a region that draws its order and changes objects, in the form in which they are printed. It holds for every program. -/
import Derived.Test.YtijgdpmadidpaaaDoorAbX
set_option linter.unusedVariables false
set_option linter.unusedSimpArgs false
set_option linter.unnecessarySimpa false
namespace Go.Ab

def by2 {α : Type} (a b : α) : Nat → α
  | 0 => a
  | _ + 1 => b
def by3 {α : Type} (a b c : α) : Nat → α
  | 0 => a
  | 1 => b
  | _ + 2 => c
def by4 {α : Type} (a b c e : α) : Nat → α
  | 0 => a
  | 1 => b
  | 2 => c
  | _ + 3 => e
theorem all2 {p : Nat → Prop} (h0 : p 0) (h1 : ∀ j, p (j + 1)) : ∀ j, p j
  | 0 => h0
  | j + 1 => h1 j
theorem all3 {p : Nat → Prop} (h0 : p 0) (h1 : p 1) (h2 : ∀ j, p (j + 2)) : ∀ j, p j
  | 0 => h0
  | 1 => h1
  | j + 2 => h2 j
theorem all4 {p : Nat → Prop} (h0 : p 0) (h1 : p 1) (h2 : p 2) (h3 : ∀ j, p (j + 3)) : ∀ j, p j
  | 0 => h0
  | 1 => h1
  | 2 => h2
  | j + 3 => h3 j
theorem lt1 {p : Nat → Prop} (h0 : p 0) : ∀ j, j < 1 → p j
  | 0, _ => h0
  | j + 1, h => absurd h (by omega)
theorem lt2 {p : Nat → Prop} (h0 : p 0) (h1 : p 1) : ∀ j, j < 2 → p j
  | 0, _ => h0
  | 1, _ => h1
  | j + 2, h => absurd h (by omega)
theorem lt3 {p : Nat → Prop} (h0 : p 0) (h1 : p 1) (h2 : p 2) : ∀ j, j < 3 → p j
  | 0, _ => h0
  | 1, _ => h1
  | 2, _ => h2
  | j + 3, h => absurd h (by omega)

/-- The stages at which a pure operation may run. -/
def Stg (C : Cx) (ops : Array Oper) (S : Sched) (o : Oper) (k : Nat) (rev : RevS) (d : Nat) (v : Nat → AV) : Nat → Prop
  | 0 => True
  | j + 1 => (allowB ops S.imp o k j = true → ∃ kn, KnS (S.bas j) o rev j kn ∧ StepK C ops (S.obj j) o kn d (v j)) ∧ Stg C ops S o k rev d v j
section
variable {C : Cx} {ops : Array Oper} {S : Sched} {K : AS → Prop} {o : Oper} {k : Nat} {rev : RevS} {d : Nat} {v : Nat → AV}
theorem stg_nil : Stg C ops S o k rev d v 0 := trivial
theorem stg_no {j : Nat} (h : allowB ops S.imp o k j = false) (r : Stg C ops S o k rev d v j) : Stg C ops S o k rev d v (j + 1) := ⟨fun h' => (Bool.noConfusion (h.symm.trans h')), r⟩
theorem stg_yes {j : Nat} (kn : List (Nat × AV)) (h1 : KnS (S.bas j) o rev j kn) (h2 : StepK C ops (S.obj j) o kn d (v j)) (r : Stg C ops S o k rev d v j) : Stg C ops S o k rev d v (j + 1) := ⟨fun _ => ⟨kn, h1, h2⟩, r⟩
theorem stg_at : ∀ {m : Nat}, Stg C ops S o k rev d v m → ∀ j, j < m → allowB ops S.imp o k j = true → ∃ kn, KnS (S.bas j) o rev j kn ∧ StepK C ops (S.obj j) o kn d (v j)
  | 0, _, j, h, _ => absurd h (Nat.not_lt_zero _)
  | m + 1, hm, j, h, ha => by
    by_cases e : j = m
    · subst e; exact hm.1 ha
    · exact stg_at hm.2 j (by omega) ha

theorem ds_pure {rest : List Oper} (v : Nat → AV) (hk : S.imp.findIdx? (Nat.beq k) = none) (hd : o.dst = some d) (hf : (rev.all fun p => !(Nat.beq p.2.1 d)) = true) (hb : ∀ j, look (S.bas j) d = none) (hv : ∀ j, j < S.m → v (j + 1) = trA (S.D j) (v j))
    (hs : Stg C ops S o k rev d v (S.m + 1)) (h : DS C ops S K rest (k + 1) ((k, d, v) :: rev)) : DS C ops S K (o :: rest) k rev := by
  unfold DS
  rw [hk]
  exact ⟨d, v, hd, hf, hb, hv, fun j hj ha => stg_at hs j (by omega) ha, h⟩

/-- Nothing of what is known changes at an operation that is handed nothing that does. -/
theorem ds_imp {rest : List Oper} {i : Nat} (v : Nat → AV) (kn : List (Nat × AV)) (hk : S.imp.findIdx? (Nat.beq k) = some i) (hkn : KnS (S.bas i) o rev i kn) (hd : o.dst = some d) (hf : (rev.all fun p => !(Nat.beq p.2.1 d)) = true) (hb : ∀ j, look (S.bas (j + (i + 1))) d = none)
    (hv : ∀ j, j < S.m → i < j → v (j + 1) = trA (S.D j) (v j))
    (hst : ∀ sl, (∀ i x, look kn i = some x → look sl i = some x) → ∀ K : AS → Prop, K ⟨(d, v (i + 1)) :: trL (S.D i) sl, S.obj (i + 1)⟩ → One C ops o K ⟨sl, S.obj i⟩) (h : DS C ops S K rest (k + 1) ((k, d, v) :: rev)) : DS C ops S K (o :: rest) k rev := by
  unfold DS
  rw [hk]
  exact ⟨kn, hkn, .inl ⟨d, v, hd, hf, fun j hj => by have := hb (j - (i + 1)); rwa [show j - (i + 1) + (i + 1) = j by omega] at this, fun j h1 h2 => hv j h2 h1, hst, h⟩⟩

theorem ds_store {rest : List Oper} {i : Nat} (kn : List (Nat × AV)) (hk : S.imp.findIdx? (Nat.beq k) = some i) (hkn : KnS (S.bas i) o rev i kn) (hd : o.dst = none)
    (hst : ∀ sl, (∀ i x, look kn i = some x → look sl i = some x) → ∀ K : AS → Prop, K ⟨trL (S.D i) sl, S.obj (i + 1)⟩ → One C ops o K ⟨sl, S.obj i⟩) (h : DS C ops S K rest (k + 1) rev) : DS C ops S K (o :: rest) k rev := by
  unfold DS
  rw [hk]
  exact ⟨kn, hkn, .inr ⟨hd, hst, h⟩⟩

theorem ds_nil (h : K ⟨slotsS rev S.m ++ S.bas S.m, S.obj S.m⟩) : DS C ops S K [] k rev := h
end

/-! ### Lists of what is handed on -/
theorem mapAgo_nil {m : Nat → Option Nat} : AV.mapA.go m [] = some [] := rfl
theorem mapAgo_cons {m : Nat → Option Nat} {x y : AV} {r l : List AV} (h1 : x.mapA m = some y) (h2 : AV.mapA.go m r = some l) : AV.mapA.go m (x :: r) = some (y :: l) := by
  simp only [AV.mapA.go, h1, h2]
theorem mapA_func {m : Nat → Option Nat} {f : Fn} {cs l : List AV} (h : AV.mapA.go m cs = some l) : (AV.func f cs).mapA m = some (.func f l) := by
  simp only [AV.mapA, h]
theorem elems_nil {sl : List (Nat × AV)} {k : Nat} : elemsA sl k [] = some [] := rfl
theorem elems_cons {sl : List (Nat × AV)} {k : Nat} {x : Operand} {r : List (Nat × Operand)} {y : AV} {z : PV} {l : List PV} (h1 : evo sl x = some y) (h2 : y.toPV = some z) (h3 : elemsA sl (k + 1) r = some l) : elemsA sl k ((k, x) :: r) = some (z :: l) := by
  have hb : Nat.beq k k = true := by simp
  simp only [elemsA, hb, cond_true, h1, h3, h2]

theorem parts_nil {sl : List (Nat × AV)} : partsA sl [] = some [] := rfl
theorem parts_cons {sl : List (Nat × AV)} {i : Nat} {x : Operand} {r : List (Nat × Operand)} {y : AV} {l : List (Nat × AV)} (h1 : evo sl x = some y) (h2 : partsA sl r = some l) : partsA sl ((i, x) :: r) = some ((i, y) :: l) := by
  simp only [partsA, h1, h2]

/-! ### A body that ends behind a ghost step -/
theorem awp_gh {C : Cx} {c : Code} {Q : Exit → AS → Prop} {s : AS} (h : awp C c (fun e s => ∃ t, Ghost C s t ∧ Q e t) s) : awp C c Q s := by
  intro g a w hs
  refine wp_mono (h g a w hs) ?_
  rintro e a' w' ⟨g', s', h3, t, hg, hq⟩
  obtain ⟨g2, h4⟩ := hg g' a' w' h3
  exact ⟨g2, t, h4, hq⟩

def retG (C : Cx) (tt : List (Nat × TI)) (fn : Func) (ts ids : List Nat) (r : AV) (rob : List (Nat × List AV)) (e : Exit) (s : AS) : Prop :=
  ∃ t, Ghost C s t ∧ retOA tt fn ts ids (fun x y => x.sub r ∧ leO y rob) e t

theorem obodyG {P : Program} {tt : List (Nat × TI)} (good : TyGood P tt) {f : FuncId} {fn : Func} {c : Code} {args : List AV} {obs rob : List (Nat × List AV)} {r : AV} (ts ids : List Nat) (hf : P.funcs[f]? = some fn) (hb : fn.body = some c)
    (hn : Nat.ble args.length fn.ntmps = true) (hnl : Nat.ble fn.ntmps M1 = true) (hts : ts.all (fun i => Nat.blt i M1) = true) (hnd : nodupB ts = true)
    (h : ∀ w0 F, awp ⟨P, tt, good, fn.ntmps, hnl, w0, F⟩ c (retG ⟨P, tt, good, fn.ntmps, hnl, w0, F⟩ tt fn ts ids r rob) ⟨argSlotsA args, obs⟩) : OCalls P f args obs (fun x y => x = r ∧ y = rob) :=
  obodyA good ts ids hf hb hn hnl hts hnd fun w0 F => awp_gh (h w0 F)
theorem retg_mk {C : Cx} {tt : List (Nat × TI)} {fn : Func} {ts ids : List Nat} {r r1 : AV} {rob obs obs' : List (Nat × List AV)} {s t : AS} {l : List AV} (hg : Ghost C s t) (h1 : resA tt fn.results.toList t = some l) (h2 : (resV l).mapA (retM ts) = some r1)
    (h3 : pickO t.ob ids = some obs) (h4 : mapO (retM ts) obs = some obs') (h5 : r1.sub r) (h6 : leO obs' rob) : retG C tt fn ts ids r rob .ret s := ⟨t, hg, retoa_mk h1 h2 h3 h4 ⟨h5, h6⟩⟩
theorem endg_mk {C : Cx} {tt : List (Nat × TI)} {fn : Func} {ts ids : List Nat} {r r1 : AV} {rob obs obs' : List (Nat × List AV)} {s t : AS} {l : List AV} (hg : Ghost C s t) (h1 : resA tt fn.results.toList t = some l) (h2 : (resV l).mapA (retM ts) = some r1)
    (h3 : pickO t.ob ids = some obs) (h4 : mapO (retM ts) obs = some obs') (h5 : r1.sub r) (h6 : leO obs' rob) : retG C tt fn ts ids r rob .normal s := ⟨t, hg, endoa_mk h1 h2 h3 h4 ⟨h5, h6⟩⟩

end Go.Ab
