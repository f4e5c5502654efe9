/- A layer of abstract values over the model's worlds, part K: rules for lists of typed elements, and shorter forms. It holds for every program. A layer of abstract values over the model's worlds, part L: more operators; and from a contract to a row's walk. It holds for every program. A layer of abstract values over the model's worlds, part M: the arguments of a row. It holds for every program. -/
import Derived.Test.YtapfhipodpbflaaGreatDoorAbJ
import Derived.Lib.Bytealg
import Derived.Scope
import Derived.RowKit3
import Derived.WideLaws
set_option linter.unusedVariables false
set_option linter.unusedSimpArgs false
set_option linter.unnecessarySimpa false
namespace Go.Ab

def noGoto (Q : Exit → AS → Prop) : Exit → AS → Prop
  | .goto _, _ => False
  | e, s => Q e s

theorem awp_scope {C : Cx} {c : Code} {Q : Exit → AS → Prop} {s : AS} (h : awp C c (noGoto Q) s) : awp C (.scope c) Q s := by
  intro g a w hs
  refine wp_scope_straight (wp_mono (h g a w hs) ?_)
  rintro e a' w' ⟨g', s', h1, h2⟩
  cases e with
  | goto l => exact h2.elim
  | normal => exact ⟨g', s', h1, h2⟩
  | exit id => exact ⟨g', s', h1, h2⟩
  | ret => exact ⟨g', s', h1, h2⟩
  | panic ch => exact ⟨g', s', h1, h2⟩
  | outgrown => exact ⟨g', s', h1, h2⟩

theorem thenQ_ret {K : AS → Prop} {Q : Exit → AS → Prop} {s : AS} (h : Q .ret s) : thenQ K Q .ret s := h
theorem thenQ_exit {K : AS → Prop} {Q : Exit → AS → Prop} {s : AS} {id : Nat} (h : Q (.exit id) s) : thenQ K Q (.exit id) s := h
theorem blockQ_ret {id : Nat} {Q : Exit → AS → Prop} {s : AS} (h : Q .ret s) : blockQ id Q .ret s := h
theorem blockQ_normal {id : Nat} {Q : Exit → AS → Prop} {s : AS} (h : Q .normal s) : blockQ id Q .normal s := h
theorem blockQ_exit {id : Nat} {Q : Exit → AS → Prop} {s : AS} (h : Q .normal s) : blockQ id Q (.exit id) s := by
  simp only [blockQ, if_true]; exact h
theorem blockQ_other {id id' : Nat} {Q : Exit → AS → Prop} {s : AS} (hne : Nat.beq id' id = false) (h : Q (.exit id') s) : blockQ id Q (.exit id') s := by
  have : ¬ id' = id := fun e => by subst e; simp at hne
  simp only [blockQ, if_neg this]; exact h
theorem noGoto_ret {Q : Exit → AS → Prop} {s : AS} (h : Q .ret s) : noGoto Q .ret s := h
theorem noGoto_exit {id : Nat} {Q : Exit → AS → Prop} {s : AS} (h : Q (.exit id) s) : noGoto Q (.exit id) s := h
theorem noGoto_normal {Q : Exit → AS → Prop} {s : AS} (h : Q .normal s) : noGoto Q .normal s := h

theorem map_get {α : Type} (f : α → PV) (l : List α) (n : Nat) (dflt : α) (h : n < l.length) : (l.map f)[n]? = some (f (l.getD n dflt)) := by
  rw [List.getElem?_map, List.getElem?_eq_getElem h, Option.map_some, List.getD_eq_getElem?_getD, List.getElem?_eq_getElem h]; rfl

section
variable {C : Cx} {o : Oper} {K : AS → Prop} {sl : List (Nat × AV)} {ob : List (Nat × List AV)} {d : Nat}

theorem ok_indexSn {t : TypeId} {x y : Operand} {a : List UInt8} {k : IntKind} {j : Nat} {i : TI} (ho : o.op = .index t x y) (hd : o.dst = some d) (hn : Nat.blt d C.n = true)
    (hi : look C.tt t = some i) (hik : i.k = .string) (hx : evo sl x = some (.p (.val (.string (str a))))) (hy : evo sl y = some (.p (.val (.int k (j : Int)))))
    (hj : j < a.length)
    (hK : K ⟨(d, .p (.val (.int .u8 ((a.getD j 0).toNat : Int)))) :: sl, ob⟩) : OpOk C o K ⟨sl, ob⟩ :=
  ok_indexS ho hd hn hi hik hx hy (by omega) hK

/-- An element of a slice that is seen as a list of typed things. -/
theorem ok_indexAddrM {α : Type} (dflt : α) {t e : TypeId} {x y : Operand} {z : AV} {f : α → PV} {l : List α} {i ie : TI} {k : IntKind} {n : Int} (ho : o.op = .indexAddr t x y) (hd : o.dst = some d) (hn : Nat.blt d C.n = true)
    (hi : look C.tt t = some i) (hik : i.k = .slice e) (hie : look C.tt e = some ie) (hx : evo sl x = some z) (hz : z.elems? = some (l.map f))
    (hy : evo sl y = some (.p (.val (.int k n)))) (hb : 0 ≤ n ∧ n < l.length) (hsz : ∀ x, (f x).cells.length = ie.size)
    (hK : K ⟨(d, .rptr (f (l.getD n.toNat dflt)).cells) :: sl, ob⟩) : OpOk C o K ⟨sl, ob⟩ :=
  ok_indexAddrV ho hd hn hi hik hie hx hz hy hb.1 (map_get f l n.toNat dflt (by omega)) (hsz _) hK

theorem ok_indexAddrMn {α : Type} (dflt : α) {t e : TypeId} {x y : Operand} {z : AV} {f : α → PV} {l : List α} {i ie : TI} {k : IntKind} {n : Nat} (ho : o.op = .indexAddr t x y) (hd : o.dst = some d) (hn : Nat.blt d C.n = true)
    (hi : look C.tt t = some i) (hik : i.k = .slice e) (hie : look C.tt e = some ie) (hx : evo sl x = some z) (hz : z.elems? = some (l.map f))
    (hy : evo sl y = some (.p (.val (.int k (n : Int))))) (hb : n < l.length) (hsz : ∀ x, (f x).cells.length = ie.size)
    (hK : K ⟨(d, .rptr (f (l.getD n dflt)).cells) :: sl, ob⟩) : OpOk C o K ⟨sl, ob⟩ :=
  ok_indexAddrM dflt ho hd hn hi hik hie hx hz hy (by omega) hsz hK

theorem ok_indexAddrA1n {t e : TypeId} {x y : Operand} {i ie : TI} {k : IntKind} {n : Nat} {id m : Nat} (ho : o.op = .indexAddr t x y) (hd : o.dst = some d) (hn : Nat.blt d C.n = true)
    (hi : look C.tt t = some i) (hik : i.k = .slice e) (hie : look C.tt e = some ie) (hx : evo sl x = some (.arr id 1 0 m))
    (hy : evo sl y = some (.p (.val (.int k (n : Int))))) (hsz : ie.size = 1) (hb : n < m)
    (hK : K ⟨(d, .ptr id n) :: sl, ob⟩) : OpOk C o K ⟨sl, ob⟩ :=
  ok_indexAddrA ho hd hn hi hik hie hx hy hsz (by omega) (by rw [Nat.zero_add, Nat.mul_one]; exact hK)

theorem ok_lenM {α : Type} {t e : TypeId} {x : Operand} {y : AV} {f : α → PV} {l : List α} {i : TI} (ho : o.op = .call { callee := .builtin .len, args := #[x], argTypes := #[t] }) (hd : o.dst = some d) (hn : Nat.blt d C.n = true)
    (hi : look C.tt t = some i) (hik : i.k = .slice e) (hx : evo sl x = some y) (hy : y.elems? = some (l.map f))
    (hK : K ⟨(d, .p (.val (.int .i64 (l.length : Int)))) :: sl, ob⟩) : OpOk C o K ⟨sl, ob⟩ :=
  ok_lenV ho hd hn hi hik hx hy (by rw [List.length_map]; exact hK)

theorem ok_indexAddrA1 {t e : TypeId} {x y : Operand} {i ie : TI} {k : IntKind} {n : Int} {id m : Nat} (ho : o.op = .indexAddr t x y) (hd : o.dst = some d) (hn : Nat.blt d C.n = true)
    (hi : look C.tt t = some i) (hik : i.k = .slice e) (hie : look C.tt e = some ie) (hx : evo sl x = some (.arr id 1 0 m))
    (hy : evo sl y = some (.p (.val (.int k n)))) (hsz : ie.size = 1) (hb : 0 ≤ n ∧ n < m)
    (hK : K ⟨(d, .ptr id n.toNat) :: sl, ob⟩) : OpOk C o K ⟨sl, ob⟩ :=
  ok_indexAddrA ho hd hn hi hik hie hx hy hsz hb (by rw [Nat.zero_add, Nat.mul_one]; exact hK)

/-- A cell of a row that is written. -/
theorem ok_loadM {α : Type} (dflt : α) {t : TypeId} {x : Operand} {i : TI} {id k : Nat} {f : α → PV} {l : List α} (ho : o.op = .load t x) (hd : o.dst = some d) (hn : Nat.blt d C.n = true)
    (hi : look C.tt t = some i) (hia : i.k.isAgg = false) (hx : evo sl x = some (.ptr id k)) (hob : look ob id = some ((l.map f).map .p)) (hk : k < l.length) (hK : K ⟨(d, .p (f (l.getD k dflt))) :: sl, ob⟩) : OpOk C o K ⟨sl, ob⟩ :=
  ok_loadP1 ho hd hn hi hia hx hob (by rw [List.getElem?_map, map_get f l k dflt hk]; rfl) hK

theorem ok_storeM {α : Type} {t : TypeId} {x v : Operand} {i : TI} {id k : Nat} {f : α → PV} {l : List α} {b : α} (ho : o.op = .store t x v) (hd : o.dst = none)
    (hi : look C.tt t = some i) (his : i.size = 1) (hx : evo sl x = some (.ptr id k)) (hob : look ob id = some ((l.map f).map .p)) (hv : evo sl v = some (.p (f b))) (hc : AV.cellsA (.p (f b)) = some [.p (f b)]) (hk : k < l.length)
    (hK : K ⟨sl, (id, ((l.set k b).map f).map .p) :: ob⟩) : OpOk C o K ⟨sl, ob⟩ := by
  refine ok_store ho hd hi hx hv hc (by rw [his]; rfl) hob (by simp; omega) ?_
  have : updL ((l.map f).map .p) k [.p (f b)] = ((l.set k b).map f).map .p := by
    simp [updL, List.map_set]
  rw [this]; exact hK

theorem ok_max {t t' : TypeId} {x y : Operand} {k : IntKind} {a b : Int} (ho : o.op = .call { callee := .builtin .max, args := #[x, y], argTypes := #[t, t'] }) (hd : o.dst = some d) (hn : Nat.blt d C.n = true)
    (hx : evo sl x = some (.p (.val (.int k a)))) (hy : evo sl y = some (.p (.val (.int k b))))
    (hK : K ⟨(d, .p (.val (.int k (if a < b then b else a)))) :: sl, ob⟩) : OpOk C o K ⟨sl, ob⟩ :=
  ok_one hd hn (fun g c w hs => ⟨_, by
    rw [run_builtin ho]
    simp [builtin, evo_val hs hx, evo_val hs hy, Builtin.max_, Builtin.max2], .p (.val _)⟩) hK

/-- A call of a function that has no Go text, and hands back a number or the like. -/
theorem ok_callX {f : FuncId} {args : Array Operand} {ts : Array TypeId} {l : List AV} {vs : List Value} {r : Value} (ho : o.op = .call { callee := .value (.func f), args := args, argTypes := ts })
    (hd : o.dst = some d) (hn : Nat.blt d C.n = true) (hl : argsA sl args.toList = some l) (hv : l = vs.map fun v => .p (.val v)) (hX : ∀ w, (callFunc f vs.toArray).run C.P w = .ok (.value r) w)
    (hK : K ⟨(d, .p (.val r)) :: sl, ob⟩) : OpOk C o K ⟨sl, ob⟩ := by
  refine ok_one hd hn (fun g a w hs => ⟨r, ?_, .p (.val _)⟩) hK
  obtain ⟨a1, a2⟩ := argsA_spec hs _ l hl
  have e : args.map a.eval = vs.toArray := by
    apply Array.ext'
    rw [Array.toList_map]
    apply List.ext_getElem?
    intro j
    subst hv
    rcases Nat.lt_or_ge j vs.length with h | h
    · have hj : j < args.toList.length := by simp at a1; simpa [← a1] using h
      have h1 := a2 j (.p (.val vs[j])) (a.eval args.toList[j]) (by simp [h]) (by simp at hj ⊢; simp [hj])
      have h2 := val_inv h1
      simp only [List.getElem?_map, List.getElem?_eq_getElem hj, List.getElem?_eq_getElem h, Option.map_some, h2]
    · have hj : args.toList.length ≤ j := by simp at a1; simpa [← a1] using h
      rw [List.getElem?_eq_none (by simpa using hj), List.getElem?_eq_none (by simpa using h)]
  simp [execOp, ho, resolve, Act.eval, Deferred.ofValue, invoke, e, hX]

/-- A result that is known, of a call that is handed objects. -/
theorem ok_callOP (ids : List Nat) (NB NE : Nat) {f : FuncId} {args : Array Operand} {ts : Array TypeId} {l l' q : List AV} {obs obs0 qo rob ob' : List (Nat × List AV)} {r r' : AV} (hc : OCalls C.P f q qo (fun x y => x = r ∧ y = rob)) (ho : o.op = .call { callee := .value (.func f), args := args, argTypes := ts })
    (hd : o.dst = some d) (hn : Nat.blt d C.n = true) (hl : argsA sl args.toList = some l) (hl' : AV.mapA.go (passM ids) l = some l') (hq : subsA l' q) (hpk : pickO ob ids = some obs) (hmo : mapO (passM ids) obs = some obs0) (hqo : leO obs0 qo)
    (hnd : nodupB ids = true) (hids : ids.all (fun i => Nat.blt i M1) = true) (hil : Nat.ble ids.length M1 = true) (hdl : Nat.ble NE M1 = true) (hdis : ids.all (fun i => !(Nat.ble NB i && Nat.blt i NE)) = true)
    (henter : ∀ vs w, (callFunc f vs).run C.P w = .ok (.enter f vs) w) (hr : r.mapA (backM ids NB NE) = some r') (hob : mapO (backM ids NB NE) rob = some ob')
    (hK : K ⟨(d, r') :: (demS (fun i => Nat.ble NB i && Nat.blt i NE) ⟨sl, ob⟩).sl, ob' ++ (demS (fun i => Nat.ble NB i && Nat.blt i NE) ⟨sl, ob.filter fun p => !(ids.any (Nat.beq p.1))⟩).ob⟩) : OpOk C o K ⟨sl, ob⟩ :=
  ok_callO ids NB NE hc ho hd hn hl hl' hq hpk hmo hqo hnd hids hil hdl hdis henter fun x y ⟨e1, e2⟩ => by
    subst e1 e2
    exact ⟨r', ob', hr, hob, hK⟩

end

theorem PCalls.of_sub {P : Program} {f : FuncId} {args : List PV} {r : AV} (h : PCalls P f args (fun x => x.sub r)) : PCalls P f args (· = r) :=
  fun w st vs h0 h1 h2 => (h w st vs h0 h1 h2).mono fun e w' ⟨v, x, g', h3, h4, h5, h6⟩ => ⟨v, r, g', h3, rfl, h4 _ _ _ h5, h6⟩

/-- A function's contract, its result known, by a walk of its body. -/
theorem pbody {P : Program} {tt : List (Nat × TI)} (good : TyGood P tt) {f : FuncId} {fn : Func} {c : Code} {args : List PV} {r : AV} (hf : P.funcs[f]? = some fn) (hb : fn.body = some c) (hn : Nat.ble args.length fn.ntmps = true) (hnl : Nat.ble fn.ntmps M1 = true)
    (h : ∀ w0, awp ⟨P, tt, good, fn.ntmps, hnl, w0, fun b => b < w0.w.heap.size⟩ c (retQ fn (fun x => x.sub r)) ⟨argSlots args, []⟩) : PCalls P f args (· = r) :=
  PCalls.of_sub (pcalls_of_body good hf hb (Nat.le_of_ble_eq_true hn) hnl h)

theorem mapA_go_p {m : Nat → Option Nat} : ∀ (l : List PV), AV.mapA.go m (l.map .p) = some (l.map .p)
  | [] => rfl
  | x :: r => by simp only [List.map_cons, AV.mapA.go, AV.mapA, mapA_go_p r]

theorem demL_p (D : Nat → Bool) : ∀ (l : List PV), demL D (l.map .p) = l.map .p
  | [] => rfl
  | x :: r => by simp only [List.map_cons, demL, AV.dem, demL_p D r]

def demOb (D : Nat → Bool) (ob : List (Nat × List AV)) : List (Nat × List AV) := (ob.filter fun p => !D p.1).map fun p => (p.1, demL D p.2)
theorem demOb_nil (D : Nat → Bool) : demOb D [] = [] := rfl
theorem demOb_keep {D : Nat → Bool} {i : Nat} {cs cs' : List AV} {r r' : List (Nat × List AV)} (h : D i = false) (hc : demL D cs = cs') (hr : demOb D r = r') : demOb D ((i, cs) :: r) = (i, cs') :: r' := by
  subst hc hr
  simp only [demOb, List.filter_cons, h, Bool.not_false, if_true, List.map_cons]
theorem demOb_drop {D : Nat → Bool} {i : Nat} {cs : List AV} {r r' : List (Nat × List AV)} (h : D i = true) (hr : demOb D r = r') : demOb D ((i, cs) :: r) = r' := by
  subst hr
  simp only [demOb, List.filter_cons, h, Bool.not_true, Bool.false_eq_true, if_false]

theorem mapO_cons {m : Nat → Option Nat} {i j : Nat} {cs l : List AV} {r q : List (Nat × List AV)} (h1 : m i = some j) (h2 : AV.mapA.go m cs = some l) (h3 : mapO m r = some q) : mapO m ((i, cs) :: r) = some ((j, l) :: q) := by
  simp only [mapO, h1, h2, h3]

theorem ok_makeO {C : Cx} {o : Oper} {K : AS → Prop} {sl : List (Nat × AV)} {ob ob' : List (Nat × List AV)} {d : Nat} {t e : Nat} {x y : Operand} {i ie : TI} {k k' : IntKind} {n : Int} {z : Value} (ho : o.op = .makeSlice t x y) (hd : o.dst = some d) (hn : Nat.blt d C.n = true)
    (hi : look C.tt t = some i) (hik : i.k = .slice e) (hie : look C.tt e = some ie) (hs1 : ie.size = 1) (hz : ie.zero = [z]) (hx : evo sl x = some (.p (.val (.int k n)))) (hy : evo sl y = some (.p (.val (.int k' n))))
    (hb : 0 ≤ n ∧ n ≤ 9223372036854775807 ∧ (ie.bytes : Int) * n ≤ 281474976710656) (hdo : demOb (fun i => Nat.beq i d) ob = ob')
    (hK : K ⟨(d, .arr d 1 0 n.toNat) :: (demS (fun i => Nat.beq i d) ⟨sl, ob⟩).sl, (d, (List.replicate n.toNat (.val z)).map .p) :: ob'⟩) : OpOk C o K ⟨sl, ob⟩ :=
  ok_make ho hd hn hi hik hie hs1 hz hx hy hb (by subst hdo; exact hK)

theorem subL_refl : ∀ (l : List AV), subL l l
  | [] => trivial
  | x :: r => ⟨AV.sub_refl x, subL_refl r⟩
theorem subL_of_eq {l q : List AV} (h : l = q) : subL l q := h ▸ subL_refl l

end Go.Ab

namespace Go.Ab

def cmpB : BinOp → Bool → Bool → Option Bool
  | .eql, a, b => some (a == b)
  | .neq, a, b => some (!(a == b))
  | _, _, _ => none

theorem run_equalIn_bool {P : Program} (w : World) (d : Nat) (t : TypeId) (a b : Bool) (h : P.underlying t = some .bool) : (Op.equalIn (d + 1) t (.bool a) (.bool b)).run P w = .ok (a == b) w := by
  simp [Op.equalIn, run_underlying h]

theorem run_equal_bool {P : Program} (w : World) (t : TypeId) (a b : Bool) (h : P.underlying t = some .bool) : (Op.equal t (.bool a) (.bool b)).run P w = .ok (a == b) w := run_equalIn_bool w 9999 t a b h

theorem eqGuard_bool {P : Program} {w : World} (op : BinOp) (t : TypeId) (x y : Operand) (a b : Bool) :
    (eqGuard op t x y (.bool a) (.bool b)).run P w = .ok () w := by
  unfold eqGuard; split <;> rfl

section
variable {C : Cx} {o : Oper} {K : AS → Prop} {sl : List (Nat × AV)} {ob : List (Nat × List AV)} {d : Nat}

theorem ok_cmpB {op : BinOp} {t t' : TypeId} {x y : Operand} {i : TI} {a b c : Bool} (ho : o.op = .binOp op t x y t') (hd : o.dst = some d) (hn : Nat.blt d C.n = true)
    (hi : look C.tt t = some i) (hik : i.k = .bool)
    (hx : evo sl x = some (.p (.val (.bool a)))) (hy : evo sl y = some (.p (.val (.bool b)))) (hc : cmpB op a b = some c)
    (hK : K ⟨(d, .p (.val (.bool c))) :: sl, ob⟩) : OpOk C o K ⟨sl, ob⟩ := by
  obtain ⟨u, h1, h2⟩ := und_of C.good hi
  have h3 := kind_bool (h2.trans hik)
  subst h3
  refine ok_one hd hn (fun g w' w hs => ⟨_, ?_, .p (.val _)⟩) hK
  cases op <;> simp only [cmpB, Option.some.injEq, reduceCtorEq] at hc <;> subst hc <;>
    simp [execOp, ho, evo_val hs hx, evo_val hs hy, eqGuard_bool, binOp, run_equal_bool _ _ _ _ h1]
end

/-- What was there is as it was; new blocks of any kind may lie behind it. -/
structure Kept (W w' : World) : Prop where
  frame : ∀ may : MemPlace → Prop, W.keptBut w' may
  frozen : ∀ a : Addr, a.block < W.heap.size → w'.frozen? a = W.frozen? a
  size : W.heap.size ≤ w'.heap.size
  block : ∀ b, b < W.heap.size → w'.heap[b]? = W.heap[b]?

theorem After.kept {w w' : World} {st : Nat → Nat → Prop} {g' : Gh} (h : After w st w' g') : Kept w w' := by
  refine ⟨fun may => ⟨h.os, h.out, fun i hi => ?_⟩, fun a hb => ?_, h.size, h.fr⟩
  · rw [h.fr i hi]
    rw [Array.getElem?_eq_getElem hi]
    cases w.heap[i] <;> simp
  · simp only [World.frozen?, h.fr _ hb]

theorem str_of (a : ByteArray) : str a.data.toList = a := by
  cases a; rfl

/-- From a contract to the walk of a row whose parameters are texts, whole numbers and truth values. -/
theorem grown_of {P : Program} {f : FuncId} {args : List PV} {vs : Array Value} {b : Bool} (h : PCalls P f args (· = .p (.val (.bool b)))) (w : World) (hgl : GlobOk w (fun b _ => b < w.heap.size)) (hsz : vs.size = args.length)
    (ha : ∀ (i : Nat) c v, args[i]? = some c → vs[i]? = some v → PRep w (fun b _ => b < w.heap.size) c v) :
    Calls P f vs w fun e w' => e = .returned (.bool b) ∧ Kept w w' := by
  refine (h w (fun b _ => b < w.heap.size) vs ⟨fun b o h => h, hgl⟩ hsz ha).mono ?_
  rintro e w' ⟨v, r, g', rfl, rfl, hr, hA⟩
  cases hr with | p h => cases h; exact ⟨rfl, hA.kept⟩

end Go.Ab

namespace Go.Ab

def RepL (w : World) (st : Nat → Nat → Prop) : List PV → List Value → Prop
  | [], [] => True
  | c :: cs, v :: vs => PRep w st c v ∧ RepL w st cs vs
  | _, _ => False

theorem repL_get {w : World} {st : Nat → Nat → Prop} : ∀ {cs : List PV} {vs : List Value}, RepL w st cs vs → ∀ (i : Nat) c v, cs[i]? = some c → vs[i]? = some v → PRep w st c v
  | [], [], _, i, c, v, h, _ => by simp at h
  | c0 :: cs, v0 :: vs, hr, 0, c, v, h1, h2 => by
    simp only [List.getElem?_cons_zero, Option.some.injEq] at h1 h2
    subst h1 h2; exact hr.1
  | c0 :: cs, v0 :: vs, hr, i + 1, c, v, h1, h2 => by
    simp only [List.getElem?_cons_succ] at h1 h2
    exact repL_get hr.2 i c v h1 h2
  | [], _ :: _, hr, _, _, _, _, _ => hr.elim
  | _ :: _, [], hr, _, _, _, _, _ => hr.elim

theorem prep_str {w : World} {st : Nat → Nat → Prop} (a : ByteArray) : PRep w st (.val (.string (str a.data.toList))) (.string a) := by
  have h : PRep w st (.val (.string (str a.data.toList))) (.string (str a.data.toList)) := .val _
  rwa [str_of a] at h

theorem grown_row {P : Program} {f : FuncId} {args : List PV} {vs : List Value} {b : Bool} (h : PCalls P f args (· = .p (.val (.bool b)))) (w : World) (hgl : GlobOk w (fun b _ => b < w.heap.size)) (hsz : vs.length = args.length)
    (ha : RepL w (fun b _ => b < w.heap.size) args vs) : Calls P f vs.toArray w fun e w' => e = .returned (.bool b) ∧ Kept w w' :=
  grown_of h w hgl (by simpa using hsz) fun i c v h1 h2 => repL_get ha i c v h1 (by simpa using h2)

end Go.Ab
