/- A layer of abstract values over the model's worlds, part C: operations that leave memory alone, and calls by contract. It holds for every program. -/
import Derived.Test.YtapfhipodpbflaaGreatDoorAbB
set_option linter.unusedVariables false
set_option linter.unusedSimpArgs false
set_option linter.unnecessarySimpa false
namespace Go.Ab

def csto : Value → Option PV
  | .slice none 0 0 => some (.val (.slice none 0 0))
  | .agg vs => some (cst (.agg vs))
  | .bool b => some (.val (.bool b))
  | .int k n => some (.val (.int k n))
  | .string s => some (.val (.string s))
  | .pointer none => some (.val (.pointer none))
  | .nilFunc => some (.val .nilFunc)
  | .nilIface => some (.val .nilIface)
  | _ => none

def evo (sl : List (Nat × AV)) : Operand → Option AV
  | .tmp t => look sl t
  | .const v => (csto v).map .p
  | .func f => some (.func (.func f) [])
  | .global g => (globTab g).map .rptr

theorem csto_eq {v : Value} {x : PV} (h : csto v = some x) : cst v = x := by
  unfold csto at h
  split at h <;> first | (cases h; rfl) | (cases h)

theorem evo_rep {n : Nat} {w0 : Base} {w : World} {F : Nat → Prop} {g : Gh} {sl : List (Nat × AV)} {ob : List (Nat × List AV)} {a : Act} (h : St n w0 F g ⟨sl, ob⟩ a w) {x : Operand} {y : AV}
    (hx : evo sl x = some y) : ARep w g y (a.eval x) := by
  have h1 := ev_rep h x
  cases x with
  | tmp t =>
    simp only [evo] at hx
    simp only [AS.ev, AS.get, hx, Option.getD_some] at h1
    exact h1
  | const v =>
    simp only [evo, Option.map_eq_some_iff] at hx
    obtain ⟨z, h2, rfl⟩ := hx
    simp only [AS.ev, csto_eq h2] at h1
    exact h1
  | func f => simp only [evo, Option.some.injEq] at hx; subst hx; exact h1
  | global q =>
    simp only [evo, Option.map_eq_some_iff] at hx
    obtain ⟨cs, h2, rfl⟩ := hx
    simp only [AS.ev, h2, Option.map_some, Option.getD_some] at h1
    exact h1

theorem evo_val {n : Nat} {w0 : Base} {w : World} {F : Nat → Prop} {g : Gh} {sl : List (Nat × AV)} {ob : List (Nat × List AV)} {a : Act} (h : St n w0 F g ⟨sl, ob⟩ a w) {x : Operand} {v : Value}
    (hx : evo sl x = some (.p (.val v))) : a.eval x = v := val_inv (evo_rep h hx)

/-- Text, as a list of bytes. -/
def str (l : List UInt8) : ByteArray := ⟨l.toArray⟩
theorem str_size (l : List UInt8) : (str l).size = l.length := by simp [str, ByteArray.size]
theorem str_toList (l : List UInt8) : (str l).toList = l := ByteArray.toList_mk l
theorem str_append (a b : List UInt8) : str a ++ str b = str (a ++ b) := by
  simp [str, ByteArray.ext_iff]
theorem str_extract (l : List UInt8) (i j : Nat) : (str l).extract i j = str ((l.take j).drop i) := by
  rw [ByteArray.ext_iff]
  simp only [str, ByteArray.data_extract]
  rw [List.extract_toArray, List.extract_eq_take_drop, List.take_drop]
  by_cases h : i ≤ j
  · rw [Nat.add_sub_cancel' h]
  · rw [List.drop_eq_nil_of_le (by simp; omega), List.drop_eq_nil_of_le (by simp; omega)]
theorem str_get (l : List UInt8) (i : Nat) : (str l)[i]? = l[i]? := by
  by_cases h : i < l.length
  · have h2 : i < (str l).size := by rw [str_size]; exact h
    rw [getElem?_pos (str l) i h2, List.getElem?_eq_getElem h]; rfl
  · rw [getElem?_neg (str l) i (by rw [str_size]; exact h), List.getElem?_eq_none (by omega)]

section
variable {C : Cx} {o : Oper} {K : AS → Prop} {sl : List (Nat × AV)} {ob : List (Nat × List AV)} {d : Nat}

theorem ok_one {y : AV} (hd : o.dst = some d) (hn : Nat.blt d C.n = true)
    (h : ∀ g a w, St C.n C.w0 C.F g ⟨sl, ob⟩ a w → ∃ v, (execOp a.eval o).run C.P w = .ok (.value v) w ∧ ARep w g y v)
    (hK : K ⟨(d, y) :: sl, ob⟩) : OpOk C o K ⟨sl, ob⟩ := by
  intro g a w hs
  obtain ⟨v, h1, h2⟩ := h g a w hs
  unfold Oper.wp
  rw [h1]
  refine ⟨g, ⟨(d, y) :: sl, ob⟩, ?_, hK⟩
  have := hs.put (d := o.dst) (fun t ht => by rw [hd] at ht; cases ht; exact Nat.blt_eq ▸ hn) h2
  rw [hd] at this ⊢
  exact this

theorem ok_move {x : Operand} {y : AV} (ho : o.op = .move x) (hd : o.dst = some d) (hn : Nat.blt d C.n = true) (hx : evo sl x = some y)
    (hK : K ⟨(d, y) :: sl, ob⟩) : OpOk C o K ⟨sl, ob⟩ :=
  ok_one hd hn (fun g a w hs => ⟨a.eval x, by simp [execOp, ho], evo_rep hs hx⟩) hK

theorem ok_assign {x : Operand} {y : AV} (ho : o.op = .assign x) (hd : o.dst = some d) (hn : Nat.blt d C.n = true) (hx : evo sl x = some y)
    (hK : K ⟨(d, y) :: sl, ob⟩) : OpOk C o K ⟨sl, ob⟩ :=
  ok_one hd hn (fun g a w hs => ⟨a.eval x, by simp [execOp, ho], evo_rep hs hx⟩) hK

/-- A slot of which nothing is known is moved. -/
theorem ok_move_any {x : Operand} (ho : o.op = .move x) (hd : o.dst = some d) (hn : Nat.blt d C.n = true)
    (hK : K ⟨(d, .undef) :: sl, ob⟩) : OpOk C o K ⟨sl, ob⟩ :=
  ok_one hd hn (fun g a w hs => ⟨a.eval x, by simp [execOp, ho], .undef _⟩) hK

theorem ok_pick_true {c x y : Operand} {b : Bool} {z : AV} (ho : o.op = .pick c x y) (hd : o.dst = some d) (hn : Nat.blt d C.n = true)
    (hc : evo sl c = some (.p (.val (.bool b)))) (hb : b = true) (hx : evo sl x = some z) (hK : K ⟨(d, z) :: sl, ob⟩) : OpOk C o K ⟨sl, ob⟩ :=
  ok_one hd hn (fun g a w hs => ⟨a.eval x, by simp [execOp, ho, evo_val hs hc, asBool, hb], evo_rep hs hx⟩) hK

theorem ok_pick_false {c x y : Operand} {b : Bool} {z : AV} (ho : o.op = .pick c x y) (hd : o.dst = some d) (hn : Nat.blt d C.n = true)
    (hc : evo sl c = some (.p (.val (.bool b)))) (hb : b = false) (hx : evo sl y = some z) (hK : K ⟨(d, z) :: sl, ob⟩) : OpOk C o K ⟨sl, ob⟩ :=
  ok_one hd hn (fun g a w hs => ⟨a.eval y, by simp [execOp, ho, evo_val hs hc, asBool, hb], evo_rep hs hx⟩) hK

/-! ### Numbers -/
def cmpI : BinOp → Int → Int → Option Bool
  | .eql, a, b => some (decide (a = b))
  | .neq, a, b => some (!decide (a = b))
  | .lss, a, b => some (decide (a < b))
  | .leq, a, b => some (decide (a ≤ b))
  | .gtr, a, b => some (decide (b < a))
  | .geq, a, b => some (decide (b ≤ a))
  | _, _, _ => none

theorem eqGuard_int {P : Program} {w : World} (op : BinOp) (t : TypeId) (x y : Operand) (k k' : IntKind) (a b : Int) :
    (eqGuard op t x y (.int k a) (.int k' b)).run P w = .ok () w := by
  unfold eqGuard; split <;> rfl

theorem binOp_int {P : Program} {w : World} {op : BinOp} {t : TypeId} {k : IntKind} {a b : Int} {c : Bool} (h : cmpI op a b = some c) :
    (binOp op t (.int k a) (.int k b)).run P w = .ok (.bool c) w := by
  cases op <;> simp only [cmpI, Option.some.injEq, reduceCtorEq] at h <;> subst h <;> simp [binOp, Op.intCmp] <;> rfl

theorem ok_cmp {op : BinOp} {t t' : TypeId} {x y : Operand} {k : IntKind} {a b : Int} {c : Bool} (ho : o.op = .binOp op t x y t') (hd : o.dst = some d) (hn : Nat.blt d C.n = true)
    (hx : evo sl x = some (.p (.val (.int k a)))) (hy : evo sl y = some (.p (.val (.int k b)))) (hc : cmpI op a b = some c)
    (hK : K ⟨(d, .p (.val (.bool c))) :: sl, ob⟩) : OpOk C o K ⟨sl, ob⟩ :=
  ok_one hd hn (fun g a w hs => ⟨_, by
    simp only [execOp, ho, evo_val hs hx, evo_val hs hy, Sem.run_bind, eqGuard_int, Result.andThen_ok, binOp_int hc, Sem.run_pure], .p (.val _)⟩) hK

def arI : BinOp → Int → Int → Option Int
  | .add, a, b => some (a + b)
  | .sub, a, b => some (a - b)
  | .mul, a, b => some (a * b)
  | _, _, _ => none

theorem binOp_ar {P : Program} {w : World} {op : BinOp} {t : TypeId} {k : IntKind} {a b c : Int} (h : arI op a b = some c) :
    (binOp op t (.int k a) (.int k b)).run P w = .ok (.int k (k.wrap c)) w := by
  cases op <;> simp only [arI, Option.some.injEq, reduceCtorEq] at h <;> subst h <;> simp [binOp, Op.intArith]

theorem ok_arw {op : BinOp} {t t' : TypeId} {x y : Operand} {k : IntKind} {a b c : Int} (ho : o.op = .binOp op t x y t') (hd : o.dst = some d) (hn : Nat.blt d C.n = true)
    (hx : evo sl x = some (.p (.val (.int k a)))) (hy : evo sl y = some (.p (.val (.int k b)))) (hc : arI op a b = some c)
    (hK : K ⟨(d, .p (.val (.int k (k.wrap c)))) :: sl, ob⟩) : OpOk C o K ⟨sl, ob⟩ :=
  ok_one hd hn (fun g a w hs => ⟨_, by
    simp only [execOp, ho, evo_val hs hx, evo_val hs hy, Sem.run_bind, eqGuard_int, Result.andThen_ok, binOp_ar hc, Sem.run_pure], .p (.val _)⟩) hK

/-- ints that do not wrap -/
theorem ok_ar {op : BinOp} {t t' : TypeId} {x y : Operand} {a b c : Int} (ho : o.op = .binOp op t x y t') (hd : o.dst = some d) (hn : Nat.blt d C.n = true)
    (hx : evo sl x = some (.p (.val (.int .i64 a)))) (hy : evo sl y = some (.p (.val (.int .i64 b)))) (hc : arI op a b = some c)
    (hw : -9223372036854775808 ≤ c ∧ c ≤ 9223372036854775807)
    (hK : K ⟨(d, .p (.val (.int .i64 c))) :: sl, ob⟩) : OpOk C o K ⟨sl, ob⟩ :=
  ok_arw ho hd hn hx hy hc (by rw [IntWalk.i64_in c hw]; exact hK)

theorem ok_not {t : TypeId} {x : Operand} {b : Bool} (ho : o.op = .unOp .not t x) (hd : o.dst = some d) (hn : Nat.blt d C.n = true)
    (hx : evo sl x = some (.p (.val (.bool b)))) (hK : K ⟨(d, .p (.val (.bool (!b)))) :: sl, ob⟩) : OpOk C o K ⟨sl, ob⟩ :=
  ok_one hd hn (fun g a w hs => ⟨_, by simp [execOp, ho, evo_val hs hx, Op.unary], .p (.val _)⟩) hK

theorem ok_neg {t : TypeId} {x : Operand} {a : Int} (ho : o.op = .unOp .neg t x) (hd : o.dst = some d) (hn : Nat.blt d C.n = true)
    (hx : evo sl x = some (.p (.val (.int .i64 a)))) (hw : -9223372036854775808 ≤ 0 - a ∧ 0 - a ≤ 9223372036854775807)
    (hK : K ⟨(d, .p (.val (.int .i64 (0 - a)))) :: sl, ob⟩) : OpOk C o K ⟨sl, ob⟩ :=
  ok_one hd hn (fun g b w hs => ⟨_, by simp only [execOp, ho, evo_val hs hx, Op.unary, Op.intArith, Sem.run_bind, Sem.run_pure, Result.andThen_ok]; rw [IntWalk.i64_in _ hw], .p (.val _)⟩) hK

theorem und_of {P : Program} {tt : List (Nat × TI)} (good : TyGood P tt) {t : Nat} {i : TI} (h : look tt t = some i) : ∃ u, P.underlying t = some u ∧ kindOf u = i.k := by
  have := (good.at h).1
  simpa [Option.map_eq_some_iff] using this

theorem kind_bool {u : TypeDesc} (h : kindOf u = .bool) : u = .bool := by cases u <;> simp [kindOf] at h; rfl
theorem kind_int {u : TypeDesc} {k : IntKind} (h : kindOf u = .int k) : u = .int k := by cases u <;> simp [kindOf] at h; subst h; rfl
theorem kind_string {u : TypeDesc} (h : kindOf u = .string) : u = .string := by cases u <;> simp [kindOf] at h; rfl
theorem kind_ptr {u : TypeDesc} {e : Nat} (h : kindOf u = .ptr e) : u = .pointer e := by cases u <;> simp [kindOf] at h; subst h; rfl
theorem kind_slice {u : TypeDesc} {e : Nat} (h : kindOf u = .slice e) : u = .slice e := by cases u <;> simp [kindOf] at h; subst h; rfl
theorem kind_struct {u : TypeDesc} {fs : List (Nat × Nat)} (h : kindOf u = .struct fs) : ∃ f, u = .struct f ∧ f.toList.map (fun f => (f.offset, f.type)) = fs := by
  cases u <;> simp [kindOf] at h; exact ⟨_, rfl, h⟩

theorem ok_convInt {st dt : TypeId} {x : Operand} {k k' : IntKind} {a : Int} {i j : TI} (ho : o.op = .convert st dt x) (hd : o.dst = some d) (hn : Nat.blt d C.n = true)
    (hi : look C.tt st = some i) (hik : i.k = .int k') (hj : look C.tt dt = some j) (hjk : j.k = .int k) (hx : evo sl x = some (.p (.val (.int k' a)))) (hw : k.wrap a = a)
    (hK : K ⟨(d, .p (.val (.int k a))) :: sl, ob⟩) : OpOk C o K ⟨sl, ob⟩ := by
  obtain ⟨u, h1, h2⟩ := und_of C.good hj
  have h3 := kind_int (h2.trans hjk)
  obtain ⟨u', h1', h2'⟩ := und_of C.good hi
  have h3' := kind_int (h2'.trans hik)
  subst h3 h3'
  exact ok_one hd hn (fun g b w hs => ⟨_, by simp [execOp, ho, evo_val hs hx, convert, run_underlying h1, run_underlying h1', Conv.intToInt, hw], .p (.val _)⟩) hK

/-! ### Text -/
theorem eqGuard_str {P : Program} {w : World} (op : BinOp) (t : TypeId) (x y : Operand) (a b : ByteArray) :
    (eqGuard op t x y (.string a) (.string b)).run P w = .ok () w := by
  unfold eqGuard; split <;> rfl

theorem ok_concat {t t' : TypeId} {x y : Operand} {a b : List UInt8} (ho : o.op = .binOp .add t x y t') (hd : o.dst = some d) (hn : Nat.blt d C.n = true)
    (hx : evo sl x = some (.p (.val (.string (str a))))) (hy : evo sl y = some (.p (.val (.string (str b))))) (hw : a.length + b.length ≤ 9223372036854775807)
    (hK : K ⟨(d, .p (.val (.string (str (a ++ b))))) :: sl, ob⟩) : OpOk C o K ⟨sl, ob⟩ :=
  ok_one hd hn (fun g c w hs => ⟨_, by
    have : ¬ (((str a).size + (str b).size : Nat) : Int) > IntKind.i64.max := by
      rw [str_size, str_size]; simp only [IntKind.max, IntKind.bits, IntKind.signed]; simp; omega
    simp only [execOp, ho, evo_val hs hx, evo_val hs hy, Sem.run_bind, eqGuard_str, Result.andThen_ok, binOp, Op.stringOp, if_neg this, Sem.run_pure, str_append], .p (.val _)⟩) hK

def cmpS : BinOp → List UInt8 → List UInt8 → Option Bool
  | .eql, a, b => some (decide (a = b))
  | .neq, a, b => some (!decide (a = b))
  | .lss, a, b => some (Op.bytesLess a b)
  | .leq, a, b => some (Op.bytesLess a b || decide (a = b))
  | .gtr, a, b => some (!(Op.bytesLess a b || decide (a = b)))
  | .geq, a, b => some (!Op.bytesLess a b)
  | _, _, _ => none

theorem binOp_str {P : Program} {w : World} {op : BinOp} {t : TypeId} {a b : List UInt8} {c : Bool} (h : cmpS op a b = some c) :
    (binOp op t (.string (str a)) (.string (str b))).run P w = .ok (.bool c) w := by
  have e : (a == b) = decide (a = b) := by rw [Bool.eq_iff_iff]; simp
  cases op <;> simp only [cmpS, Option.some.injEq, reduceCtorEq] at h <;> subst h <;> simp only [binOp, Op.stringOp, str_toList, Sem.run_pure, e]

theorem ok_cmpS {op : BinOp} {t t' : TypeId} {x y : Operand} {a b : List UInt8} {c : Bool} (ho : o.op = .binOp op t x y t') (hd : o.dst = some d) (hn : Nat.blt d C.n = true)
    (hx : evo sl x = some (.p (.val (.string (str a))))) (hy : evo sl y = some (.p (.val (.string (str b))))) (hc : cmpS op a b = some c)
    (hK : K ⟨(d, .p (.val (.bool c))) :: sl, ob⟩) : OpOk C o K ⟨sl, ob⟩ :=
  ok_one hd hn (fun g a w hs => ⟨_, by
    simp only [execOp, ho, evo_val hs hx, evo_val hs hy, Sem.run_bind, eqGuard_str, Result.andThen_ok, binOp_str hc, Sem.run_pure], .p (.val _)⟩) hK

theorem run_len_string {P : Program} {w : World} {t : TypeId} (h : P.underlying t = some .string) (ty : TypeId) (s : ByteArray) :
    (Builtin.len_ #[t] ty #[.string s]).run P w = .ok (.int .i64 s.size) w := by
  simp [Builtin.len_, run_underlying h, goInt]

theorem run_builtin {P : Program} {w : World} {ρ : Operand → Value} {b : Builtin} {args : Array Operand} {ts : Array TypeId} (ho : o.op = .call { callee := .builtin b, args := args, argTypes := ts }) :
    (execOp ρ o).run P w = (builtin b ts o.type (args.map fun | .const _ => true | _ => false) (args.map ρ)).run P w := by
  simp [execOp, ho, resolve, invoke]
  rfl

theorem ok_lenS {t : TypeId} {x : Operand} {a : List UInt8} {i : TI} (ho : o.op = .call { callee := .builtin .len, args := #[x], argTypes := #[t] }) (hd : o.dst = some d) (hn : Nat.blt d C.n = true)
    (hi : look C.tt t = some i) (hik : i.k = .string) (hx : evo sl x = some (.p (.val (.string (str a)))))
    (hK : K ⟨(d, .p (.val (.int .i64 (a.length : Int)))) :: sl, ob⟩) : OpOk C o K ⟨sl, ob⟩ := by
  obtain ⟨u, h1, h2⟩ := und_of C.good hi
  have h3 := kind_string (h2.trans hik)
  subst h3
  exact ok_one hd hn (fun g b w hs => ⟨_, by
    rw [run_builtin ho]
    simp [builtin, evo_val hs hx, run_len_string h1, str_size], .p (.val _)⟩) hK

theorem ok_indexS {t : TypeId} {x y : Operand} {a : List UInt8} {k : IntKind} {j : Int} {i : TI} (ho : o.op = .index t x y) (hd : o.dst = some d) (hn : Nat.blt d C.n = true)
    (hi : look C.tt t = some i) (hik : i.k = .string) (hx : evo sl x = some (.p (.val (.string (str a))))) (hy : evo sl y = some (.p (.val (.int k j))))
    (hj : 0 ≤ j ∧ j < a.length)
    (hK : K ⟨(d, .p (.val (.int .u8 ((a.getD j.toNat 0).toNat : Int)))) :: sl, ob⟩) : OpOk C o K ⟨sl, ob⟩ := by
  obtain ⟨u, h1, h2⟩ := und_of C.good hi
  have h3 := kind_string (h2.trans hik)
  subst h3
  refine ok_one hd hn (fun g b w hs => ⟨_, ?_, .p (.val _)⟩) hK
  have hlt : j.toNat < a.length := by omega
  have e : (str a)[j.toNat]? = some (a.getD j.toNat 0) := by
    rw [str_get, List.getD_eq_getElem?_getD, List.getElem?_eq_getElem hlt]; rfl
  simp [execOp, ho, evo_val hs hx, evo_val hs hy, Instr.index, asIntOf, run_underlying h1, hj.1, e]

/-- The bounds of s[lo:hi]. -/
def loI (sl : List (Nat × AV)) : Option Operand → Option Int
  | none => some 0
  | some x => match evo sl x with | some (.p (.val (.int _ n))) => some n | _ => none
def hiI (sl : List (Nat × AV)) (len : Int) : Option Operand → Option Int
  | none => some len
  | some x => match evo sl x with | some (.p (.val (.int _ n))) => some n | _ => none

theorem loI_some {x : Operand} {n : Int} (h : loI sl (some x) = some n) : ∃ k, evo sl x = some (.p (.val (.int k n))) := by
  unfold loI at h; split at h
  · rename_i e; cases e
  · rename_i y e; simp only [Option.some.injEq] at e; subst e; split at h <;> first | (cases h; exact ⟨_, ‹_›⟩) | (cases h)
theorem hiI_some {x : Operand} {len n : Int} (h : hiI sl len (some x) = some n) : ∃ k, evo sl x = some (.p (.val (.int k n))) := by
  unfold hiI at h; split at h
  · rename_i e; cases e
  · rename_i y e; simp only [Option.some.injEq] at e; subst e; split at h <;> first | (cases h; exact ⟨_, ‹_›⟩) | (cases h)

theorem run_sliceBound {P : Program} {w : World} (k : IntKind) (n : Int) (y : Nat) (c : BoundsCode) (h : 0 ≤ n ∧ n ≤ y) :
    (Instr.sliceBound (.int k n) y c).run P w = .ok n.toNat w := by
  simp [Instr.sliceBound, asIntOf, h.1, h.2]

theorem run_bounds {P : Program} {g : Gh} {a : Act} {w : World} {w0 : Base} {n : Nat} {F : Nat → Prop} (hs : St n w0 F g ⟨sl, ob⟩ a w) (isS : Bool) (len cap : Nat) (lo hi : Option Operand) {l h : Int}
    (hl : loI sl lo = some l) (hh : hiI sl len hi = some h) (hb : 0 ≤ l ∧ l ≤ h ∧ h ≤ cap) (hlc : len ≤ cap) :
    (Instr.sliceBounds isS len cap (lo.map a.eval) (hi.map a.eval) none).run P w = .ok (l.toNat, h.toNat, cap) w := by
  have e1 : ∀ (c : BoundsCode), (Instr.sliceBound (.int .i64 0) cap c).run P w = .ok 0 w := fun c => run_sliceBound _ _ _ _ (by omega)
  cases lo with
  | none =>
    simp only [loI, Option.some.injEq] at hl; subst hl
    cases hi with
    | none =>
      simp only [hiI, Option.some.injEq] at hh; subst hh
      simp [Instr.sliceBounds]
    | some y =>
      obtain ⟨k, hy⟩ := hiI_some hh
      have := run_sliceBound (P := P) (w := w) k h cap (if isS then .sliceAcap else .sliceAlen) ⟨by omega, hb.2.2⟩
      simp [Instr.sliceBounds, evo_val hs hy, this]
  | some x =>
    obtain ⟨k, hx⟩ := loI_some hl
    cases hi with
    | none =>
      simp only [hiI, Option.some.injEq] at hh; subst hh
      have := run_sliceBound (P := P) (w := w) k l len .sliceB ⟨hb.1, by omega⟩
      simp [Instr.sliceBounds, evo_val hs hx, this]
    | some y =>
      obtain ⟨k', hy⟩ := hiI_some hh
      have e2 := run_sliceBound (P := P) (w := w) k' h cap (if isS then .sliceAcap else .sliceAlen) ⟨by omega, hb.2.2⟩
      have e3 := run_sliceBound (P := P) (w := w) k l h.toNat .sliceB ⟨hb.1, by omega⟩
      simp [Instr.sliceBounds, evo_val hs hx, evo_val hs hy, e2, e3]

theorem ok_sliceS {t : TypeId} {x : Operand} {lo hi : Option Operand} {a : List UInt8} {l h : Int} {i : TI} (ho : o.op = .slice t x lo hi none) (hd : o.dst = some d) (hn : Nat.blt d C.n = true)
    (hi' : look C.tt t = some i) (hik : i.k = .string) (hx : evo sl x = some (.p (.val (.string (str a))))) (hlo : loI sl lo = some l) (hhi : hiI sl (a.length : Int) hi = some h)
    (hb : 0 ≤ l ∧ l ≤ h ∧ h ≤ a.length)
    (hK : K ⟨(d, .p (.val (.string (str ((a.take h.toNat).drop l.toNat))))) :: sl, ob⟩) : OpOk C o K ⟨sl, ob⟩ := by
  obtain ⟨u, h1, h2⟩ := und_of C.good hi'
  have h3 := kind_string (h2.trans hik)
  subst h3
  refine ok_one hd hn (fun g b w hs => ⟨_, ?_, .p (.val _)⟩) hK
  have e := run_bounds (P := C.P) hs false (str a).size (str a).size lo hi hlo (by rw [str_size]; exact hhi) (by rw [str_size]; exact hb) (Nat.le_refl _)
  simp [execOp, ho, evo_val hs hx, Instr.sliceAt, Instr.slice, run_underlying h1, e, str_extract]

/-! ### Tuples, structs -/
theorem ok_extract {x : Operand} {k : Nat} {l : List AV} {y : AV} (ho : o.op = .extract x k) (hd : o.dst = some d) (hn : Nat.blt d C.n = true)
    (hx : evo sl x = some (.tuple l)) (hk : l[k]? = some y) (hK : K ⟨(d, y) :: sl, ob⟩) : OpOk C o K ⟨sl, ob⟩ := by
  refine ok_one hd hn (fun g b w hs => ?_) hK
  have h1 := evo_rep hs hx
  generalize hv : b.eval x = v at h1
  cases h1 with
  | tuple hl h =>
    rename_i vs
    have hlt : k < vs.size := by rw [hl]; exact (List.getElem?_eq_some_iff.1 hk).1
    exact ⟨vs[k], by simp [execOp, ho, hv, Instr.extract, hlt], h k y _ hk (Array.getElem?_eq_getElem hlt)⟩

end

/-! ### Ways part -/
theorem nd_true {p : Prop} [Decidable p] (h : ¬p) : (!decide p) = true := by simp [h]
theorem nd_false {p : Prop} [Decidable p] (h : p) : (!decide p) = false := by simp [h]

theorem evo_ev {s : AS} {x : Operand} {y : AV} (h : evo s.sl x = some y) : s.ev x = y := by
  cases x with
  | tmp t => simp only [evo] at h; simp only [AS.ev, AS.get, h, Option.getD_some]
  | const v =>
    simp only [evo, Option.map_eq_some_iff] at h
    obtain ⟨z, h2, rfl⟩ := h
    simp only [AS.ev, csto_eq h2]
  | func f => simp only [evo, Option.some.injEq] at h; exact h
  | global g =>
    simp only [evo, Option.map_eq_some_iff] at h
    obtain ⟨cs, h2, rfl⟩ := h
    simp only [AS.ev, h2, Option.map_some, Option.getD_some]

section
variable {C : Cx} {c : Operand} {x y : Code} {Q : Exit → AS → Prop} {s : AS}
theorem wp_if {b : Bool} (hc : evo s.sl c = some (.p (.val (.bool b)))) (h1 : b = true → awp C x Q s) (h2 : b = false → awp C y Q s) : awp C (.cond c x y) Q s :=
  awp_cond (evo_ev hc) h1 h2
theorem wp_ifD {p : Prop} [Decidable p] (hc : evo s.sl c = some (.p (.val (.bool (decide p))))) (h1 : p → awp C x Q s) (h2 : ¬p → awp C y Q s) : awp C (.cond c x y) Q s :=
  wp_if hc (fun h => h1 (of_decide_eq_true h)) (fun h => h2 (of_decide_eq_false h))
theorem wp_ifN {p : Prop} [Decidable p] (hc : evo s.sl c = some (.p (.val (.bool (!decide p))))) (h1 : ¬p → awp C x Q s) (h2 : p → awp C y Q s) : awp C (.cond c x y) Q s :=
  wp_if hc (fun h => h1 (by simpa using h)) (fun h => h2 (by simpa using h))
theorem wp_ifT {b : Bool} (hc : evo s.sl c = some (.p (.val (.bool b)))) (hb : b = true) (h1 : awp C x Q s) : awp C (.cond c x y) Q s :=
  wp_if hc (fun _ => h1) (fun h => by rw [hb] at h; cases h)
theorem wp_ifF {b : Bool} (hc : evo s.sl c = some (.p (.val (.bool b)))) (hb : b = false) (h1 : awp C y Q s) : awp C (.cond c x y) Q s :=
  wp_if hc (fun h => by rw [hb] at h; cases h) (fun _ => h1)
end

section
variable {C : Cx} {ops : Array Oper} {K : AS → Prop} {sl : List (Nat × AV)} {ob : List (Nat × List AV)} {r : List Oper} {o : Oper} {j t d : Nat}
theorem gd_tt {b : Bool} (hg : o.guard = some (j, true)) (hj : (ops.toList[j]?).bind (·.dst) = some t) (hv : look sl t = some (.p (.val (.bool b)))) (hb : b = true)
    (h1 : OpOk C o (rwpL C ops r K) ⟨sl, ob⟩) : rwpL C ops (o :: r) K ⟨sl, ob⟩ := rwpL_guard_yes hg hj hv hb h1
theorem gd_ff {b : Bool} (hg : o.guard = some (j, false)) (hj : (ops.toList[j]?).bind (·.dst) = some t) (hv : look sl t = some (.p (.val (.bool b)))) (hb : b = false)
    (h1 : OpOk C o (rwpL C ops r K) ⟨sl, ob⟩) : rwpL C ops (o :: r) K ⟨sl, ob⟩ := rwpL_guard_yes hg hj hv hb h1
theorem gd_tf {b : Bool} (hg : o.guard = some (j, true)) (hj : (ops.toList[j]?).bind (·.dst) = some t) (hv : look sl t = some (.p (.val (.bool b)))) (hb : b = false)
    (hd : o.dst = some d) (hn : Nat.blt d C.n = true) (h1 : rwpL C ops r K ⟨(d, .p (.val Go.undef)) :: sl, ob⟩) : rwpL C ops (o :: r) K ⟨sl, ob⟩ := rwpL_guard_no hg hj hv hb hd hn h1
theorem gd_ft {b : Bool} (hg : o.guard = some (j, false)) (hj : (ops.toList[j]?).bind (·.dst) = some t) (hv : look sl t = some (.p (.val (.bool b)))) (hb : b = true)
    (hd : o.dst = some d) (hn : Nat.blt d C.n = true) (h1 : rwpL C ops r K ⟨(d, .p (.val Go.undef)) :: sl, ob⟩) : rwpL C ops (o :: r) K ⟨sl, ob⟩ := rwpL_guard_no hg hj hv hb hd hn h1
theorem gd_none {wt : Bool} (hg : o.guard = some (j, wt)) (hj : (ops.toList[j]?).bind (·.dst) = some t) (hv : look sl t = some (.p (.val (.tuple #[]))))
    (hd : o.dst = some d) (hn : Nat.blt d C.n = true) (h1 : rwpL C ops r K ⟨(d, .p (.val Go.undef)) :: sl, ob⟩) : rwpL C ops (o :: r) K ⟨sl, ob⟩ := rwpL_guard_none hg hj hv hd hn h1
/-- The test parts the ways. -/
theorem gd_D {p : Prop} [Decidable p] {wt : Bool} (hg : o.guard = some (j, wt)) (hj : (ops.toList[j]?).bind (·.dst) = some t) (hv : look sl t = some (.p (.val (.bool (decide p)))))
    (h1 : p → rwpL C ops (o :: r) K ⟨sl, ob⟩) (h2 : ¬p → rwpL C ops (o :: r) K ⟨sl, ob⟩) : rwpL C ops (o :: r) K ⟨sl, ob⟩ := by
  by_cases h : p
  · exact h1 h
  · exact h2 h
theorem gd_N {p : Prop} [Decidable p] {wt : Bool} (hg : o.guard = some (j, wt)) (hj : (ops.toList[j]?).bind (·.dst) = some t) (hv : look sl t = some (.p (.val (.bool (!decide p)))))
    (h1 : p → rwpL C ops (o :: r) K ⟨sl, ob⟩) (h2 : ¬p → rwpL C ops (o :: r) K ⟨sl, ob⟩) : rwpL C ops (o :: r) K ⟨sl, ob⟩ := by
  by_cases h : p
  · exact h1 h
  · exact h2 h
theorem gd_B {b : Bool} {wt : Bool} (hg : o.guard = some (j, wt)) (hj : (ops.toList[j]?).bind (·.dst) = some t) (hv : look sl t = some (.p (.val (.bool b))))
    (h1 : b = true → rwpL C ops (o :: r) K ⟨sl, ob⟩) (h2 : b = false → rwpL C ops (o :: r) K ⟨sl, ob⟩) : rwpL C ops (o :: r) K ⟨sl, ob⟩ := by
  cases b
  · exact h2 rfl
  · exact h1 rfl
end

/-! ### Less is said of a state, slot by slot -/
def leL (s : List (Nat × AV)) : List (Nat × AV) → Prop
  | [] => True
  | (j, x) :: r => (∃ y, look s j = some y ∧ y.sub x) ∧ leL s r

theorem leL_look {s : List (Nat × AV)} : ∀ {t : List (Nat × AV)}, leL s t → ∀ j x, look t j = some x → ∃ y, look s j = some y ∧ y.sub x
  | [], _, _, _, h => by simp [look] at h
  | (k, z) :: r, hl, j, x, h => by
    rw [look_cons] at h
    split at h
    · rename_i e; subst e; cases h; exact hl.1
    · exact leL_look hl.2 j x h

def subL : List AV → List AV → Prop
  | [], _ => True
  | _ :: _, [] => False
  | x :: r, y :: q => y.sub x ∧ subL r q

theorem subL_spec : ∀ {cs ds : List AV}, subL cs ds → cs.length ≤ ds.length ∧ ∀ (i : Nat) c d, cs[i]? = some c → ds[i]? = some d → d.sub c
  | [], ds, _ => ⟨Nat.zero_le _, fun i c d h => by simp at h⟩
  | _ :: _, [], h => h.elim
  | x :: r, y :: q, h => by
    obtain ⟨h1, h2⟩ := subL_spec h.2
    refine ⟨by simpa using h1, fun i c d hc hd => ?_⟩
    cases i with
    | zero => simp only [List.getElem?_cons_zero, Option.some.injEq] at hc hd; subst hc hd; exact h.1
    | succ i => simp only [List.getElem?_cons_succ] at hc hd; exact h2 i c d hc hd

def leO (s : List (Nat × List AV)) : List (Nat × List AV) → Prop
  | [] => True
  | (j, cs) :: r => (∃ ds, look s j = some ds ∧ subL cs ds) ∧ leO s r

theorem leO_look {s : List (Nat × List AV)} : ∀ {t : List (Nat × List AV)}, leO s t → ∀ j x, look t j = some x → ∃ y, look s j = some y ∧ subL x y
  | [], _, _, _, h => by simp [look] at h
  | (k, z) :: r, hl, j, x, h => by
    rw [look_cons] at h
    split at h
    · rename_i e; subst e; cases h; exact hl.1
    · exact leO_look hl.2 j x h

theorem le_mk {s t : AS} (h : leL s.sl t.sl) (ho : leO s.ob t.ob) : s.le t := by
  refine ⟨fun j x hx => ?_, fun id cs hc => ?_⟩
  · obtain ⟨y, h1, h2⟩ := leL_look h j x hx
    simp only [AS.get, h1, Option.getD_some]; exact h2
  · obtain ⟨ds, h1, h2⟩ := leO_look ho id cs hc
    exact ⟨ds, h1, (subL_spec h2).1, (subL_spec h2).2⟩

theorem sub_int {k : IntKind} {a b : Int} (h : a = b) : (AV.p (.val (.int k a))).sub (.p (.val (.int k b))) := AV.sub_of_eq (by rw [h])
theorem sub_str {a b : List UInt8} (h : a = b) : (AV.p (.val (.string (str a)))).sub (.p (.val (.string (str b)))) := AV.sub_of_eq (by rw [h])
theorem sub_bool {a b : Bool} (h : a = b) : (AV.p (.val (.bool a))).sub (.p (.val (.bool b))) := AV.sub_of_eq (by rw [h])

end Go.Ab
