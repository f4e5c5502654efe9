/- A layer of abstract values over the model's worlds, part Z: bits, shifts, structs that are compared. It holds for every program. -/
import Derived.Test.YtmpmphkpplgbkaaAbO
import Derived.Laws.StructEq
set_option linter.unusedVariables false
set_option linter.unusedSimpArgs false
set_option linter.unnecessarySimpa false
namespace Go.Ab

def iAnd (k : IntKind) (a b : Int) : Int := k.wrap ((BitVec.ofInt k.bits a &&& BitVec.ofInt k.bits b).toNat : Nat)
def iOr (k : IntKind) (a b : Int) : Int := k.wrap ((BitVec.ofInt k.bits a ||| BitVec.ofInt k.bits b).toNat : Nat)
def iXor (k : IntKind) (a b : Int) : Int := k.wrap ((BitVec.ofInt k.bits a ^^^ BitVec.ofInt k.bits b).toNat : Nat)
def iAndNot (k : IntKind) (a b : Int) : Int := k.wrap ((BitVec.ofInt k.bits a &&& ~~~(BitVec.ofInt k.bits b)).toNat : Nat)
def bitI (k : IntKind) : BinOp → Int → Int → Option Int
  | .and, a, b => some (iAnd k a b)
  | .or, a, b => some (iOr k a b)
  | .xor, a, b => some (iXor k a b)
  | .andNot, a, b => some (iAndNot k a b)
  | _, _, _ => none
def iShl (k : IntKind) (a b : Int) : Int := k.wrap (a * 2 ^ (min b.toNat k.bits))
def iShr (k : IntKind) (a b : Int) : Int := a.fdiv (2 ^ (min b.toNat k.bits))
def shI (k : IntKind) : BinOp → Int → Int → Option Int
  | .shl, a, b => some (iShl k a b)
  | .shr, a, b => some (iShr k a b)
  | _, _, _ => none

theorem binOp_bit {P : Program} {w : World} {op : BinOp} {t : TypeId} {k : IntKind} {a b c : Int} (h : bitI k op a b = some c) :
    (binOp op t (.int k a) (.int k b)).run P w = .ok (.int k c) w := by
  cases op <;> simp only [bitI, Option.some.injEq, reduceCtorEq] at h <;> subst h <;> simp [binOp, Op.intBits, iAnd, iOr, iXor, iAndNot]
theorem binOp_sh {P : Program} {w : World} {op : BinOp} {t : TypeId} {k k' : IntKind} {a b c : Int} (hb : 0 ≤ b) (h : shI k op a b = some c) :
    (binOp op t (.int k a) (.int k' b)).run P w = .ok (.int k c) w := by
  have hb' : ¬ b < 0 := by omega
  cases op <;> simp only [shI, Option.some.injEq, reduceCtorEq] at h <;> subst h <;> simp [binOp, Op.shift, hb', iShl, iShr]

section
variable {C : Cx} {o : Oper} {K : AS → Prop} {sl : List (Nat × AV)} {ob : List (Nat × List AV)} {d : Nat}

theorem ok_bit {op : BinOp} {t t' : TypeId} {x y : Operand} {k : IntKind} {a b c : Int} (ho : o.op = .binOp op t x y t') (hd : o.dst = some d) (hn : Nat.blt d C.n = true)
    (hx : evo sl x = some (.p (.val (.int k a)))) (hy : evo sl y = some (.p (.val (.int k b)))) (hc : bitI k op a b = some c)
    (hK : K ⟨(d, .p (.val (.int k c))) :: sl, ob⟩) : OpOk C o K ⟨sl, ob⟩ :=
  ok_one hd hn (fun g a w hs => ⟨_, by
    simp only [execOp, ho, evo_val hs hx, evo_val hs hy, Sem.run_bind, eqGuard_int, Result.andThen_ok, binOp_bit hc, Sem.run_pure], .p (.val _)⟩) hK

theorem ok_sh {op : BinOp} {t t' : TypeId} {x y : Operand} {k k' : IntKind} {a b c : Int} (ho : o.op = .binOp op t x y t') (hd : o.dst = some d) (hn : Nat.blt d C.n = true)
    (hx : evo sl x = some (.p (.val (.int k a)))) (hy : evo sl y = some (.p (.val (.int k' b)))) (hc : shI k op a b = some c) (hb : 0 ≤ b)
    (hK : K ⟨(d, .p (.val (.int k c))) :: sl, ob⟩) : OpOk C o K ⟨sl, ob⟩ :=
  ok_one hd hn (fun g a w hs => ⟨_, by
    simp only [execOp, ho, evo_val hs hx, evo_val hs hy, Sem.run_bind, eqGuard_int, Result.andThen_ok, binOp_sh hb hc, Sem.run_pure], .p (.val _)⟩) hK
end

/-- Plain cells are equal. -/
def eqC : Option PV → Option PV → Prop
  | some (.val (.int _ a)), some (.val (.int _ b)) => a = b
  | some (.val (.bool a)), some (.val (.bool b)) => a = b
  | some (.val (.string a)), some (.val (.string b)) => a.data.toList = b.data.toList
  | _, _ => False
def eqF (cs ds : List PV) : List (Nat × Nat) → Prop
  | [] => True
  | [f] => eqC cs[f.1]? ds[f.1]?
  | f :: g :: r => eqC cs[f.1]? ds[f.1]? ∧ eqF cs ds (g :: r)
/-- Which kind a plain cell is of. -/
def plainC (k : Option TI) (x y : Option PV) : Bool := match k, x, y with
  | some ⟨.int q, _, _, _⟩, some (.val (.int k _)), some (.val (.int k' _)) => (q == k) && (q == k')
  | some ⟨.bool, _, _, _⟩, some (.val (.bool _)), some (.val (.bool _)) => true
  | some ⟨.string, _, _, _⟩, some (.val (.string _)), some (.val (.string _)) => true
  | _, _, _ => false
def plainF (tt : List (Nat × TI)) (cs ds : List PV) : List (Nat × Nat) → Bool
  | [] => true
  | f :: r => plainC (look tt f.2) cs[f.1]? ds[f.1]? && plainF tt cs ds r
def namesOk : List Field → Bool
  | [] => true
  | f :: r => f.name != "_" && namesOk r
/-- A struct type whose values may be compared cell by cell. -/
def eqOk (P : Program) (t : TypeId) : Bool := namesOk (P.fieldsOf t).toList && !P.stoodInHeld t && !P.eqGuardType P.depth t

theorem part_val {P : Program} {tt : List (Nat × TI)} (good : TyGood P tt) {t : Nat} {i : TI} (h : look tt t = some i) (ha : i.k.isAgg = false) {cs : Array Value} {off : Nat} {v : Value} (hv : cs[off]? = some v) (w : World) :
    (part t cs off).run P w = .ok v w := by
  simp [part, run_isAgg good h, ha, hv]

theorem prep_cell {w : World} {st : Nat → Nat → Prop} {cs : List PV} {vs : Array Value} (h : PRep w st (.agg cs) (.agg vs)) {j : Nat} {u : Value} (hc : cs[j]? = some (.val u)) : vs[j]? = some u := by
  cases h with
  | agg hl h =>
    have hj : j < vs.size := by
      rw [hl]
      exact (List.getElem?_eq_some_iff.1 hc).1
    have h1 := h j _ _ hc (Array.getElem?_eq_getElem hj)
    cases h1
    exact Array.getElem?_eq_getElem hj

theorem plainC_spec {P : Program} {tt : List (Nat × TI)} (good : TyGood P tt) {w : World} {st : Nat → Nat → Prop} {cs ds : List PV} {xs ys : Array Value} (hx : PRep w st (.agg cs) (.agg xs)) (hy : PRep w st (.agg ds) (.agg ys)) {t off : Nat}
    (h : plainC (look tt t) cs[off]? ds[off]? = true) (d : Nat) : ∃ a b r, (part t xs off).run P w = .ok a w ∧ (part t ys off).run P w = .ok b w ∧ (Op.equalIn (d + 1) t a b).run P w = .ok r w ∧ (r = true ↔ eqC cs[off]? ds[off]?) := by
  unfold plainC at h
  split at h
  · rename_i q s z l k u k' u' hl hc hd
    simp only [Bool.and_eq_true, beq_iff_eq] at h
    obtain ⟨rfl, rfl⟩ := h
    obtain ⟨ud, h1, h2⟩ := und_of good hl
    have h3 := kind_int h2
    subst h3
    refine ⟨_, _, _, part_val good hl rfl (prep_cell hx hc) w, part_val good hl rfl (prep_cell hy hd) w, run_equalIn_int w d t _ _ u u' h1, ?_⟩
    rw [hc, hd]
    exact beq_iff_eq
  · rename_i s z l u u' hl hc hd
    obtain ⟨ud, h1, h2⟩ := und_of good hl
    have h3 := kind_bool h2
    subst h3
    refine ⟨_, _, _, part_val good hl rfl (prep_cell hx hc) w, part_val good hl rfl (prep_cell hy hd) w, run_equalIn_bool' w d t u u' h1, ?_⟩
    rw [hc, hd]
    exact beq_iff_eq
  · rename_i s z l u u' hl hc hd
    obtain ⟨ud, h1, h2⟩ := und_of good hl
    have h3 := kind_string h2
    subst h3
    refine ⟨_, _, _, part_val good hl rfl (prep_cell hx hc) w, part_val good hl rfl (prep_cell hy hd) w, run_equalIn_string w d t u u' h1, ?_⟩
    rw [hc, hd]
    simp only [eqC, beq_iff_eq, ByteArray.toList_eq]
  · cases h

theorem run_eqF {P : Program} {tt : List (Nat × TI)} (good : TyGood P tt) {w : World} {st : Nat → Nat → Prop} {cs ds : List PV} {xs ys : Array Value} (hx : PRep w st (.agg cs) (.agg xs)) (hy : PRep w st (.agg ds) (.agg ys)) (d : Nat) :
    ∀ fs : List Field, namesOk fs = true → plainF tt cs ds (fs.map fun f => (f.offset, f.type)) = true →
      ∃ r, (Op.eqFields (d + 1) xs ys fs).run P w = .ok r w ∧ (r = true ↔ eqF cs ds (fs.map fun f => (f.offset, f.type)))
  | [], _, _ => ⟨true, rfl, by simp [eqF]⟩
  | f :: r, hn, hp => by
    simp only [namesOk, Bool.and_eq_true, bne_iff_ne, ne_eq] at hn
    simp only [List.map_cons, plainF, Bool.and_eq_true] at hp
    obtain ⟨a, b, r1, e1, e2, e3, e4⟩ := plainC_spec good hx hy hp.1 d
    obtain ⟨r2, e5, e6⟩ := run_eqF good hx hy d r hn.2 hp.2
    cases r1 with
    | false =>
      refine ⟨false, by simp [Op.eqFields, hn.1, e1, e2, e3], ?_⟩
      have : ¬ eqC cs[f.offset]? ds[f.offset]? := fun h => by cases e4.2 h
      cases r with
      | nil => simpa [eqF] using this
      | cons g r => simp [eqF, this]
    | true =>
      refine ⟨r2, by simp [Op.eqFields, hn.1, e1, e2, e3, e5], ?_⟩
      rw [e6]
      have := e4.1 rfl
      cases r with
      | nil => simpa [eqF] using this
      | cons g r => simp [eqF, this]

theorem op_eqS {C : Cx} {o : Oper} {K : AS → Prop} {sl : List (Nat × AV)} {ob : List (Nat × List AV)} {d : Nat} {op : BinOp} {t t' : TypeId} {x y : Operand} {cs ds : List PV} {i : TI} {fs : List (Nat × Nat)} {r : Bool} (p : Prop) [Decidable p]
    (ho : o.op = .binOp op t x y t') (hd : o.dst = some d) (hn : Nat.blt d C.n = true) (hi : look C.tt t = some i) (hik : i.k = .struct fs) (hx : evo sl x = some (.p (.agg cs))) (hy : evo sl y = some (.p (.agg ds)))
    (hok : eqOk C.P t = true) (hpl : plainF C.tt cs ds fs = true) (hp : p = eqF cs ds fs) (hop : op = .eql ∧ r = decide p ∨ op = .neq ∧ r = !decide p)
    (hK : K ⟨(d, .p (.val (.bool r))) :: sl, ob⟩) : OpOk C o K ⟨sl, ob⟩ := by
  subst hp
  obtain ⟨u, h1, h2⟩ := und_of C.good hi
  obtain ⟨fa, rfl, h3⟩ := kind_struct (h2.trans hik)
  have hfo : C.P.fieldsOf t = fa := by unfold Program.fieldsOf; rw [h1]
  simp only [eqOk, Bool.and_eq_true, Bool.not_eq_true', hfo] at hok
  refine ok_one hd hn (fun g a w hs => ?_) hK
  have hxr := evo_rep hs hx
  have hyr := evo_rep hs hy
  cases hxr with
  | p hxr =>
    cases hyr with
    | p hyr =>
      generalize hxv : a.eval x = vx at hxr
      generalize hyv : a.eval y = vy at hyr
      cases hxr with
      | @agg _ xs hl1 hh1 =>
        cases hyr with
        | @agg _ ys hl2 hh2 =>
          obtain ⟨rr, e1, e2⟩ := run_eqF C.good (.agg hl1 hh1) (.agg hl2 hh2) 9998 fa.toList hok.1.1 (by rw [h3]; exact hpl)
          rw [h3] at e2
          have e3 := run_equalIn_struct w 9999 t xs ys (by rw [hfo]; exact h1) hok.1.2
          rw [hfo] at e3
          have hrr : rr = decide (eqF cs ds fs) := by
            cases rr with
            | true => exact (decide_eq_true (e2.1 rfl)).symm
            | false => exact (decide_eq_false (fun h => by cases e2.2 h)).symm
          rcases hop with ⟨rfl, rfl⟩ | ⟨rfl, rfl⟩
          · refine ⟨_, ?_, .p (.val _)⟩
            simp only [execOp, ho, hxv, hyv, Sem.run_bind, run_eqGuard_agg w _ t x y xs ys hok.2, Result.andThen_ok, run_eql_struct, e3, e1, Sem.run_pure, hrr]
          · refine ⟨_, ?_, .p (.val _)⟩
            simp only [execOp, ho, hxv, hyv, Sem.run_bind, run_eqGuard_agg w _ t x y xs ys hok.2, Result.andThen_ok, run_neq_struct, e3, e1, Sem.run_pure, hrr]
end Go.Ab
