/- A layer of abstract values over the model's worlds, part Z: bits, shifts, structs that are compared. It holds for every program. -/
import Derived.Test.YtapfhipodpbflaaGreatDoorAbO
import Derived.Laws.StructEq
set_option linter.unusedVariables false
set_option linter.unusedSimpArgs false
set_option linter.unnecessarySimpa false
namespace Go.Ab

def iAnd (k : IntKind) (a b : Int) : Int := k.wrap ((BitVec.ofInt k.bits a &&& BitVec.ofInt k.bits b).toNat : Nat)
def iOr (k : IntKind) (a b : Int) : Int := k.wrap ((BitVec.ofInt k.bits a ||| BitVec.ofInt k.bits b).toNat : Nat)
def iXor (k : IntKind) (a b : Int) : Int := k.wrap ((BitVec.ofInt k.bits a ^^^ BitVec.ofInt k.bits b).toNat : Nat)
def iAndNot (k : IntKind) (a b : Int) : Int := k.wrap ((BitVec.ofInt k.bits a &&& ~~~(BitVec.ofInt k.bits b)).toNat : Nat)
def bitI (k : IntKind) : BinOp → Int → Int → Option Int
  | .and, a, b => some (iAnd k a b)
  | .or, a, b => some (iOr k a b)
  | .xor, a, b => some (iXor k a b)
  | .andNot, a, b => some (iAndNot k a b)
  | _, _, _ => none
def iShl (k : IntKind) (a b : Int) : Int := k.wrap (a * 2 ^ (min b.toNat k.bits))
def iShr (k : IntKind) (a b : Int) : Int := a.fdiv (2 ^ (min b.toNat k.bits))
def shI (k : IntKind) : BinOp → Int → Int → Option Int
  | .shl, a, b => some (iShl k a b)
  | .shr, a, b => some (iShr k a b)
  | _, _, _ => none

theorem binOp_bit {P : Program} {w : World} {op : BinOp} {t : TypeId} {k : IntKind} {a b c : Int} (h : bitI k op a b = some c) :
    (binOp op t (.int k a) (.int k b)).run P w = .ok (.int k c) w := by
  cases op <;> simp only [bitI, Option.some.injEq, reduceCtorEq] at h <;> subst h <;> simp [binOp, Op.intBits, iAnd, iOr, iXor, iAndNot]
theorem binOp_sh {P : Program} {w : World} {op : BinOp} {t : TypeId} {k k' : IntKind} {a b c : Int} (hb : 0 ≤ b) (h : shI k op a b = some c) :
    (binOp op t (.int k a) (.int k' b)).run P w = .ok (.int k c) w := by
  have hb' : ¬ b < 0 := by omega
  cases op <;> simp only [shI, Option.some.injEq, reduceCtorEq] at h <;> subst h <;> simp [binOp, Op.shift, hb', iShl, iShr]

section
variable {C : Cx} {o : Oper} {K : AS → Prop} {sl : List (Nat × AV)} {ob : List (Nat × List AV)} {d : Nat}

theorem ok_bit {op : BinOp} {t t' : TypeId} {x y : Operand} {k : IntKind} {a b c : Int} (ho : o.op = .binOp op t x y t') (hd : o.dst = some d) (hn : Nat.blt d C.n = true)
    (hx : evo sl x = some (.p (.val (.int k a)))) (hy : evo sl y = some (.p (.val (.int k b)))) (hc : bitI k op a b = some c)
    (hK : K ⟨(d, .p (.val (.int k c))) :: sl, ob⟩) : OpOk C o K ⟨sl, ob⟩ :=
  ok_one hd hn (fun g a w hs => ⟨_, by
    simp only [execOp, ho, evo_val hs hx, evo_val hs hy, Sem.run_bind, eqGuard_int, Result.andThen_ok, binOp_bit hc, Sem.run_pure], .p (.val _)⟩) hK

theorem ok_sh {op : BinOp} {t t' : TypeId} {x y : Operand} {k k' : IntKind} {a b c : Int} (ho : o.op = .binOp op t x y t') (hd : o.dst = some d) (hn : Nat.blt d C.n = true)
    (hx : evo sl x = some (.p (.val (.int k a)))) (hy : evo sl y = some (.p (.val (.int k' b)))) (hc : shI k op a b = some c) (hb : 0 ≤ b)
    (hK : K ⟨(d, .p (.val (.int k c))) :: sl, ob⟩) : OpOk C o K ⟨sl, ob⟩ :=
  ok_one hd hn (fun g a w hs => ⟨_, by
    simp only [execOp, ho, evo_val hs hx, evo_val hs hy, Sem.run_bind, eqGuard_int, Result.andThen_ok, binOp_sh hb hc, Sem.run_pure], .p (.val _)⟩) hK
end

/-- Plain cells are equal. -/
def eqC : Option PV → Option PV → Prop
  | some (.val (.int _ a)), some (.val (.int _ b)) => a = b
  | some (.val (.bool a)), some (.val (.bool b)) => a = b
  | some (.val (.string a)), some (.val (.string b)) => a.data.toList = b.data.toList
  | _, _ => False
def eqF (cs ds : List PV) : List (Nat × Nat) → Prop
  | [] => True
  | [f] => eqC cs[f.1]? ds[f.1]?
  | f :: g :: r => eqC cs[f.1]? ds[f.1]? ∧ eqF cs ds (g :: r)
/-- Which kind a plain cell is of. -/
def plainC (k : Option TI) (x y : Option PV) : Bool := match k, x, y with
  | some ⟨.int q, _, _, _⟩, some (.val (.int k _)), some (.val (.int k' _)) => (q == k) && (q == k')
  | some ⟨.bool, _, _, _⟩, some (.val (.bool _)), some (.val (.bool _)) => true
  | some ⟨.string, _, _, _⟩, some (.val (.string _)), some (.val (.string _)) => true
  | _, _, _ => false
def plainF (tt : List (Nat × TI)) (cs ds : List PV) : List (Nat × Nat) → Bool
  | [] => true
  | f :: r => plainC (look tt f.2) cs[f.1]? ds[f.1]? && plainF tt cs ds r
def namesOk : List Field → Bool
  | [] => true
  | f :: r => f.name != "_" && namesOk r
/-- A struct type whose values may be compared cell by cell. -/
def eqOk (P : Program) (t : TypeId) : Bool := namesOk (P.fieldsOf t).toList && !P.stoodInHeld t && !P.eqGuardType P.depth t

theorem part_val {P : Program} {tt : List (Nat × TI)} (good : TyGood P tt) {t : Nat} {i : TI} (h : look tt t = some i) (ha : i.k.isAgg = false) {cs : Array Value} {off : Nat} {v : Value} (hv : cs[off]? = some v) (w : World) :
    (part t cs off).run P w = .ok v w := by
  simp [part, run_isAgg good h, ha, hv]

theorem prep_cell {w : World} {st : Nat → Nat → Prop} {cs : List PV} {vs : Array Value} (h : PRep w st (.agg cs) (.agg vs)) {j : Nat} {u : Value} (hc : cs[j]? = some (.val u)) : vs[j]? = some u := by
  cases h with
  | agg hl h =>
    have hj : j < vs.size := by
      rw [hl]
      exact (List.getElem?_eq_some_iff.1 hc).1
    have h1 := h j _ _ hc (Array.getElem?_eq_getElem hj)
    cases h1
    exact Array.getElem?_eq_getElem hj

theorem plainC_spec {P : Program} {tt : List (Nat × TI)} (good : TyGood P tt) {w : World} {st : Nat → Nat → Prop} {cs ds : List PV} {xs ys : Array Value} (hx : PRep w st (.agg cs) (.agg xs)) (hy : PRep w st (.agg ds) (.agg ys)) {t off : Nat}
    (h : plainC (look tt t) cs[off]? ds[off]? = true) (d : Nat) : ∃ a b r, (part t xs off).run P w = .ok a w ∧ (part t ys off).run P w = .ok b w ∧ (Op.equalIn (d + 1) t a b).run P w = .ok r w ∧ (r = true ↔ eqC cs[off]? ds[off]?) := by
  unfold plainC at h
  split at h
  · rename_i q s z l k u k' u' hl hc hd
    simp only [Bool.and_eq_true, beq_iff_eq] at h
    obtain ⟨rfl, rfl⟩ := h
    obtain ⟨ud, h1, h2⟩ := und_of good hl
    have h3 := kind_int h2
    subst h3
    refine ⟨_, _, _, part_val good hl rfl (prep_cell hx hc) w, part_val good hl rfl (prep_cell hy hd) w, run_equalIn_int w d t _ _ u u' h1, ?_⟩
    rw [hc, hd]
    exact beq_iff_eq
  · rename_i s z l u u' hl hc hd
    obtain ⟨ud, h1, h2⟩ := und_of good hl
    have h3 := kind_bool h2
    subst h3
    refine ⟨_, _, _, part_val good hl rfl (prep_cell hx hc) w, part_val good hl rfl (prep_cell hy hd) w, run_equalIn_bool' w d t u u' h1, ?_⟩
    rw [hc, hd]
    exact beq_iff_eq
  · rename_i s z l u u' hl hc hd
    obtain ⟨ud, h1, h2⟩ := und_of good hl
    have h3 := kind_string h2
    subst h3
    refine ⟨_, _, _, part_val good hl rfl (prep_cell hx hc) w, part_val good hl rfl (prep_cell hy hd) w, run_equalIn_string w d t u u' h1, ?_⟩
    rw [hc, hd]
    simp only [eqC, beq_iff_eq, ByteArray.toList_eq]
  · cases h

theorem run_eqF {P : Program} {tt : List (Nat × TI)} (good : TyGood P tt) {w : World} {st : Nat → Nat → Prop} {cs ds : List PV} {xs ys : Array Value} (hx : PRep w st (.agg cs) (.agg xs)) (hy : PRep w st (.agg ds) (.agg ys)) (d : Nat) :
    ∀ fs : List Field, namesOk fs = true → plainF tt cs ds (fs.map fun f => (f.offset, f.type)) = true →
      ∃ r, (Op.eqFields (d + 1) xs ys fs).run P w = .ok r w ∧ (r = true ↔ eqF cs ds (fs.map fun f => (f.offset, f.type)))
  | [], _, _ => ⟨true, rfl, by simp [eqF]⟩
  | f :: r, hn, hp => by
    simp only [namesOk, Bool.and_eq_true, bne_iff_ne, ne_eq] at hn
    simp only [List.map_cons, plainF, Bool.and_eq_true] at hp
    obtain ⟨a, b, r1, e1, e2, e3, e4⟩ := plainC_spec good hx hy hp.1 d
    obtain ⟨r2, e5, e6⟩ := run_eqF good hx hy d r hn.2 hp.2
    cases r1 with
    | false =>
      refine ⟨false, by simp [Op.eqFields, hn.1, e1, e2, e3], ?_⟩
      have : ¬ eqC cs[f.offset]? ds[f.offset]? := fun h => by cases e4.2 h
      cases r with
      | nil => simpa [eqF] using this
      | cons g r => simp [eqF, this]
    | true =>
      refine ⟨r2, by simp [Op.eqFields, hn.1, e1, e2, e3, e5], ?_⟩
      rw [e6]
      have := e4.1 rfl
      cases r with
      | nil => simpa [eqF] using this
      | cons g r => simp [eqF, this]

theorem op_eqS {C : Cx} {o : Oper} {K : AS → Prop} {sl : List (Nat × AV)} {ob : List (Nat × List AV)} {d : Nat} {op : BinOp} {t t' : TypeId} {x y : Operand} {cs ds : List PV} {i : TI} {fs : List (Nat × Nat)} {r : Bool} (p : Prop) [Decidable p]
    (ho : o.op = .binOp op t x y t') (hd : o.dst = some d) (hn : Nat.blt d C.n = true) (hi : look C.tt t = some i) (hik : i.k = .struct fs) (hx : evo sl x = some (.p (.agg cs))) (hy : evo sl y = some (.p (.agg ds)))
    (hok : eqOk C.P t = true) (hpl : plainF C.tt cs ds fs = true) (hp : p = eqF cs ds fs) (hop : op = .eql ∧ r = decide p ∨ op = .neq ∧ r = !decide p)
    (hK : K ⟨(d, .p (.val (.bool r))) :: sl, ob⟩) : OpOk C o K ⟨sl, ob⟩ := by
  subst hp
  obtain ⟨u, h1, h2⟩ := und_of C.good hi
  obtain ⟨fa, rfl, h3⟩ := kind_struct (h2.trans hik)
  have hfo : C.P.fieldsOf t = fa := by unfold Program.fieldsOf; rw [h1]
  simp only [eqOk, Bool.and_eq_true, Bool.not_eq_true', hfo] at hok
  refine ok_one hd hn (fun g a w hs => ?_) hK
  have hxr := evo_rep hs hx
  have hyr := evo_rep hs hy
  cases hxr with
  | p hxr =>
    cases hyr with
    | p hyr =>
      generalize hxv : a.eval x = vx at hxr
      generalize hyv : a.eval y = vy at hyr
      cases hxr with
      | @agg _ xs hl1 hh1 =>
        cases hyr with
        | @agg _ ys hl2 hh2 =>
          obtain ⟨rr, e1, e2⟩ := run_eqF C.good (.agg hl1 hh1) (.agg hl2 hh2) 9998 fa.toList hok.1.1 (by rw [h3]; exact hpl)
          rw [h3] at e2
          have e3 := run_equalIn_struct w 9999 t xs ys (by rw [hfo]; exact h1) hok.1.2
          rw [hfo] at e3
          have hrr : rr = decide (eqF cs ds fs) := by
            cases rr with
            | true => exact (decide_eq_true (e2.1 rfl)).symm
            | false => exact (decide_eq_false (fun h => by cases e2.2 h)).symm
          rcases hop with ⟨rfl, rfl⟩ | ⟨rfl, rfl⟩
          · refine ⟨_, ?_, .p (.val _)⟩
            simp only [execOp, ho, hxv, hyv, Sem.run_bind, run_eqGuard_agg w _ t x y xs ys hok.2, Result.andThen_ok, run_eql_struct, e3, e1, Sem.run_pure, hrr]
          · refine ⟨_, ?_, .p (.val _)⟩
            simp only [execOp, ho, hxv, hyv, Sem.run_bind, run_eqGuard_agg w _ t x y xs ys hok.2, Result.andThen_ok, run_neq_struct, e3, e1, Sem.run_pure, hrr]

/-! ### Structs in structs -/
def eqFl (one : Nat × Nat → Prop) : List (Nat × Nat) → Prop
  | [] => True
  | [f] => one f
  | f :: g :: r => one f ∧ eqFl one (g :: r)
def eqN (tt : List (Nat × TI)) : Nat → List PV → List PV → Nat × Nat → Prop
  | 0, cs, ds, f => eqC cs[f.1]? ds[f.1]?
  | n + 1, cs, ds, f => match look tt f.2 with
    | some ⟨.struct fs, s, _, _⟩ => eqFl (eqN tt n ((cs.drop f.1).take s) ((ds.drop f.1).take s)) fs
    | _ => eqC cs[f.1]? ds[f.1]?
def plainN (tt : List (Nat × TI)) (nested : List Nat) : Nat → List PV → List PV → Nat × Nat → Bool
  | 0, cs, ds, f => plainC (look tt f.2) cs[f.1]? ds[f.1]?
  | n + 1, cs, ds, f => match look tt f.2 with
    | some ⟨.struct fs, s, _, _⟩ => nested.any (Nat.beq f.2) && fs.all (plainN tt nested n ((cs.drop f.1).take s) ((ds.drop f.1).take s))
    | _ => plainC (look tt f.2) cs[f.1]? ds[f.1]?

theorem prep_cut {w : World} {st : Nat → Nat → Prop} {cs : List PV} {vs : Array Value} (h : PRep w st (.agg cs) (.agg vs)) (off s : Nat) : PRep w st (.agg ((cs.drop off).take s)) (.agg (vs.extract off (off + s))) := by
  cases h with
  | agg hl h =>
    refine .agg (by simp only [Array.size_extract, List.length_take, List.length_drop, hl]; omega) fun i c v hc hv => ?_
    rw [List.getElem?_take] at hc
    split at hc
    · rename_i hi
      rw [List.getElem?_drop] at hc
      rw [Array.getElem?_extract] at hv
      split at hv
      · exact h (off + i) c v hc hv
      · cases hv
    · cases hc

theorem part_struct {P : Program} {tt : List (Nat × TI)} (good : TyGood P tt) {t : Nat} {i : TI} (h : look tt t = some i) (ha : i.k.isAgg = true) (cs : Array Value) (off : Nat) (w : World) :
    (part t cs off).run P w = .ok (.agg (cs.extract off (off + i.size))) w := by
  simp [part, run_isAgg good h, ha, run_sizeOf good h]

theorem run_eqN {P : Program} {tt : List (Nat × TI)} (good : TyGood P tt) {w : World} {st : Nat → Nat → Prop} (nested : List Nat) (hoks : nested.all (eqOk P) = true) : ∀ (n : Nat) {cs ds : List PV} {xs ys : Array Value}, PRep w st (.agg cs) (.agg xs) → PRep w st (.agg ds) (.agg ys) → ∀ (d : Nat) (fs : List Field),
    namesOk fs = true → (fs.map fun f => (f.offset, f.type)).all (plainN tt nested n cs ds) = true →
    ∃ r, (Op.eqFields (d + n + 1) xs ys fs).run P w = .ok r w ∧ (r = true ↔ eqFl (eqN tt n cs ds) (fs.map fun f => (f.offset, f.type))) := by
  intro n
  induction n with
  | zero =>
    intro cs ds xs ys hx hy d fs
    induction fs with
    | nil => exact fun _ _ => ⟨true, rfl, by simp [eqFl]⟩
    | cons f r ih =>
      intro hn hp
      simp only [namesOk, Bool.and_eq_true, bne_iff_ne, ne_eq] at hn
      simp only [List.map_cons, List.all_cons, Bool.and_eq_true] at hp
      obtain ⟨a, b, r1, e1, e2, e3, e4⟩ := plainC_spec good hx hy hp.1 d
      obtain ⟨r2, e5, e6⟩ := ih hn.2 hp.2
      cases r1 with
      | false =>
        refine ⟨false, by simp [Op.eqFields, hn.1, e1, e2, e3], ?_⟩
        have : ¬ eqC cs[f.offset]? ds[f.offset]? := fun h => by cases e4.2 h
        cases r with
        | nil => simpa [eqFl, eqN] using this
        | cons g r => simp [eqFl, eqN, this]
      | true =>
        refine ⟨r2, by simp only [Nat.add_zero] at e5; simp [Op.eqFields, hn.1, e1, e2, e3, e5], ?_⟩
        rw [e6]
        have := e4.1 rfl
        cases r with
        | nil => simpa [eqFl, eqN] using this
        | cons g r => simp [eqFl, eqN, this]
  | succ n ihn =>
    intro cs ds xs ys hx hy d fs
    induction fs with
    | nil => exact fun _ _ => ⟨true, rfl, by simp [eqFl]⟩
    | cons f r ih =>
      intro hn hp
      simp only [namesOk, Bool.and_eq_true, bne_iff_ne, ne_eq] at hn
      simp only [List.map_cons, List.all_cons, Bool.and_eq_true] at hp
      obtain ⟨r2, e5, e6⟩ := ih hn.2 hp.2
      obtain ⟨a, b, r1, e1, e2, e3, e4⟩ : ∃ a b r, (part f.type xs f.offset).run P w = .ok a w ∧ (part f.type ys f.offset).run P w = .ok b w ∧ (Op.equalIn (d + (n + 1) + 1) f.type a b).run P w = .ok r w ∧ (r = true ↔ eqN tt (n + 1) cs ds (f.offset, f.type)) := by
        have hp1 := hp.1
        simp only [plainN] at hp1
        simp only [eqN]
        split at hp1
        · rename_i fs2 s by2 z hlk
          simp only [Bool.and_eq_true] at hp1
          obtain ⟨hq, hall⟩ := hp1
          obtain ⟨q, hq1, hq2⟩ := List.any_eq_true.1 hq
          have hq3 := Nat.eq_of_beq_eq_true hq2
          have hok := List.all_eq_true.1 hoks q hq1
          rw [← hq3] at hok
          obtain ⟨u, h1, h2⟩ := und_of good hlk
          obtain ⟨fa, rfl, h3⟩ := kind_struct h2
          have hfo : P.fieldsOf f.type = fa := by unfold Program.fieldsOf; rw [h1]
          simp only [eqOk, Bool.and_eq_true, Bool.not_eq_true', hfo] at hok
          have ha : (TI.mk (.struct fs2) s by2 z).k.isAgg = true := rfl
          obtain ⟨rr, k1, k2⟩ := ihn (prep_cut hx f.offset s) (prep_cut hy f.offset s) d fa.toList hok.1.1 (by rw [h3]; exact hall)
          have e3 := run_equalIn_struct w (d + n + 1) f.type (xs.extract f.offset (f.offset + s)) (ys.extract f.offset (f.offset + s)) (by rw [hfo]; exact h1) hok.1.2
          rw [hfo] at e3
          refine ⟨_, _, rr, part_struct good hlk ha xs f.offset w, part_struct good hlk ha ys f.offset w, ?_, ?_⟩
          · rw [show d + (n + 1) + 1 = (d + n + 1) + 1 by omega, e3, k1]
          · rw [k2, h3]
        · rename_i hno
          obtain ⟨a, b, r1, e1, e2, e3, e4⟩ := plainC_spec good hx hy hp1 (d + (n + 1))
          refine ⟨a, b, r1, e1, e2, e3, ?_⟩
          rw [e4]
      cases r1 with
      | false =>
        refine ⟨false, by simp [Op.eqFields, hn.1, e1, e2, e3], ?_⟩
        have : ¬ eqN tt (n + 1) cs ds (f.offset, f.type) := fun h => by cases e4.2 h
        cases r with
        | nil => simpa [eqFl] using this
        | cons g r => simp [eqFl, this]
      | true =>
        refine ⟨r2, by simp [Op.eqFields, hn.1, e1, e2, e3, e5], ?_⟩
        rw [e6]
        have := e4.1 rfl
        cases r with
        | nil => simpa [eqFl] using this
        | cons g r => simp [eqFl, this]

theorem op_eqNS {C : Cx} {o : Oper} {K : AS → Prop} {sl : List (Nat × AV)} {ob : List (Nat × List AV)} {d : Nat} {op : BinOp} {t t' : TypeId} {x y : Operand} {cs ds : List PV} {i : TI} {fs : List (Nat × Nat)} {r : Bool} (p : Prop) [Decidable p] (nested : List Nat)
    (ho : o.op = .binOp op t x y t') (hd : o.dst = some d) (hn : Nat.blt d C.n = true) (hi : look C.tt t = some i) (hik : i.k = .struct fs) (hx : evo sl x = some (.p (.agg cs))) (hy : evo sl y = some (.p (.agg ds)))
    (hok : (eqOk C.P t && nested.all (eqOk C.P)) = true) (hpl : fs.all (plainN C.tt nested 3 cs ds) = true) (hp : p = eqFl (eqN C.tt 3 cs ds) fs) (hop : op = .eql ∧ r = decide p ∨ op = .neq ∧ r = !decide p)
    (hK : K ⟨(d, .p (.val (.bool r))) :: sl, ob⟩) : OpOk C o K ⟨sl, ob⟩ := by
  obtain ⟨u, h1, h2⟩ := und_of C.good hi
  obtain ⟨fa, rfl, h3⟩ := kind_struct (h2.trans hik)
  have hfo : C.P.fieldsOf t = fa := by unfold Program.fieldsOf; rw [h1]
  rw [Bool.and_eq_true] at hok
  obtain ⟨hok, hoks⟩ := hok
  simp only [eqOk, Bool.and_eq_true, Bool.not_eq_true', hfo] at hok
  refine ok_one hd hn (fun g a w hs => ?_) hK
  have hxr := evo_rep hs hx
  have hyr := evo_rep hs hy
  cases hxr with
  | p hxr =>
    cases hyr with
    | p hyr =>
      generalize hxv : a.eval x = vx at hxr
      generalize hyv : a.eval y = vy at hyr
      cases hxr with
      | @agg _ xs hl1 hh1 =>
        cases hyr with
        | @agg _ ys hl2 hh2 =>
          obtain ⟨rr, e1, e2⟩ := run_eqN C.good nested hoks 3 (.agg hl1 hh1) (.agg hl2 hh2) 9995 fa.toList hok.1.1 (by rw [h3]; exact hpl)
          rw [h3, ← hp] at e2
          have e3 := run_equalIn_struct w 9999 t xs ys (by rw [hfo]; exact h1) hok.1.2
          rw [hfo] at e3
          have hrr : rr = decide p := by
            cases rr with
            | true => exact (decide_eq_true (e2.1 rfl)).symm
            | false => exact (decide_eq_false (fun h => by cases e2.2 h)).symm
          rcases hop with ⟨rfl, rfl⟩ | ⟨rfl, rfl⟩
          · refine ⟨_, ?_, .p (.val _)⟩
            simp only [execOp, ho, hxv, hyv, Sem.run_bind, run_eqGuard_agg w _ t x y xs ys hok.2, Result.andThen_ok, run_eql_struct, e3, e1, Sem.run_pure, hrr]
          · refine ⟨_, ?_, .p (.val _)⟩
            simp only [execOp, ho, hxv, hyv, Sem.run_bind, run_eqGuard_agg w _ t x y xs ys hok.2, Result.andThen_ok, run_neq_struct, e3, e1, Sem.run_pure, hrr]

theorem any_byB {q : Prop} {b : Bool} (h1 : b = true → q) (h2 : b = false → q) : q := by cases b with | true => exact h1 rfl | false => exact h2 rfl

/-! ### Bytes in rows -/
def eU (b : UInt8) : PV := .val (.int .u8 (b.toNat : Int))
def u8 (n : Int) : UInt8 := UInt8.ofNat n.toNat
theorem u8_of {n : Int} (h : (0 : Int) ≤ n ∧ n < 256) : eK .u8 n = eU (u8 n) := by
  unfold eK eU u8
  have : (((UInt8.ofNat n.toNat).toNat : Nat) : Int) = n := by
    rw [UInt8.toNat_ofNat', Nat.mod_eq_of_lt (by omega)]; omega
  rw [this]
theorem u8_byt (b : UInt8) : u8 (b.toNat : Int) = b := by simp [u8]

section
variable {C : Cx} {o : Oper} {K : AS → Prop} {sl : List (Nat × AV)} {ob : List (Nat × List AV)} {d : Nat}
theorem op_appNT (l : Bytes) (ty : Nat) {t tx e : TypeId} {x y : Operand} {i ie j : TI} (ho : o.op = .call { callee := .builtin .append, args := #[x, y], argTypes := #[t, tx] }) (hd : o.dst = some d) (hn : Nat.blt d C.n = true)
    (hi : look C.tt t = some i) (hik : i.k = .slice e) (hie : look C.tt e = some ie) (hj : look C.tt tx = some j) (hjk : j.k = .string) (hx : evo sl x = some (.p (.val (.slice none 0 0))))
    (hy : evo sl y = some (.p (eS l))) (h1 : ie.size = 1) (hzl : Nat.beq ie.zero.length ie.size = true) (hby : Nat.blt 0 ie.bytes = true)
    (hty : (Nat.beq ty 0 || Nat.beq ty (e + 1)) = true) (hlen : l.length * ie.bytes ≤ 140737488355328)
    (hK : K ⟨(d, .vec d 1 ty (l.map eU)) :: (demS (fun i => Nat.beq i d) ⟨sl, ob⟩).sl, (demS (fun i => Nat.beq i d) ⟨sl, ob⟩).ob⟩) : OpOk C o K ⟨sl, ob⟩ := by
  have hby' : 1 ≤ ie.bytes := Nat.succ_le_of_lt (by simpa using hby)
  have h2 : l.length * 1 ≤ l.length * ie.bytes := Nat.mul_le_mul_left _ hby'
  exact ok_appendNS ty ho hd hn hi hik hie hx (ys := l.map eU) (h1 ▸ srcOk_str hj hjk hy) (fun y hy => by obtain ⟨x, _, rfl⟩ := List.mem_map.1 hy; rw [h1]; rfl) (by rw [h1]; rfl) hzl (by rw [List.length_map]; exact hlen) (by rw [List.length_map]; omega) hty (by rw [h1]; exact hK)

theorem op_appVT (l0 l : Bytes) {t tx e : TypeId} {x y : Operand} {k ty : Nat} {i ie j : TI} (ho : o.op = .call { callee := .builtin .append, args := #[x, y], argTypes := #[t, tx] }) (hd : o.dst = some d) (hn : Nat.blt d C.n = true)
    (hi : look C.tt t = some i) (hik : i.k = .slice e) (hie : look C.tt e = some ie) (hj : look C.tt tx = some j) (hjk : j.k = .string) (hx : evo sl x = some (.vec k 1 ty (l0.map eU))) (hk : Nat.blt k M1 = true)
    (hy : evo sl y = some (.p (eS l))) (h1 : ie.size = 1) (hzl : Nat.beq ie.zero.length ie.size = true) (hby : Nat.blt 0 ie.bytes = true)
    (hty : (Nat.beq ty 0 || Nat.beq ty (e + 1)) = true) (hlen : (l0.length + l.length) * ie.bytes ≤ 140737488355328)
    (hK : K ⟨(d, .vec d 1 ty ((l0 ++ l).map eU)) :: (demS (fun i => Nat.beq i k || Nat.beq i d) ⟨sl, ob⟩).sl, (demS (fun i => Nat.beq i k || Nat.beq i d) ⟨sl, ob⟩).ob⟩) : OpOk C o K ⟨sl, ob⟩ := by
  have hby' : 1 ≤ ie.bytes := Nat.succ_le_of_lt (by simpa using hby)
  have h2 : (l0.length + l.length) * 1 ≤ (l0.length + l.length) * ie.bytes := Nat.mul_le_mul_left _ hby'
  exact ok_appendVS ho hd hn hi hik hie hx hk h1 (ys := l.map eU) (h1 ▸ srcOk_str hj hjk hy) (fun y hy => by obtain ⟨x, _, rfl⟩ := List.mem_map.1 hy; rw [h1]; rfl) (by rw [h1]; rfl) hzl (by rw [List.length_map, List.length_map]; exact hlen) (by rw [List.length_map, List.length_map]; omega) hty
    (by rw [← List.map_append]; exact hK)

/-! ### Interfaces: nil or not -/
def eE (b : Bool) : PV := bif b then .ifc else .val .nilIface
theorem toPV_E (b : Bool) : AV.toPV (.p (eE b)) = some (eE b) := by cases b <;> rfl
theorem settle_nil : AV.settle.go [] = some [] := rfl
theorem settle_cons {x : AV} {y : PV} {r l : List AV} (h : x.toPV = some y) (h' : AV.settle.go r = some l) : AV.settle.go (x :: r) = some (.p y :: l) := by simp only [AV.settle.go, h, h']
theorem settle_tu {l l' : List AV} (h : AV.settle.go l = some l') : AV.settle (.tuple l) = some (.tuple l') := by simp only [AV.settle, h]
theorem kind_iface {u : TypeDesc} (h : kindOf u = .iface) : ∃ ms, u = .interface ms := by cases u <;> simp [kindOf] at h; exact ⟨_, rfl⟩
theorem run_equal_ifaceN {P : Program} {t : TypeId} {ms : Array (String × TypeId)} (h : P.underlying t = some (.interface ms)) (w : World) : (Op.equal t .nilIface .nilIface).run P w = .ok true w := by
  have : ∀ d, (Op.equalIn (d + 1) t .nilIface .nilIface).run P w = .ok true w := fun d => by simp [Op.equalIn, run_underlying h]
  exact this 9999
theorem run_equal_ifaceI {P : Program} {t : TypeId} {ms : Array (String × TypeId)} (h : P.underlying t = some (.interface ms)) (w : World) (t' : TypeId) (v : Value) : (Op.equal t (.iface t' v) .nilIface).run P w = .ok false w := by
  have : ∀ d, (Op.equalIn (d + 1) t (.iface t' v) .nilIface).run P w = .ok false w := fun d => by simp [Op.equalIn, run_underlying h]
  exact this 9999
theorem ok_eqE {op : BinOp} {t t' : TypeId} {x : Operand} {b c : Bool} {i : TI} (ho : o.op = .binOp op t x (.const .nilIface) t') (hd : o.dst = some d) (hn : Nat.blt d C.n = true)
    (hi : look C.tt t = some i) (hik : i.k = .iface)
    (hx : evo sl x = some (.p (eE b))) (hc : (op = .eql ∧ c = !b) ∨ (op = .neq ∧ c = b))
    (hK : K ⟨(d, .p (eB c)) :: sl, ob⟩) : OpOk C o K ⟨sl, ob⟩ := by
  obtain ⟨u, h1, h2⟩ := und_of C.good hi
  obtain ⟨ms, rfl⟩ := kind_iface (h2.trans hik)
  refine ok_one hd hn (fun g a w hs => ⟨.bool c, ?_, .p (.val _)⟩) hK
  have hr := evo_rep hs hx
  generalize hv : a.eval x = v at hr
  have hcn : a.eval (.const .nilIface) = .nilIface := rfl
  cases b with
  | true =>
    cases hr with
    | p h =>
      cases h with
      | ifc t2 v2 => rcases hc with ⟨rfl, rfl⟩ | ⟨rfl, rfl⟩ <;> simp [execOp, ho, hv, hcn, eqGuard, binOp, run_equal_ifaceI h1]
  | false =>
    cases hr with
    | p h =>
      cases h with
      | val => rcases hc with ⟨rfl, rfl⟩ | ⟨rfl, rfl⟩ <;> simp [execOp, ho, hv, hcn, eqGuard, binOp, run_equal_ifaceN h1]

theorem ok_convW {st dt : TypeId} {x : Operand} {k k' : IntKind} {a : Int} {i j : TI} (ho : o.op = .convert st dt x) (hd : o.dst = some d) (hn : Nat.blt d C.n = true)
    (hi : look C.tt st = some i) (hik : i.k = .int k') (hj : look C.tt dt = some j) (hjk : j.k = .int k) (hx : evo sl x = some (.p (.val (.int k' a))))
    (hK : K ⟨(d, .p (.val (.int k (k.wrap a)))) :: sl, ob⟩) : OpOk C o K ⟨sl, ob⟩ := by
  obtain ⟨u, h1, h2⟩ := und_of C.good hj
  have h3 := kind_int (h2.trans hjk)
  obtain ⟨u', h1', h2'⟩ := und_of C.good hi
  have h3' := kind_int (h2'.trans hik)
  subst h3 h3'
  exact ok_one hd hn (fun g b w hs => ⟨_, by simp [execOp, ho, evo_val hs hx, convert, run_underlying h1, run_underlying h1', Conv.intToInt], .p (.val _)⟩) hK
end

/-! ### Arrays -/
theorem kind_array {u : TypeDesc} {n e : Nat} (h : kindOf u = .array n e) : u = .array n e := by cases u <;> simp [kindOf] at h; obtain ⟨rfl, rfl⟩ := h; rfl
section
variable {C : Cx} {o : Oper} {K : AS → Prop} {sl : List (Nat × AV)} {ob : List (Nat × List AV)} {d : Nat}
theorem ok_buildArr {t m e : Nat} {parts : Array (Nat × Operand)} {i ie : TI} {ps : List (Nat × AV)} {cs : List AV} {y : AV} (ho : o.op = .build t parts) (hd : o.dst = some d) (hn : Nat.blt d C.n = true)
    (hi : look C.tt t = some i) (hik : i.k = .array m e) (hie : look C.tt e = some ie) (hps : partsA sl parts.toList = some ps) (hf : fillA (fun (k : Nat) => some (k * ie.size, ie.size)) (zerosA i) ps = some cs) (hy : some (mkAgg cs) = some y)
    (hK : K ⟨(d, y) :: sl, ob⟩) : OpOk C o K ⟨sl, ob⟩ := by
  cases hy
  obtain ⟨u, h1, h2⟩ := und_of C.good hi
  have h3 := kind_array (h2.trans hik)
  subst h3
  refine ok_one hd hn (fun g a w hs => ?_) hK
  obtain ⟨z, hz1, hz2⟩ := run_zeroValue C.good hi w
  obtain ⟨q1, q2⟩ := partsA_spec hs _ ps hps
  obtain ⟨c', f1, f2, f3⟩ := fill_spec (place := fun (k : Nat) => some (k * ie.size, ie.size)) ps (parts.toList.map fun p => (p.1, a.eval p.2)) (zerosA i) cs z.cells q1 q2 (by simp [zerosA, ← hz2]) (fun k x v hx hv => by
    simp only [zerosA, List.getElem?_map, Option.map_eq_some_iff, ← hz2, Array.getElem?_toList] at hx
    obtain ⟨u, hu, rfl⟩ := hx
    rw [hv] at hu; cases hu
    exact .p (.val _)) hf
  refine ⟨.agg c', ?_, mkAgg_rep f2 f3⟩
  have e1 : (parts.map fun (i, x) => (i, a.eval x)).toList = parts.toList.map fun p => (p.1, a.eval p.2) := by rw [Array.toList_map]
  simp only [execOp, ho, Instr.build, Sem.run_bind, hz1, Result.andThen_ok, run_underlying h1, run_sizeOf C.good hie, e1, f1, Sem.run_pure]
theorem ok_indexAddrPA {t m e : Nat} {x y : Operand} {i ie : TI} {k : IntKind} {n : Int} {id q : Nat} (ho : o.op = .indexAddr t x y) (hd : o.dst = some d) (hn : Nat.blt d C.n = true)
    (hi : look C.tt t = some i) (hik : i.k = .array m e) (hie : look C.tt e = some ie) (hx : evo sl x = some (.ptr id q))
    (hy : evo sl y = some (.p (.val (.int k n)))) (hb : 0 ≤ n ∧ n < m)
    (hK : K ⟨(d, .ptr id (q + n.toNat * ie.size)) :: sl, ob⟩) : OpOk C o K ⟨sl, ob⟩ := by
  obtain ⟨u, h1, h2⟩ := und_of C.good hi
  have h3 := kind_array (h2.trans hik)
  subst h3
  refine ok_one hd hn (fun g a w hs => ?_) hK
  have h5 := evo_rep hs hx
  generalize hv : a.eval x = v at h5
  cases h5 with
  | ptr how =>
    rename_i b
    exact ⟨.pointer (some ⟨b, q + n.toNat * ie.size, none⟩), by simp [execOp, ho, hv, evo_val hs hy, Instr.indexAt, Instr.sureAddr, asIntOf, run_underlying h1, hb.1, hb.2, run_sizeOf C.good hie, add_lit], .ptr how⟩
theorem ok_indexAddrPA1 {t m e : Nat} {x y : Operand} {i ie : TI} {k : IntKind} {n : Int} {id : Nat} (ho : o.op = .indexAddr t x y) (hd : o.dst = some d) (hn : Nat.blt d C.n = true)
    (hi : look C.tt t = some i) (hik : i.k = .array m e) (hie : look C.tt e = some ie) (hs1 : ie.size = 1) (hx : evo sl x = some (.ptr id 0))
    (hy : evo sl y = some (.p (.val (.int k n)))) (hb : 0 ≤ n ∧ n < m)
    (hK : K ⟨(d, .ptr id n.toNat) :: sl, ob⟩) : OpOk C o K ⟨sl, ob⟩ :=
  ok_indexAddrPA ho hd hn hi hik hie hx hy hb (by rw [hs1, Nat.mul_one, Nat.zero_add]; exact hK)
end
end Go.Ab
