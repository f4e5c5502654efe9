/- A layer of abstract values over the model's worlds, part L: more operators; and from a contract to a row's walk. It holds for every program. -/
import Derived.Test.YtijgdpmadidpaaaDoorAbK
import Derived.RowKit3
import Derived.WideLaws
set_option linter.unusedVariables false
set_option linter.unusedSimpArgs false
set_option linter.unnecessarySimpa false
namespace Go.Ab

def cmpB : BinOp → Bool → Bool → Option Bool
  | .eql, a, b => some (a == b)
  | .neq, a, b => some (!(a == b))
  | _, _, _ => none

theorem run_equalIn_bool {P : Program} (w : World) (d : Nat) (t : TypeId) (a b : Bool) (h : P.underlying t = some .bool) : (Op.equalIn (d + 1) t (.bool a) (.bool b)).run P w = .ok (a == b) w := by
  simp [Op.equalIn, run_underlying h]

theorem run_equal_bool {P : Program} (w : World) (t : TypeId) (a b : Bool) (h : P.underlying t = some .bool) : (Op.equal t (.bool a) (.bool b)).run P w = .ok (a == b) w := run_equalIn_bool w 9999 t a b h

theorem eqGuard_bool {P : Program} {w : World} (op : BinOp) (t : TypeId) (x y : Operand) (a b : Bool) :
    (eqGuard op t x y (.bool a) (.bool b)).run P w = .ok () w := by
  unfold eqGuard; split <;> rfl

section
variable {C : Cx} {o : Oper} {K : AS → Prop} {sl : List (Nat × AV)} {ob : List (Nat × List AV)} {d : Nat}

theorem ok_cmpB {op : BinOp} {t t' : TypeId} {x y : Operand} {i : TI} {a b c : Bool} (ho : o.op = .binOp op t x y t') (hd : o.dst = some d) (hn : Nat.blt d C.n = true)
    (hi : look C.tt t = some i) (hik : i.k = .bool)
    (hx : evo sl x = some (.p (.val (.bool a)))) (hy : evo sl y = some (.p (.val (.bool b)))) (hc : cmpB op a b = some c)
    (hK : K ⟨(d, .p (.val (.bool c))) :: sl, ob⟩) : OpOk C o K ⟨sl, ob⟩ := by
  obtain ⟨u, h1, h2⟩ := und_of C.good hi
  have h3 := kind_bool (h2.trans hik)
  subst h3
  refine ok_one hd hn (fun g w' w hs => ⟨_, ?_, .p (.val _)⟩) hK
  cases op <;> simp only [cmpB, Option.some.injEq, reduceCtorEq] at hc <;> subst hc <;>
    simp [execOp, ho, evo_val hs hx, evo_val hs hy, eqGuard_bool, binOp, run_equal_bool _ _ _ _ h1]
end

/-- What was there is as it was; new blocks of any kind may lie behind it. -/
structure Kept (W w' : World) : Prop where
  frame : ∀ may : MemPlace → Prop, W.keptBut w' may
  frozen : ∀ a : Addr, a.block < W.heap.size → w'.frozen? a = W.frozen? a
  size : W.heap.size ≤ w'.heap.size
  block : ∀ b, b < W.heap.size → w'.heap[b]? = W.heap[b]?

theorem After.kept {w w' : World} {st : Nat → Nat → Prop} {g' : Gh} (h : After w st w' g') : Kept w w' := by
  refine ⟨fun may => ⟨h.os, h.out, fun i hi => ?_⟩, fun a hb => ?_, h.size, h.fr⟩
  · rw [h.fr i hi]
    rw [Array.getElem?_eq_getElem hi]
    cases w.heap[i] <;> simp
  · simp only [World.frozen?, h.fr _ hb]

theorem str_of (a : ByteArray) : str a.data.toList = a := by
  cases a; rfl

/-- From a contract to the walk of a row whose parameters are texts, whole numbers and truth values. -/
theorem grown_of {P : Program} {f : FuncId} {args : List PV} {vs : Array Value} {b : Bool} (h : PCalls P f args (· = .p (.val (.bool b)))) (w : World) (hgl : GlobOk w (fun b _ => b < w.heap.size)) (hsz : vs.size = args.length)
    (ha : ∀ (i : Nat) c v, args[i]? = some c → vs[i]? = some v → PRep w (fun b _ => b < w.heap.size) c v) :
    Calls P f vs w fun e w' => e = .returned (.bool b) ∧ Kept w w' := by
  refine (h w (fun b _ => b < w.heap.size) vs ⟨fun b o h => h, hgl⟩ hsz ha).mono ?_
  rintro e w' ⟨v, r, g', rfl, rfl, hr, hA⟩
  cases hr with | p h => cases h; exact ⟨rfl, hA.kept⟩

end Go.Ab
