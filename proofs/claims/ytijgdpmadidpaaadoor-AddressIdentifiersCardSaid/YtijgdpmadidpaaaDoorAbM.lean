/- A layer of abstract values over the model's worlds, part M: the arguments of a row. It holds for every program. -/
import Derived.Test.YtijgdpmadidpaaaDoorAbL
set_option linter.unusedVariables false
set_option linter.unusedSimpArgs false
set_option linter.unnecessarySimpa false
namespace Go.Ab

def RepL (w : World) (st : Nat → Nat → Prop) : List PV → List Value → Prop
  | [], [] => True
  | c :: cs, v :: vs => PRep w st c v ∧ RepL w st cs vs
  | _, _ => False

theorem repL_get {w : World} {st : Nat → Nat → Prop} : ∀ {cs : List PV} {vs : List Value}, RepL w st cs vs → ∀ (i : Nat) c v, cs[i]? = some c → vs[i]? = some v → PRep w st c v
  | [], [], _, i, c, v, h, _ => by simp at h
  | c0 :: cs, v0 :: vs, hr, 0, c, v, h1, h2 => by
    simp only [List.getElem?_cons_zero, Option.some.injEq] at h1 h2
    subst h1 h2; exact hr.1
  | c0 :: cs, v0 :: vs, hr, i + 1, c, v, h1, h2 => by
    simp only [List.getElem?_cons_succ] at h1 h2
    exact repL_get hr.2 i c v h1 h2
  | [], _ :: _, hr, _, _, _, _, _ => hr.elim
  | _ :: _, [], hr, _, _, _, _, _ => hr.elim

theorem prep_str {w : World} {st : Nat → Nat → Prop} (a : ByteArray) : PRep w st (.val (.string (str a.data.toList))) (.string a) := by
  have h : PRep w st (.val (.string (str a.data.toList))) (.string (str a.data.toList)) := .val _
  rwa [str_of a] at h

theorem grown_row {P : Program} {f : FuncId} {args : List PV} {vs : List Value} {b : Bool} (h : PCalls P f args (· = .p (.val (.bool b)))) (w : World) (hgl : GlobOk w (fun b _ => b < w.heap.size)) (hsz : vs.length = args.length)
    (ha : RepL w (fun b _ => b < w.heap.size) args vs) : Calls P f vs.toArray w fun e w' => e = .returned (.bool b) ∧ Kept w w' :=
  grown_of h w hgl (by simpa using hsz) fun i c v h1 h2 => repL_get ha i c v h1 (by simpa using h2)

end Go.Ab
