/- More fuel, the same answer: what the examples reach. The examples of chapter 06. No program in sight. -/
import Derived.Test.YtijgdpmadidpaaaGreatDoorR06
import Derived.Test.YtijgdpmadidpaaaGreatDoorAbMc
import Derived.Test.YtijgdpmadidpaaaGreatDoorAbEv
set_option linter.unusedVariables false
set_option linter.unusedSimpArgs false
set_option linter.unnecessarySimpa false
namespace Go.Ab.R06
open Go.Ab


theorem address_Identifier_l1_le {s_0 : Bytes} : ∀ (m m' : Nat), m ≤ m' → ∀ (y0 : Int), Le (address_Identifier_l1 s_0 m y0) (address_Identifier_l1 s_0 m' y0) := by
 intro m
 induction m with
 | zero => intro m' _ y0; exact le_none _
 | succ m ih =>
 intro m' hm y0
 cases m' with
 | zero => omega
 | succ m' =>
 simp only [address_Identifier_l1]
 repeat' (with_reducible (first | exact le_refl _ | apply ih | refine le_ck ?_ | refine le_ite ?_ ?_ | refine le_bind ?_ (fun _ => ?_) | refine le_jn ?_ (fun _ => ?_) | omega | intro _))

theorem address_Identifier_le {n n' : Nat} (hn : n ≤ n') {s_0 : Bytes} : Le (address_Identifier n s_0) (address_Identifier n' s_0) := by
 simp only [address_Identifier]
 repeat' (with_reducible (first | exact le_refl _ | apply address_Identifier_l1_le | refine le_ck ?_ | refine le_ite ?_ ?_ | refine le_bind ?_ (fun _ => ?_) | refine le_jn ?_ (fun _ => ?_) | omega | intro _))

theorem address_reader_word_le {n n' : Nat} (hn : n ≤ n') {r_0 : Treader} : Le (address_reader_word n r_0) (address_reader_word n' r_0) := by
 simp only [address_reader_word]
 repeat' (with_reducible (first | exact le_refl _ | apply address_Identifier_le | refine le_ck ?_ | refine le_ite ?_ ?_ | refine le_bind ?_ (fun _ => ?_) | refine le_jn ?_ (fun _ => ?_) | omega | intro _))

theorem strlit_Quote_l1_le {s_0 : Bytes} : ∀ (m m' : Nat), m ≤ m' → ∀ (y0 : Int) (y1 : List UInt8), Le (strlit_Quote_l1 s_0 m y0 y1) (strlit_Quote_l1 s_0 m' y0 y1) := by
 intro m
 induction m with
 | zero => intro m' _ y0 y1; exact le_none _
 | succ m ih =>
 intro m' hm y0 y1
 cases m' with
 | zero => omega
 | succ m' =>
 simp only [strlit_Quote_l1]
 repeat' (with_reducible (first | exact le_refl _ | apply ih | refine le_ck ?_ | refine le_ite ?_ ?_ | refine le_bind ?_ (fun _ => ?_) | refine le_jn ?_ (fun _ => ?_) | omega | intro _))

theorem strlit_Quote_le {n n' : Nat} (hn : n ≤ n') {s_0 : Bytes} : Le (strlit_Quote n s_0) (strlit_Quote n' s_0) := by
 simp only [strlit_Quote]
 repeat' (with_reducible (first | exact le_refl _ | apply strlit_Quote_l1_le | refine le_ck ?_ | refine le_ite ?_ ?_ | refine le_bind ?_ (fun _ => ?_) | refine le_jn ?_ (fun _ => ?_) | omega | intro _))

theorem strlit_hexadecimal_l1_le {s_0 : Bytes} : ∀ (m m' : Nat), m ≤ m' → ∀ (y0 : Int) (y1 : Int), Le (strlit_hexadecimal_l1 s_0 m y0 y1) (strlit_hexadecimal_l1 s_0 m' y0 y1) := by
 intro m
 induction m with
 | zero => intro m' _ y0 y1; exact le_none _
 | succ m ih =>
 intro m' hm y0 y1
 cases m' with
 | zero => omega
 | succ m' =>
 simp only [strlit_hexadecimal_l1]
 repeat' (with_reducible (first | exact le_refl _ | apply ih | refine le_ck ?_ | refine le_ite ?_ ?_ | refine le_bind ?_ (fun _ => ?_) | refine le_jn ?_ (fun _ => ?_) | omega | intro _))

theorem strlit_hexadecimal_le {n n' : Nat} (hn : n ≤ n') {s_0 : Bytes} : Le (strlit_hexadecimal n s_0) (strlit_hexadecimal n' s_0) := by
 simp only [strlit_hexadecimal]
 repeat' (with_reducible (first | exact le_refl _ | apply strlit_hexadecimal_l1_le | refine le_ck ?_ | refine le_ite ?_ ?_ | refine le_bind ?_ (fun _ => ?_) | refine le_jn ?_ (fun _ => ?_) | omega | intro _))

theorem strlit_escape_le {n n' : Nat} (hn : n ≤ n') {s_0 : Bytes} : Le (strlit_escape n s_0) (strlit_escape n' s_0) := by
 simp only [strlit_escape]
 repeat' (with_reducible (first | exact le_refl _ | apply strlit_hexadecimal_le | refine le_ck ?_ | refine le_ite ?_ ?_ | refine le_bind ?_ (fun _ => ?_) | refine le_jn ?_ (fun _ => ?_) | omega | intro _))

theorem strlit_Unquote_l1_le {n n' : Nat} (hn : n ≤ n') {s_0 : Bytes} : ∀ (m m' : Nat), m ≤ m' → ∀ (y0 : Int) (y1 : List UInt8), Le (strlit_Unquote_l1 n s_0 m y0 y1) (strlit_Unquote_l1 n' s_0 m' y0 y1) := by
 intro m
 induction m with
 | zero => intro m' _ y0 y1; exact le_none _
 | succ m ih =>
 intro m' hm y0 y1
 cases m' with
 | zero => omega
 | succ m' =>
 simp only [strlit_Unquote_l1]
 repeat' (with_reducible (first | exact le_refl _ | apply ih | apply strlit_escape_le | refine le_ck ?_ | refine le_ite ?_ ?_ | refine le_bind ?_ (fun _ => ?_) | refine le_jn ?_ (fun _ => ?_) | omega | intro _))

theorem strlit_Unquote_le {n n' : Nat} (hn : n ≤ n') {s_0 : Bytes} : Le (strlit_Unquote n s_0) (strlit_Unquote n' s_0) := by
 simp only [strlit_Unquote]
 repeat' (with_reducible (first | exact le_refl _ | apply strlit_Unquote_l1_le | refine le_ck ?_ | refine le_ite ?_ ?_ | refine le_bind ?_ (fun _ => ?_) | refine le_jn ?_ (fun _ => ?_) | omega | intro _))

theorem number_canonical_l1_le {s7 : Bytes} : ∀ (m m' : Nat), m ≤ m' → ∀ (y0 : Int), Le (number_canonical_l1 s7 m y0) (number_canonical_l1 s7 m' y0) := by
 intro m
 induction m with
 | zero => intro m' _ y0; exact le_none _
 | succ m ih =>
 intro m' hm y0
 cases m' with
 | zero => omega
 | succ m' =>
 simp only [number_canonical_l1]
 repeat' (with_reducible (first | exact le_refl _ | apply ih | refine le_ck ?_ | refine le_ite ?_ ?_ | refine le_bind ?_ (fun _ => ?_) | refine le_jn ?_ (fun _ => ?_) | omega | intro _))

theorem number_canonical_le {n n' : Nat} (hn : n ≤ n') {s_0 : Bytes} : Le (number_canonical n s_0) (number_canonical n' s_0) := by
 simp only [number_canonical]
 repeat' (with_reducible (first | exact le_refl _ | apply number_canonical_l1_le | refine le_ck ?_ | refine le_ite ?_ ?_ | refine le_bind ?_ (fun _ => ?_) | refine le_jn ?_ (fun _ => ?_) | omega | intro _))

theorem number_Parse_le {n n' : Nat} (hn : n ≤ n') {s_0 : Bytes} : Le (number_Parse n s_0) (number_Parse n' s_0) := by
 simp only [number_Parse]
 repeat' (with_reducible (first | exact le_refl _ | apply number_canonical_le | refine le_ck ?_ | refine le_ite ?_ ?_ | refine le_bind ?_ (fun _ => ?_) | refine le_jn ?_ (fun _ => ?_) | omega | intro _))

theorem address_reader_key_le {n n' : Nat} (hn : n ≤ n') {r_0 : Treader} : Le (address_reader_key n r_0) (address_reader_key n' r_0) := by
 simp only [address_reader_key]
 repeat' (with_reducible (first | exact le_refl _ | apply strlit_Unquote_le | apply strlit_Quote_le | apply number_Parse_le | refine le_ck ?_ | refine le_ite ?_ ?_ | refine le_bind ?_ (fun _ => ?_) | refine le_jn ?_ (fun _ => ?_) | omega | intro _))

theorem address_reader_step_le {n n' : Nat} (hn : n ≤ n') {r_0 : Treader} : Le (address_reader_step n r_0) (address_reader_step n' r_0) := by
 simp only [address_reader_step]
 repeat' (with_reducible (first | exact le_refl _ | apply address_reader_word_le | apply address_reader_key_le | refine le_ck ?_ | refine le_ite ?_ ?_ | refine le_bind ?_ (fun _ => ?_) | refine le_jn ?_ (fun _ => ?_) | omega | intro _))

theorem address_kind_le {n n' : Nat} (hn : n ≤ n') {s_0 : Bytes} : Le (address_kind n s_0) (address_kind n' s_0) := by
 simp only [address_kind]
 repeat' (with_reducible (first | exact le_refl _ | apply address_Identifier_le | refine le_ck ?_ | refine le_ite ?_ ?_ | refine le_bind ?_ (fun _ => ?_) | refine le_jn ?_ (fun _ => ?_) | omega | intro _))

theorem address_Parse_l1_le {n n' : Nat} (hn : n ≤ n') : ∀ (m m' : Nat), m ≤ m' → ∀ (y0 : List TModuleStep) (y1 : Bytes) (y2 : Bool), Le (address_Parse_l1 n m y0 y1 y2) (address_Parse_l1 n' m' y0 y1 y2) := by
 intro m
 induction m with
 | zero => intro m' _ y0 y1 y2; exact le_none _
 | succ m ih =>
 intro m' hm y0 y1 y2
 cases m' with
 | zero => omega
 | succ m' =>
 simp only [address_Parse_l1]
 repeat' (with_reducible (first | exact le_refl _ | apply ih | apply address_reader_step_le | refine le_ck ?_ | refine le_ite ?_ ?_ | refine le_bind ?_ (fun _ => ?_) | refine le_jn ?_ (fun _ => ?_) | omega | intro _))

theorem address_Parse_le {n n' : Nat} (hn : n ≤ n') {s_0 : Bytes} : Le (address_Parse n s_0) (address_Parse n' s_0) := by
 simp only [address_Parse]
 repeat' (with_reducible (first | exact le_refl _ | apply address_Parse_l1_le | apply address_reader_word_le | apply address_reader_key_le | apply address_kind_le | refine le_ck ?_ | refine le_ite ?_ ?_ | refine le_bind ?_ (fun _ => ?_) | refine le_jn ?_ (fun _ => ?_) | omega | intro _))

theorem law06_Same_l1_le {a_0 : TAddress} {b_1 : TAddress} : ∀ (m m' : Nat), m ≤ m' → ∀ (y0 : Int), Le (law06_Same_l1 a_0 b_1 m y0) (law06_Same_l1 a_0 b_1 m' y0) := by
 intro m
 induction m with
 | zero => intro m' _ y0; exact le_none _
 | succ m ih =>
 intro m' hm y0
 cases m' with
 | zero => omega
 | succ m' =>
 simp only [law06_Same_l1]
 repeat' (with_reducible (first | exact le_refl _ | apply ih | refine le_ck ?_ | refine le_ite ?_ ?_ | refine le_bind ?_ (fun _ => ?_) | refine le_jn ?_ (fun _ => ?_) | omega | intro _))

theorem law06_Same_le {n n' : Nat} (hn : n ≤ n') {a_0 : TAddress} {b_1 : TAddress} : Le (law06_Same n a_0 b_1) (law06_Same n' a_0 b_1) := by
 simp only [law06_Same]
 repeat' (with_reducible (first | exact le_refl _ | apply law06_Same_l1_le | refine le_ck ?_ | refine le_ite ?_ ?_ | refine le_bind ?_ (fun _ => ?_) | refine le_jn ?_ (fun _ => ?_) | omega | intro _))

theorem address_Check_l1_le {n n' : Nat} (hn : n ≤ n') {a_0 : TAddress} : ∀ (m m' : Nat), m ≤ m' → ∀ (y0 : Int), Le (address_Check_l1 n a_0 m y0) (address_Check_l1 n' a_0 m' y0) := by
 intro m
 induction m with
 | zero => intro m' _ y0; exact le_none _
 | succ m ih =>
 intro m' hm y0
 cases m' with
 | zero => omega
 | succ m' =>
 simp only [address_Check_l1]
 repeat' (with_reducible (first | exact le_refl _ | apply ih | apply address_Identifier_le | refine le_ck ?_ | refine le_ite ?_ ?_ | refine le_bind ?_ (fun _ => ?_) | refine le_jn ?_ (fun _ => ?_) | omega | intro _))

theorem address_Check_le {n n' : Nat} (hn : n ≤ n') {a_0 : TAddress} : Le (address_Check n a_0) (address_Check n' a_0) := by
 simp only [address_Check]
 repeat' (with_reducible (first | exact le_refl _ | apply address_Check_l1_le | apply address_kind_le | apply address_Identifier_le | refine le_ck ?_ | refine le_ite ?_ ?_ | refine le_bind ?_ (fun _ => ?_) | refine le_jn ?_ (fun _ => ?_) | omega | intro _))

theorem address_FormatKey_le {n n' : Nat} (hn : n ≤ n') {k_0 : TKey} : Le (address_FormatKey n k_0) (address_FormatKey n' k_0) := by
 simp only [address_FormatKey]
 repeat' (with_reducible (first | exact le_refl _ | apply strlit_Quote_le | refine le_ck ?_ | refine le_ite ?_ ?_ | refine le_bind ?_ (fun _ => ?_) | refine le_jn ?_ (fun _ => ?_) | omega | intro _))

theorem address_Format_l1_le {n n' : Nat} (hn : n ≤ n') {a_0 : TAddress} : ∀ (m m' : Nat), m ≤ m' → ∀ (y0 : Int) (y1 : List UInt8), Le (address_Format_l1 n a_0 m y0 y1) (address_Format_l1 n' a_0 m' y0 y1) := by
 intro m
 induction m with
 | zero => intro m' _ y0 y1; exact le_none _
 | succ m ih =>
 intro m' hm y0 y1
 cases m' with
 | zero => omega
 | succ m' =>
 simp only [address_Format_l1]
 repeat' (with_reducible (first | exact le_refl _ | apply ih | apply address_FormatKey_le | refine le_ck ?_ | refine le_ite ?_ ?_ | refine le_bind ?_ (fun _ => ?_) | refine le_jn ?_ (fun _ => ?_) | omega | intro _))

theorem address_Format_le {n n' : Nat} (hn : n ≤ n') {a_0 : TAddress} : Le (address_Format n a_0) (address_Format n' a_0) := by
 simp only [address_Format]
 repeat' (with_reducible (first | exact le_refl _ | apply address_Check_le | apply address_Format_l1_le | apply address_FormatKey_le | refine le_ck ?_ | refine le_ite ?_ ?_ | refine le_bind ?_ (fun _ => ?_) | refine le_jn ?_ (fun _ => ?_) | omega | intro _))

theorem address_static_l1_le : ∀ (m m' : Nat), m ≤ m' → Le (address_static_l1 m ) (address_static_l1 m' ) := by
 intro m
 induction m with
 | zero => intro m' _ ; exact le_none _
 | succ m ih =>
 intro m' hm 
 cases m' with
 | zero => omega
 | succ m' =>
 simp only [address_static_l1]
 repeat' (with_reducible (first | exact le_refl _ | apply ih | refine le_ck ?_ | refine le_ite ?_ ?_ | refine le_bind ?_ (fun _ => ?_) | refine le_jn ?_ (fun _ => ?_) | omega | intro _))

theorem address_static_l2_le {a_0 : TAddress} : ∀ (m m' : Nat), m ≤ m' → ∀ (y0 : Int) (y1 : List TModuleStep), Le (address_static_l2 a_0 m y0 y1) (address_static_l2 a_0 m' y0 y1) := by
 intro m
 induction m with
 | zero => intro m' _ y0 y1; exact le_none _
 | succ m ih =>
 intro m' hm y0 y1
 cases m' with
 | zero => omega
 | succ m' =>
 simp only [address_static_l2]
 repeat' (with_reducible (first | exact le_refl _ | apply ih | refine le_ck ?_ | refine le_ite ?_ ?_ | refine le_bind ?_ (fun _ => ?_) | refine le_jn ?_ (fun _ => ?_) | omega | intro _))

theorem address_static_le {n n' : Nat} (hn : n ≤ n') {a_0 : TAddress} : Le (address_static n a_0) (address_static n' a_0) := by
 simp only [address_static]
 repeat' (with_reducible (first | exact le_refl _ | apply address_static_l1_le | apply address_static_l2_le | refine le_ck ?_ | refine le_ite ?_ ?_ | refine le_bind ?_ (fun _ => ?_) | refine le_jn ?_ (fun _ => ?_) | omega | intro _))

theorem address_Static_le {n n' : Nat} (hn : n ≤ n') {s_0 : Bytes} : Le (address_Static n s_0) (address_Static n' s_0) := by
 simp only [address_Static]
 repeat' (with_reducible (first | exact le_refl _ | apply address_Parse_le | apply address_static_le | apply address_Format_le | refine le_ck ?_ | refine le_ite ?_ ?_ | refine le_bind ?_ (fun _ => ?_) | refine le_jn ?_ (fun _ => ?_) | omega | intro _))

theorem address_below_l1_le {l_0 : List TModuleStep} {prefix_1 : List TModuleStep} : ∀ (m m' : Nat), m ≤ m' → ∀ (y0 : Int), Le (address_below_l1 l_0 prefix_1 m y0) (address_below_l1 l_0 prefix_1 m' y0) := by
 intro m
 induction m with
 | zero => intro m' _ y0; exact le_none _
 | succ m ih =>
 intro m' hm y0
 cases m' with
 | zero => omega
 | succ m' =>
 simp only [address_below_l1]
 repeat' (with_reducible (first | exact le_refl _ | apply ih | refine le_ck ?_ | refine le_ite ?_ ?_ | refine le_bind ?_ (fun _ => ?_) | refine le_jn ?_ (fun _ => ?_) | omega | intro _))

theorem address_below_le {n n' : Nat} (hn : n ≤ n') {l_0 : List TModuleStep} {prefix_1 : List TModuleStep} : Le (address_below n l_0 prefix_1) (address_below n' l_0 prefix_1) := by
 simp only [address_below]
 repeat' (with_reducible (first | exact le_refl _ | apply address_below_l1_le | refine le_ck ?_ | refine le_ite ?_ ?_ | refine le_bind ?_ (fun _ => ?_) | refine le_jn ?_ (fun _ => ?_) | omega | intro _))

theorem address_modulePath_l1_le {n n' : Nat} (hn : n ≤ n') : ∀ (m m' : Nat), m ≤ m' → ∀ (y0 : List TModuleStep) (y1 : Bytes) (y2 : Bool), Le (address_modulePath_l1 n m y0 y1 y2) (address_modulePath_l1 n' m' y0 y1 y2) := by
 intro m
 induction m with
 | zero => intro m' _ y0 y1 y2; exact le_none _
 | succ m ih =>
 intro m' hm y0 y1 y2
 cases m' with
 | zero => omega
 | succ m' =>
 simp only [address_modulePath_l1]
 repeat' (with_reducible (first | exact le_refl _ | apply ih | apply address_reader_step_le | refine le_ck ?_ | refine le_ite ?_ ?_ | refine le_bind ?_ (fun _ => ?_) | refine le_jn ?_ (fun _ => ?_) | omega | intro _))

theorem address_modulePath_le {n n' : Nat} (hn : n ≤ n') {s_0 : Bytes} : Le (address_modulePath n s_0) (address_modulePath n' s_0) := by
 simp only [address_modulePath]
 repeat' (with_reducible (first | exact le_refl _ | apply address_modulePath_l1_le | refine le_ck ?_ | refine le_ite ?_ ?_ | refine le_bind ?_ (fun _ => ?_) | refine le_jn ?_ (fun _ => ?_) | omega | intro _))

theorem address_Within_le {n n' : Nat} (hn : n ≤ n') {s_0 : Bytes} {prefix_1 : Bytes} : Le (address_Within n s_0 prefix_1) (address_Within n' s_0 prefix_1) := by
 simp only [address_Within]
 repeat' (with_reducible (first | exact le_refl _ | apply address_Parse_le | apply address_below_le | apply address_modulePath_le | refine le_ck ?_ | refine le_ite ?_ ?_ | refine le_bind ?_ (fun _ => ?_) | refine le_jn ?_ (fun _ => ?_) | omega | intro _))

theorem law06_awake_le {n n' : Nat} (hn : n ≤ n') : Le (law06_awake n) (law06_awake n') := by
 simp only [law06_awake]
 repeat' (with_reducible (first | exact le_refl _ | apply address_Parse_le | apply address_Static_le | apply address_Format_le | apply law06_Same_le | apply address_Within_le | apply address_Identifier_le | apply address_Check_le | refine le_ck ?_ | refine le_ite ?_ ?_ | refine le_bind ?_ (fun _ => ?_) | refine le_jn ?_ (fun _ => ?_) | omega | intro _))

end Go.Ab.R06

namespace Go.Ab.R06
open Go.Ab Go.Ab.RB
set_option maxRecDepth 100000 in
theorem awake_some : law06_awake 40 = some true := by decide +kernel
theorem awake_ev : Ev2 (fun n _ => law06_awake n) (· = true) := ev_once 40 awake_some (fun n hn => law06_awake_le hn) rfl
end Go.Ab.R06
