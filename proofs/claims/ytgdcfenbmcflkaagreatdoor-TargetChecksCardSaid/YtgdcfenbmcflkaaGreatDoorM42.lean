/- More fuel, the same answer: what the examples reach. -/
import Derived.Test.YtgdcfenbmcflkaaGreatDoorR42a
import Derived.Test.YtgdcfenbmcflkaaGreatDoorAbMc
import Derived.Test.YtgdcfenbmcflkaaGreatDoorAbEv
set_option linter.unusedVariables false
set_option linter.unusedSimpArgs false
set_option linter.unnecessarySimpa false
namespace Go.Ab.R06
open Go.Ab


theorem target_Check_l1_le {targets_0 : List Bytes} : ∀ (m m' : Nat), m ≤ m' → ∀ (y0 : Int), Le (target_Check_l1 targets_0 m y0) (target_Check_l1 targets_0 m' y0) := by
 intro m
 induction m with
 | zero => intro m' _ y0; exact le_none _
 | succ m ih =>
 intro m' hm y0
 cases m' with
 | zero => omega
 | succ m' =>
 simp only [target_Check_l1]
 repeat' (with_reducible (first | exact le_refl _ | apply ih | refine le_ck ?_ | refine le_ite ?_ ?_ | refine le_bind ?_ (fun _ => ?_) | refine le_jn ?_ (fun _ => ?_) | omega | intro _))

theorem target_Check_le {n n' : Nat} (hn : n ≤ n') {targets_0 : List Bytes} : Le (target_Check n targets_0) (target_Check n' targets_0) := by
 simp only [target_Check]
 repeat' (with_reducible (first | exact le_refl _ | apply target_Check_l1_le | refine le_ck ?_ | refine le_ite ?_ ?_ | refine le_bind ?_ (fun _ => ?_) | refine le_jn ?_ (fun _ => ?_) | omega | intro _))

theorem glob_Any_l1_le {patterns_0 : List Bytes} {s_1 : Bytes} : ∀ (m m' : Nat), m ≤ m' → ∀ (y0 : Int), Le (glob_Any_l1 patterns_0 s_1 m y0) (glob_Any_l1 patterns_0 s_1 m' y0) := by
 intro m
 induction m with
 | zero => intro m' _ y0; exact le_none _
 | succ m ih =>
 intro m' hm y0
 cases m' with
 | zero => omega
 | succ m' =>
 simp only [glob_Any_l1]
 repeat' (with_reducible (first | exact le_refl _ | apply ih | refine le_ck ?_ | refine le_ite ?_ ?_ | refine le_bind ?_ (fun _ => ?_) | refine le_jn ?_ (fun _ => ?_) | omega | intro _))

theorem glob_Any_le {n n' : Nat} (hn : n ≤ n') {patterns_0 : List Bytes} {s_1 : Bytes} : Le (glob_Any n patterns_0 s_1) (glob_Any n' patterns_0 s_1) := by
 simp only [glob_Any]
 repeat' (with_reducible (first | exact le_refl _ | apply glob_Any_l1_le | refine le_ck ?_ | refine le_ite ?_ ?_ | refine le_bind ?_ (fun _ => ?_) | refine le_jn ?_ (fun _ => ?_) | omega | intro _))

theorem address_Identifier_l1_le {s_0 : Bytes} : ∀ (m m' : Nat), m ≤ m' → ∀ (y0 : Int), Le (address_Identifier_l1 s_0 m y0) (address_Identifier_l1 s_0 m' y0) := by
 intro m
 induction m with
 | zero => intro m' _ y0; exact le_none _
 | succ m ih =>
 intro m' hm y0
 cases m' with
 | zero => omega
 | succ m' =>
 simp only [address_Identifier_l1]
 repeat' (with_reducible (first | exact le_refl _ | apply ih | refine le_ck ?_ | refine le_ite ?_ ?_ | refine le_bind ?_ (fun _ => ?_) | refine le_jn ?_ (fun _ => ?_) | omega | intro _))

theorem address_Identifier_le {n n' : Nat} (hn : n ≤ n') {s_0 : Bytes} : Le (address_Identifier n s_0) (address_Identifier n' s_0) := by
 simp only [address_Identifier]
 repeat' (with_reducible (first | exact le_refl _ | apply address_Identifier_l1_le | refine le_ck ?_ | refine le_ite ?_ ?_ | refine le_bind ?_ (fun _ => ?_) | refine le_jn ?_ (fun _ => ?_) | omega | intro _))

theorem address_reader_word_le {n n' : Nat} (hn : n ≤ n') {r_0 : Treader} : Le (address_reader_word n r_0) (address_reader_word n' r_0) := by
 simp only [address_reader_word]
 repeat' (with_reducible (first | exact le_refl _ | apply address_Identifier_le | refine le_ck ?_ | refine le_ite ?_ ?_ | refine le_bind ?_ (fun _ => ?_) | refine le_jn ?_ (fun _ => ?_) | omega | intro _))

theorem strlit_hexadecimal_l1_le {s_0 : Bytes} : ∀ (m m' : Nat), m ≤ m' → ∀ (y0 : Int) (y1 : Int), Le (strlit_hexadecimal_l1 s_0 m y0 y1) (strlit_hexadecimal_l1 s_0 m' y0 y1) := by
 intro m
 induction m with
 | zero => intro m' _ y0 y1; exact le_none _
 | succ m ih =>
 intro m' hm y0 y1
 cases m' with
 | zero => omega
 | succ m' =>
 simp only [strlit_hexadecimal_l1]
 repeat' (with_reducible (first | exact le_refl _ | apply ih | refine le_ck ?_ | refine le_ite ?_ ?_ | refine le_bind ?_ (fun _ => ?_) | refine le_jn ?_ (fun _ => ?_) | omega | intro _))

theorem strlit_hexadecimal_le {n n' : Nat} (hn : n ≤ n') {s_0 : Bytes} : Le (strlit_hexadecimal n s_0) (strlit_hexadecimal n' s_0) := by
 simp only [strlit_hexadecimal]
 repeat' (with_reducible (first | exact le_refl _ | apply strlit_hexadecimal_l1_le | refine le_ck ?_ | refine le_ite ?_ ?_ | refine le_bind ?_ (fun _ => ?_) | refine le_jn ?_ (fun _ => ?_) | omega | intro _))

theorem strlit_escape_le {n n' : Nat} (hn : n ≤ n') {s_0 : Bytes} : Le (strlit_escape n s_0) (strlit_escape n' s_0) := by
 simp only [strlit_escape]
 repeat' (with_reducible (first | exact le_refl _ | apply strlit_hexadecimal_le | refine le_ck ?_ | refine le_ite ?_ ?_ | refine le_bind ?_ (fun _ => ?_) | refine le_jn ?_ (fun _ => ?_) | omega | intro _))

theorem strlit_Unquote_l1_le {n n' : Nat} (hn : n ≤ n') {s_0 : Bytes} : ∀ (m m' : Nat), m ≤ m' → ∀ (y0 : Int) (y1 : List UInt8), Le (strlit_Unquote_l1 n s_0 m y0 y1) (strlit_Unquote_l1 n' s_0 m' y0 y1) := by
 intro m
 induction m with
 | zero => intro m' _ y0 y1; exact le_none _
 | succ m ih =>
 intro m' hm y0 y1
 cases m' with
 | zero => omega
 | succ m' =>
 simp only [strlit_Unquote_l1]
 repeat' (with_reducible (first | exact le_refl _ | apply ih | apply strlit_escape_le | refine le_ck ?_ | refine le_ite ?_ ?_ | refine le_bind ?_ (fun _ => ?_) | refine le_jn ?_ (fun _ => ?_) | omega | intro _))

theorem strlit_Unquote_le {n n' : Nat} (hn : n ≤ n') {s_0 : Bytes} : Le (strlit_Unquote n s_0) (strlit_Unquote n' s_0) := by
 simp only [strlit_Unquote]
 repeat' (with_reducible (first | exact le_refl _ | apply strlit_Unquote_l1_le | refine le_ck ?_ | refine le_ite ?_ ?_ | refine le_bind ?_ (fun _ => ?_) | refine le_jn ?_ (fun _ => ?_) | omega | intro _))

theorem strlit_Quote_l1_le {s_0 : Bytes} : ∀ (m m' : Nat), m ≤ m' → ∀ (y0 : Int) (y1 : List UInt8), Le (strlit_Quote_l1 s_0 m y0 y1) (strlit_Quote_l1 s_0 m' y0 y1) := by
 intro m
 induction m with
 | zero => intro m' _ y0 y1; exact le_none _
 | succ m ih =>
 intro m' hm y0 y1
 cases m' with
 | zero => omega
 | succ m' =>
 simp only [strlit_Quote_l1]
 repeat' (with_reducible (first | exact le_refl _ | apply ih | refine le_ck ?_ | refine le_ite ?_ ?_ | refine le_bind ?_ (fun _ => ?_) | refine le_jn ?_ (fun _ => ?_) | omega | intro _))

theorem strlit_Quote_le {n n' : Nat} (hn : n ≤ n') {s_0 : Bytes} : Le (strlit_Quote n s_0) (strlit_Quote n' s_0) := by
 simp only [strlit_Quote]
 repeat' (with_reducible (first | exact le_refl _ | apply strlit_Quote_l1_le | refine le_ck ?_ | refine le_ite ?_ ?_ | refine le_bind ?_ (fun _ => ?_) | refine le_jn ?_ (fun _ => ?_) | omega | intro _))

theorem number_canonical_l1_le {s7 : Bytes} : ∀ (m m' : Nat), m ≤ m' → ∀ (y0 : Int), Le (number_canonical_l1 s7 m y0) (number_canonical_l1 s7 m' y0) := by
 intro m
 induction m with
 | zero => intro m' _ y0; exact le_none _
 | succ m ih =>
 intro m' hm y0
 cases m' with
 | zero => omega
 | succ m' =>
 simp only [number_canonical_l1]
 repeat' (with_reducible (first | exact le_refl _ | apply ih | refine le_ck ?_ | refine le_ite ?_ ?_ | refine le_bind ?_ (fun _ => ?_) | refine le_jn ?_ (fun _ => ?_) | omega | intro _))

theorem number_canonical_le {n n' : Nat} (hn : n ≤ n') {s_0 : Bytes} : Le (number_canonical n s_0) (number_canonical n' s_0) := by
 simp only [number_canonical]
 repeat' (with_reducible (first | exact le_refl _ | apply number_canonical_l1_le | refine le_ck ?_ | refine le_ite ?_ ?_ | refine le_bind ?_ (fun _ => ?_) | refine le_jn ?_ (fun _ => ?_) | omega | intro _))

theorem number_Parse_le {n n' : Nat} (hn : n ≤ n') {s_0 : Bytes} : Le (number_Parse n s_0) (number_Parse n' s_0) := by
 simp only [number_Parse]
 repeat' (with_reducible (first | exact le_refl _ | apply number_canonical_le | refine le_ck ?_ | refine le_ite ?_ ?_ | refine le_bind ?_ (fun _ => ?_) | refine le_jn ?_ (fun _ => ?_) | omega | intro _))

theorem address_reader_key_le {n n' : Nat} (hn : n ≤ n') {r_0 : Treader} : Le (address_reader_key n r_0) (address_reader_key n' r_0) := by
 simp only [address_reader_key]
 repeat' (with_reducible (first | exact le_refl _ | apply strlit_Unquote_le | apply strlit_Quote_le | apply number_Parse_le | refine le_ck ?_ | refine le_ite ?_ ?_ | refine le_bind ?_ (fun _ => ?_) | refine le_jn ?_ (fun _ => ?_) | omega | intro _))

theorem address_reader_step_le {n n' : Nat} (hn : n ≤ n') {r_0 : Treader} : Le (address_reader_step n r_0) (address_reader_step n' r_0) := by
 simp only [address_reader_step]
 repeat' (with_reducible (first | exact le_refl _ | apply address_reader_word_le | apply address_reader_key_le | refine le_ck ?_ | refine le_ite ?_ ?_ | refine le_bind ?_ (fun _ => ?_) | refine le_jn ?_ (fun _ => ?_) | omega | intro _))

theorem address_kind_le {n n' : Nat} (hn : n ≤ n') {s_0 : Bytes} : Le (address_kind n s_0) (address_kind n' s_0) := by
 simp only [address_kind]
 repeat' (with_reducible (first | exact le_refl _ | apply address_Identifier_le | refine le_ck ?_ | refine le_ite ?_ ?_ | refine le_bind ?_ (fun _ => ?_) | refine le_jn ?_ (fun _ => ?_) | omega | intro _))

theorem address_Parse_l1_le {n n' : Nat} (hn : n ≤ n') : ∀ (m m' : Nat), m ≤ m' → ∀ (y0 : List TModuleStep) (y1 : Bytes) (y2 : Bool), Le (address_Parse_l1 n m y0 y1 y2) (address_Parse_l1 n' m' y0 y1 y2) := by
 intro m
 induction m with
 | zero => intro m' _ y0 y1 y2; exact le_none _
 | succ m ih =>
 intro m' hm y0 y1 y2
 cases m' with
 | zero => omega
 | succ m' =>
 simp only [address_Parse_l1]
 repeat' (with_reducible (first | exact le_refl _ | apply ih | apply address_reader_step_le | refine le_ck ?_ | refine le_ite ?_ ?_ | refine le_bind ?_ (fun _ => ?_) | refine le_jn ?_ (fun _ => ?_) | omega | intro _))

theorem address_Parse_le {n n' : Nat} (hn : n ≤ n') {s_0 : Bytes} : Le (address_Parse n s_0) (address_Parse n' s_0) := by
 simp only [address_Parse]
 repeat' (with_reducible (first | exact le_refl _ | apply address_Parse_l1_le | apply address_reader_word_le | apply address_reader_key_le | apply address_kind_le | refine le_ck ?_ | refine le_ite ?_ ?_ | refine le_bind ?_ (fun _ => ?_) | refine le_jn ?_ (fun _ => ?_) | omega | intro _))

theorem address_Check_l1_le {n n' : Nat} (hn : n ≤ n') {a_0 : TAddress} : ∀ (m m' : Nat), m ≤ m' → ∀ (y0 : Int), Le (address_Check_l1 n a_0 m y0) (address_Check_l1 n' a_0 m' y0) := by
 intro m
 induction m with
 | zero => intro m' _ y0; exact le_none _
 | succ m ih =>
 intro m' hm y0
 cases m' with
 | zero => omega
 | succ m' =>
 simp only [address_Check_l1]
 repeat' (with_reducible (first | exact le_refl _ | apply ih | apply address_Identifier_le | refine le_ck ?_ | refine le_ite ?_ ?_ | refine le_bind ?_ (fun _ => ?_) | refine le_jn ?_ (fun _ => ?_) | omega | intro _))

theorem address_Check_le {n n' : Nat} (hn : n ≤ n') {a_0 : TAddress} : Le (address_Check n a_0) (address_Check n' a_0) := by
 simp only [address_Check]
 repeat' (with_reducible (first | exact le_refl _ | apply address_Check_l1_le | apply address_kind_le | apply address_Identifier_le | refine le_ck ?_ | refine le_ite ?_ ?_ | refine le_bind ?_ (fun _ => ?_) | refine le_jn ?_ (fun _ => ?_) | omega | intro _))

theorem address_FormatKey_le {n n' : Nat} (hn : n ≤ n') {k_0 : TKey} : Le (address_FormatKey n k_0) (address_FormatKey n' k_0) := by
 simp only [address_FormatKey]
 repeat' (with_reducible (first | exact le_refl _ | apply strlit_Quote_le | refine le_ck ?_ | refine le_ite ?_ ?_ | refine le_bind ?_ (fun _ => ?_) | refine le_jn ?_ (fun _ => ?_) | omega | intro _))

theorem address_Format_l1_le {n n' : Nat} (hn : n ≤ n') {a_0 : TAddress} : ∀ (m m' : Nat), m ≤ m' → ∀ (y0 : Int) (y1 : List UInt8), Le (address_Format_l1 n a_0 m y0 y1) (address_Format_l1 n' a_0 m' y0 y1) := by
 intro m
 induction m with
 | zero => intro m' _ y0 y1; exact le_none _
 | succ m ih =>
 intro m' hm y0 y1
 cases m' with
 | zero => omega
 | succ m' =>
 simp only [address_Format_l1]
 repeat' (with_reducible (first | exact le_refl _ | apply ih | apply address_FormatKey_le | refine le_ck ?_ | refine le_ite ?_ ?_ | refine le_bind ?_ (fun _ => ?_) | refine le_jn ?_ (fun _ => ?_) | omega | intro _))

theorem address_Format_le {n n' : Nat} (hn : n ≤ n') {a_0 : TAddress} : Le (address_Format n a_0) (address_Format n' a_0) := by
 simp only [address_Format]
 repeat' (with_reducible (first | exact le_refl _ | apply address_Check_le | apply address_Format_l1_le | apply address_FormatKey_le | refine le_ck ?_ | refine le_ite ?_ ?_ | refine le_bind ?_ (fun _ => ?_) | refine le_jn ?_ (fun _ => ?_) | omega | intro _))

theorem address_static_l1_le : ∀ (m m' : Nat), m ≤ m' → Le (address_static_l1 m ) (address_static_l1 m' ) := by
 intro m
 induction m with
 | zero => intro m' _ ; exact le_none _
 | succ m ih =>
 intro m' hm 
 cases m' with
 | zero => omega
 | succ m' =>
 simp only [address_static_l1]
 repeat' (with_reducible (first | exact le_refl _ | apply ih | refine le_ck ?_ | refine le_ite ?_ ?_ | refine le_bind ?_ (fun _ => ?_) | refine le_jn ?_ (fun _ => ?_) | omega | intro _))

theorem address_static_l2_le {a_0 : TAddress} : ∀ (m m' : Nat), m ≤ m' → ∀ (y0 : Int) (y1 : List TModuleStep), Le (address_static_l2 a_0 m y0 y1) (address_static_l2 a_0 m' y0 y1) := by
 intro m
 induction m with
 | zero => intro m' _ y0 y1; exact le_none _
 | succ m ih =>
 intro m' hm y0 y1
 cases m' with
 | zero => omega
 | succ m' =>
 simp only [address_static_l2]
 repeat' (with_reducible (first | exact le_refl _ | apply ih | refine le_ck ?_ | refine le_ite ?_ ?_ | refine le_bind ?_ (fun _ => ?_) | refine le_jn ?_ (fun _ => ?_) | omega | intro _))

theorem address_static_le {n n' : Nat} (hn : n ≤ n') {a_0 : TAddress} : Le (address_static n a_0) (address_static n' a_0) := by
 simp only [address_static]
 repeat' (with_reducible (first | exact le_refl _ | apply address_static_l1_le | apply address_static_l2_le | refine le_ck ?_ | refine le_ite ?_ ?_ | refine le_bind ?_ (fun _ => ?_) | refine le_jn ?_ (fun _ => ?_) | omega | intro _))

theorem address_Static_le {n n' : Nat} (hn : n ≤ n') {s_0 : Bytes} : Le (address_Static n s_0) (address_Static n' s_0) := by
 simp only [address_Static]
 repeat' (with_reducible (first | exact le_refl _ | apply address_Parse_le | apply address_static_le | apply address_Format_le | refine le_ck ?_ | refine le_ite ?_ ?_ | refine le_bind ?_ (fun _ => ?_) | refine le_jn ?_ (fun _ => ?_) | omega | intro _))

theorem target_Selected_le {n n' : Nat} (hn : n ≤ n') {targets_0 : List Bytes} {addr_1 : Bytes} : Le (target_Selected n targets_0 addr_1) (target_Selected n' targets_0 addr_1) := by
 simp only [target_Selected]
 repeat' (with_reducible (first | exact le_refl _ | apply glob_Any_le | apply address_Static_le | refine le_ck ?_ | refine le_ite ?_ ?_ | refine le_bind ?_ (fun _ => ?_) | refine le_jn ?_ (fun _ => ?_) | omega | intro _))

theorem graph_only_l1_le {l_0 : List Bytes} {in_1 : List (Bytes × Bool)} : ∀ (m m' : Nat), m ≤ m' → ∀ (y0 : List Bytes) (y1 : Int), Le (graph_only_l1 l_0 in_1 m y0 y1) (graph_only_l1 l_0 in_1 m' y0 y1) := by
 intro m
 induction m with
 | zero => intro m' _ y0 y1; exact le_none _
 | succ m ih =>
 intro m' hm y0 y1
 cases m' with
 | zero => omega
 | succ m' =>
 simp only [graph_only_l1]
 repeat' (with_reducible (first | exact le_refl _ | apply ih | refine le_ck ?_ | refine le_ite ?_ ?_ | refine le_bind ?_ (fun _ => ?_) | refine le_jn ?_ (fun _ => ?_) | omega | intro _))

theorem graph_only_le {n n' : Nat} (hn : n ≤ n') {l_0 : List Bytes} {in_1 : List (Bytes × Bool)} : Le (graph_only n l_0 in_1) (graph_only n' l_0 in_1) := by
 simp only [graph_only]
 repeat' (with_reducible (first | exact le_refl _ | apply graph_only_l1_le | refine le_ck ?_ | refine le_ite ?_ ?_ | refine le_bind ?_ (fun _ => ?_) | refine le_jn ?_ (fun _ => ?_) | omega | intro _))

theorem graph_set_l1_le {l_0 : List Bytes} : ∀ (m m' : Nat), m ≤ m' → ∀ (y0 : List (Bytes × Bool)) (y1 : Int), Le (graph_set_l1 l_0 m y0 y1) (graph_set_l1 l_0 m' y0 y1) := by
 intro m
 induction m with
 | zero => intro m' _ y0 y1; exact le_none _
 | succ m ih =>
 intro m' hm y0 y1
 cases m' with
 | zero => omega
 | succ m' =>
 simp only [graph_set_l1]
 repeat' (with_reducible (first | exact le_refl _ | apply ih | refine le_ck ?_ | refine le_ite ?_ ?_ | refine le_bind ?_ (fun _ => ?_) | refine le_jn ?_ (fun _ => ?_) | omega | intro _))

theorem graph_set_le {n n' : Nat} (hn : n ≤ n') {l_0 : List Bytes} : Le (graph_set n l_0) (graph_set n' l_0) := by
 simp only [graph_set]
 repeat' (with_reducible (first | exact le_refl _ | apply graph_set_l1_le | refine le_ck ?_ | refine le_ite ?_ ?_ | refine le_bind ?_ (fun _ => ?_) | refine le_jn ?_ (fun _ => ?_) | omega | intro _))

theorem graph_reached_l2_le {to_0 : List (Bytes × (List Bytes))} {todo39 : List Bytes} : ∀ (m m' : Nat), m ≤ m' → ∀ (y0 : List (Bytes × Bool)) (y1 : List Bytes) (y2 : Int), Le (graph_reached_l2 to_0 todo39 m y0 y1 y2) (graph_reached_l2 to_0 todo39 m' y0 y1 y2) := by
 intro m
 induction m with
 | zero => intro m' _ y0 y1 y2; exact le_none _
 | succ m ih =>
 intro m' hm y0 y1 y2
 cases m' with
 | zero => omega
 | succ m' =>
 simp only [graph_reached_l2]
 repeat' (with_reducible (first | exact le_refl _ | apply ih | refine le_ck ?_ | refine le_ite ?_ ?_ | refine le_bind ?_ (fun _ => ?_) | refine le_jn ?_ (fun _ => ?_) | omega | intro _))

theorem graph_reached_l3_le {n n' : Nat} (hn : n ≤ n') {to_0 : List (Bytes × (List Bytes))} : ∀ (m m' : Nat), m ≤ m' → ∀ (y0 : List (Bytes × Bool)) (y1 : List Bytes), Le (graph_reached_l3 n to_0 m y0 y1) (graph_reached_l3 n' to_0 m' y0 y1) := by
 intro m
 induction m with
 | zero => intro m' _ y0 y1; exact le_none _
 | succ m ih =>
 intro m' hm y0 y1
 cases m' with
 | zero => omega
 | succ m' =>
 simp only [graph_reached_l3]
 repeat' (with_reducible (first | exact le_refl _ | apply ih | apply graph_reached_l2_le | refine le_ck ?_ | refine le_ite ?_ ?_ | refine le_bind ?_ (fun _ => ?_) | refine le_jn ?_ (fun _ => ?_) | omega | intro _))

theorem graph_reached_le {n n' : Nat} (hn : n ≤ n') {to_0 : List (Bytes × (List Bytes))} {from_1 : List Bytes} : Le (graph_reached n to_0 from_1) (graph_reached n' to_0 from_1) := by
 simp only [graph_reached]
 repeat' (with_reducible (first | exact le_refl _ | apply graph_set_le | apply graph_reached_l3_le | refine le_ck ?_ | refine le_ite ?_ ?_ | refine le_bind ?_ (fun _ => ?_) | refine le_jn ?_ (fun _ => ?_) | omega | intro _))

theorem graph_next_l1_le {g_0 : TGraph} : ∀ (m m' : Nat), m ≤ m' → ∀ (y0 : List (Bytes × List Bytes)) (y1 : Int), Le (graph_next_l1 g_0 m y0 y1) (graph_next_l1 g_0 m' y0 y1) := by
 intro m
 induction m with
 | zero => intro m' _ y0 y1; exact le_none _
 | succ m ih =>
 intro m' hm y0 y1
 cases m' with
 | zero => omega
 | succ m' =>
 simp only [graph_next_l1]
 repeat' (with_reducible (first | exact le_refl _ | apply ih | refine le_ck ?_ | refine le_ite ?_ ?_ | refine le_bind ?_ (fun _ => ?_) | refine le_jn ?_ (fun _ => ?_) | omega | intro _))

theorem graph_next_le {n n' : Nat} (hn : n ≤ n') {g_0 : TGraph} : Le (graph_next n g_0) (graph_next n' g_0) := by
 simp only [graph_next]
 repeat' (with_reducible (first | exact le_refl _ | apply graph_next_l1_le | refine le_ck ?_ | refine le_ite ?_ ?_ | refine le_bind ?_ (fun _ => ?_) | refine le_jn ?_ (fun _ => ?_) | omega | intro _))

theorem graph_Reach_le {n n' : Nat} (hn : n ≤ n') {g_0 : TGraph} {from_1 : List Bytes} : Le (graph_Reach n g_0 from_1) (graph_Reach n' g_0 from_1) := by
 simp only [graph_Reach]
 repeat' (with_reducible (first | exact le_refl _ | apply graph_next_le | apply graph_set_le | apply graph_only_le | apply graph_reached_le | refine le_ck ?_ | refine le_ite ?_ ?_ | refine le_bind ?_ (fun _ => ?_) | refine le_jn ?_ (fun _ => ?_) | omega | intro _))

theorem target_Close_le {n n' : Nat} (hn : n ≤ n') {g_0 : TGraph} {statics_1 : List Bytes} : Le (target_Close n g_0 statics_1) (target_Close n' g_0 statics_1) := by
 simp only [target_Close]
 repeat' (with_reducible (first | exact le_refl _ | apply graph_Reach_le | refine le_ck ?_ | refine le_ite ?_ ?_ | refine le_bind ?_ (fun _ => ?_) | refine le_jn ?_ (fun _ => ?_) | omega | intro _))

theorem slices_Index_string_string_l1_le {s_0 : List Bytes} {v_1 : Bytes} : ∀ (m m' : Nat), m ≤ m' → ∀ (y0 : Int), Le (slices_Index_string_string_l1 s_0 v_1 m y0) (slices_Index_string_string_l1 s_0 v_1 m' y0) := by
 intro m
 induction m with
 | zero => intro m' _ y0; exact le_none _
 | succ m ih =>
 intro m' hm y0
 cases m' with
 | zero => omega
 | succ m' =>
 simp only [slices_Index_string_string_l1]
 repeat' (with_reducible (first | exact le_refl _ | apply ih | refine le_ck ?_ | refine le_ite ?_ ?_ | refine le_bind ?_ (fun _ => ?_) | refine le_jn ?_ (fun _ => ?_) | omega | intro _))

theorem slices_Index_string_string_le {n n' : Nat} (hn : n ≤ n') {s_0 : List Bytes} {v_1 : Bytes} : Le (slices_Index_string_string n s_0 v_1) (slices_Index_string_string n' s_0 v_1) := by
 simp only [slices_Index_string_string]
 repeat' (with_reducible (first | exact le_refl _ | apply slices_Index_string_string_l1_le | refine le_ck ?_ | refine le_ite ?_ ?_ | refine le_bind ?_ (fun _ => ?_) | refine le_jn ?_ (fun _ => ?_) | omega | intro _))

theorem slices_Contains_string_string_le {n n' : Nat} (hn : n ≤ n') {s_0 : List Bytes} {v_1 : Bytes} : Le (slices_Contains_string_string n s_0 v_1) (slices_Contains_string_string n' s_0 v_1) := by
 simp only [slices_Contains_string_string]
 repeat' (with_reducible (first | exact le_refl _ | apply slices_Index_string_string_le | refine le_ck ?_ | refine le_ite ?_ ?_ | refine le_bind ?_ (fun _ => ?_) | refine le_jn ?_ (fun _ => ?_) | omega | intro _))

theorem target_chooser_follow_l1_le {n n' : Nat} (hn : n ≤ n') {x_0 : Tchooser} {i_1 : Int} : ∀ (m m' : Nat), m ≤ m' → ∀ (y0 : Int) (y1 : List TChange) (y2 : List Int) (y3 : List Bytes) (y4 : List Bool), Le (target_chooser_follow_l1 n x_0 i_1 m y0 y1 y2 y3 y4) (target_chooser_follow_l1 n' x_0 i_1 m' y0 y1 y2 y3 y4) := by
 intro m
 induction m with
 | zero => intro m' _ y0 y1 y2 y3 y4; exact le_none _
 | succ m ih =>
 intro m' hm y0 y1 y2 y3 y4
 cases m' with
 | zero => omega
 | succ m' =>
 simp only [target_chooser_follow_l1]
 repeat' (with_reducible (first | exact le_refl _ | apply ih | apply slices_Contains_string_string_le | refine le_ck ?_ | refine le_ite ?_ ?_ | refine le_bind ?_ (fun _ => ?_) | refine le_jn ?_ (fun _ => ?_) | omega | intro _))

theorem target_chooser_follow_le {n n' : Nat} (hn : n ≤ n') {x_0 : Tchooser} {i_1 : Int} : Le (target_chooser_follow n x_0 i_1) (target_chooser_follow n' x_0 i_1) := by
 simp only [target_chooser_follow]
 repeat' (with_reducible (first | exact le_refl _ | apply target_chooser_follow_l1_le | refine le_ck ?_ | refine le_ite ?_ ?_ | refine le_bind ?_ (fun _ => ?_) | refine le_jn ?_ (fun _ => ?_) | omega | intro _))

theorem target_copied_l1_le {r_target_copied r_target_copied' : TValue → Option TValue} (h_target_copied : ∀ x0, Le (r_target_copied x0) (r_target_copied' x0)) : ∀ (m m' : Nat), m ≤ m' → Le (target_copied_l1 r_target_copied m ) (target_copied_l1 r_target_copied' m' ) := by
 intro m
 induction m with
 | zero => intro m' _ ; exact le_none _
 | succ m ih =>
 intro m' hm 
 cases m' with
 | zero => omega
 | succ m' =>
 simp only [target_copied_l1]
 repeat' (with_reducible (first | exact le_refl _ | apply ih | apply h_target_copied | refine le_ck ?_ | refine le_ite ?_ ?_ | refine le_bind ?_ (fun _ => ?_) | refine le_jn ?_ (fun _ => ?_) | omega | intro _))

theorem target_copied_l2_le {r_target_copied r_target_copied' : TValue → Option TValue} (h_target_copied : ∀ x0, Le (r_target_copied x0) (r_target_copied' x0)) {v_0 : TValue} : ∀ (m m' : Nat), m ≤ m' → ∀ (y0 : Int) (y1 : List TValue), Le (target_copied_l2 r_target_copied v_0 m y0 y1) (target_copied_l2 r_target_copied' v_0 m' y0 y1) := by
 intro m
 induction m with
 | zero => intro m' _ y0 y1; exact le_none _
 | succ m ih =>
 intro m' hm y0 y1
 cases m' with
 | zero => omega
 | succ m' =>
 simp only [target_copied_l2]
 repeat' (with_reducible (first | exact le_refl _ | apply ih | apply h_target_copied | refine le_ck ?_ | refine le_ite ?_ ?_ | refine le_bind ?_ (fun _ => ?_) | refine le_jn ?_ (fun _ => ?_) | omega | intro _))

theorem target_copied_le' (n : Nat) : ∀ n' : Nat, n ≤ n' → (∀ (v_0 : TValue), Le (target_copied n v_0) (target_copied n' v_0)) := by
 induction n with
 | zero => exact fun n' _ => (by intro v_0; exact le_none _)
 | succ n ih =>
 intro n' hn
 cases n' with
 | zero => omega
 | succ n' =>
 have hn' : n ≤ n' := by omega
 have ih_target_copied_le := ih n' hn'
 intro v_0
 simp only [target_copied]
 repeat' (with_reducible (first | exact le_refl _ | apply ih_target_copied_le | apply target_copied_l1_le | apply target_copied_l2_le | refine le_ck ?_ | refine le_ite ?_ ?_ | refine le_bind ?_ (fun _ => ?_) | refine le_jn ?_ (fun _ => ?_) | omega | intro _))

theorem target_copied_le {n n' : Nat} (hn : n ≤ n') : ∀ (v_0 : TValue), Le (target_copied n v_0) (target_copied n' v_0) := (target_copied_le' n n' hn)

theorem target_change_le {n n' : Nat} (hn : n ≤ n') {c_0 : TChange} : Le (target_change n c_0) (target_change n' c_0) := by
 simp only [target_change]
 repeat' (with_reducible (first | exact le_refl _ | apply target_copied_le | refine le_ck ?_ | refine le_ite ?_ ?_ | refine le_bind ?_ (fun _ => ?_) | refine le_jn ?_ (fun _ => ?_) | omega | intro _))

theorem target_Filter_l1_le {n n' : Nat} (hn : n ≤ n') {l_1 : List TChange} : ∀ (m m' : Nat), m ≤ m' → ∀ (y0 : Int) (y1 : List Bytes), Le (target_Filter_l1 n l_1 m y0 y1) (target_Filter_l1 n' l_1 m' y0 y1) := by
 intro m
 induction m with
 | zero => intro m' _ y0 y1; exact le_none _
 | succ m ih =>
 intro m' hm y0 y1
 cases m' with
 | zero => omega
 | succ m' =>
 simp only [target_Filter_l1]
 repeat' (with_reducible (first | exact le_refl _ | apply ih | apply address_Static_le | refine le_ck ?_ | refine le_ite ?_ ?_ | refine le_bind ?_ (fun _ => ?_) | refine le_jn ?_ (fun _ => ?_) | omega | intro _))

theorem target_Filter_l2_le {n n' : Nat} (hn : n ≤ n') {targets_0 : List Bytes} {l_1 : List TChange} : ∀ (m m' : Nat), m ≤ m' → ∀ (y0 : Int) (y1 : List TChange) (y2 : List Int) (y3 : List Bytes) (y4 : List Bool), Le (target_Filter_l2 n targets_0 l_1 m y0 y1 y2 y3 y4) (target_Filter_l2 n' targets_0 l_1 m' y0 y1 y2 y3 y4) := by
 intro m
 induction m with
 | zero => intro m' _ y0 y1 y2 y3 y4; exact le_none _
 | succ m ih =>
 intro m' hm y0 y1 y2 y3 y4
 cases m' with
 | zero => omega
 | succ m' =>
 simp only [target_Filter_l2]
 repeat' (with_reducible (first | exact le_refl _ | apply ih | apply target_Selected_le | refine le_ck ?_ | refine le_ite ?_ ?_ | refine le_bind ?_ (fun _ => ?_) | refine le_jn ?_ (fun _ => ?_) | omega | intro _))

theorem target_Filter_l3_le {n n' : Nat} (hn : n ≤ n') : ∀ (m m' : Nat), m ≤ m' → ∀ (y0 : List TChange) (y1 : List Int) (y2 : List Bytes) (y3 : List Bool), Le (target_Filter_l3 n m y0 y1 y2 y3) (target_Filter_l3 n' m' y0 y1 y2 y3) := by
 intro m
 induction m with
 | zero => intro m' _ y0 y1 y2 y3; exact le_none _
 | succ m ih =>
 intro m' hm y0 y1 y2 y3
 cases m' with
 | zero => omega
 | succ m' =>
 simp only [target_Filter_l3]
 repeat' (with_reducible (first | exact le_refl _ | apply ih | apply target_chooser_follow_le | refine le_ck ?_ | refine le_ite ?_ ?_ | refine le_bind ?_ (fun _ => ?_) | refine le_jn ?_ (fun _ => ?_) | omega | intro _))

theorem target_Filter_l4_le {n n' : Nat} (hn : n ≤ n') {l_1 : List TChange} {l94 : List Bool} : ∀ (m m' : Nat), m ≤ m' → ∀ (y0 : List TChange) (y1 : Int), Le (target_Filter_l4 n l_1 l94 m y0 y1) (target_Filter_l4 n' l_1 l94 m' y0 y1) := by
 intro m
 induction m with
 | zero => intro m' _ y0 y1; exact le_none _
 | succ m ih =>
 intro m' hm y0 y1
 cases m' with
 | zero => omega
 | succ m' =>
 simp only [target_Filter_l4]
 repeat' (with_reducible (first | exact le_refl _ | apply ih | apply target_change_le | refine le_ck ?_ | refine le_ite ?_ ?_ | refine le_bind ?_ (fun _ => ?_) | refine le_jn ?_ (fun _ => ?_) | omega | intro _))

theorem target_Filter_le {n n' : Nat} (hn : n ≤ n') {targets_0 : List Bytes} {l_1 : List TChange} : Le (target_Filter n targets_0 l_1) (target_Filter n' targets_0 l_1) := by
 simp only [target_Filter]
 repeat' (with_reducible (first | exact le_refl _ | apply target_Filter_l1_le | apply target_Filter_l2_le | apply target_Filter_l3_le | apply target_Filter_l4_le | refine le_ck ?_ | refine le_ite ?_ ?_ | refine le_bind ?_ (fun _ => ?_) | refine le_jn ?_ (fun _ => ?_) | omega | intro _))

theorem law42_awake_le {n n' : Nat} (hn : n ≤ n') : Le (law42_awake n) (law42_awake n') := by
 simp only [law42_awake]
 repeat' (with_reducible (first | exact le_refl _ | apply target_Filter_le | apply target_Close_le | apply target_Selected_le | apply target_Check_le | refine le_ck ?_ | refine le_ite ?_ ?_ | refine le_bind ?_ (fun _ => ?_) | refine le_jn ?_ (fun _ => ?_) | omega | intro _))

theorem awake_some : law42_awake 60 = some true := by decide +kernel
theorem awake_ev : Ev2 (fun n _ => law42_awake n) (· = true) := ev_once 60 awake_some (fun n hn => law42_awake_le hn) rfl
end Go.Ab.R06
