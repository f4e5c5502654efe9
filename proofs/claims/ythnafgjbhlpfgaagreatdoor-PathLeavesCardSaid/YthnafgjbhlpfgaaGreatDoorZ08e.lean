/- Texts of the proof, one behind the other. No statement is proved here. -/
import Derived.Test.YthnafgjbhlpfgaaGreatDoorZ08a
import Derived.Test.YthnafgjbhlpfgaaGreatDoorZ08b
import Derived.Test.YthnafgjbhlpfgaaGreatDoorZ08c
import Derived.Test.YthnafgjbhlpfgaaGreatDoorZ08d
set_option maxHeartbeats 4000000
section
namespace Go.Ab.R06
open Go.Ab
theorem kL {s_0:Bytes}:∀ (m m':Nat),m≤m'→∀ (y0:Int),Le (bC s_0 m y0) (bC s_0 m' y0):=by
 intro m
 induction m with
 | zero=>intro m' _ y0; exact dM _
 | succ m ih =>
 intro m' hm y0
 cases m' with
 | zero=>omega
 | succ m' =>
 simp only [bC]
 repeat' (with_reducible (first | exact av _ | apply ih | refine cR ?_ | refine bT ?_ ?_ | refine bv ?_ (λ _=>?_) | refine cS ?_ (λ _=>?_) | omega | intro _))
theorem jC {n n':Nat}(hn:n≤n'){s_0:Bytes}:Le (co n s_0) (co n' s_0):=by
 simp only [co]
 repeat' (with_reducible (first | exact av _ | apply kL | refine cR ?_ | refine bT ?_ ?_ | refine bv ?_ (λ _=>?_) | refine cS ?_ (λ _=>?_) | omega | intro _))
theorem mF {s_0:Bytes}:∀ (m m':Nat),m≤m'→∀ (y0:Int) (y1:List UInt8),Le (bY s_0 m y0 y1) (bY s_0 m' y0 y1):=by
 intro m
 induction m with
 | zero=>intro m' _ y0 y1; exact dM _
 | succ m ih =>
 intro m' hm y0 y1
 cases m' with
 | zero=>omega
 | succ m' =>
 simp only [bY]
 repeat' (with_reducible (first | exact av _ | apply ih | refine cR ?_ | refine bT ?_ ?_ | refine bv ?_ (λ _=>?_) | refine cS ?_ (λ _=>?_) | omega | intro _))
theorem pt {n n':Nat}(hn:n≤n'){s_0:Bytes}:Le (ep n s_0) (ep n' s_0):=by
 simp only [ep]
 repeat' (with_reducible (first | exact av _ | apply mF | refine cR ?_ | refine bT ?_ ?_ | refine bv ?_ (λ _=>?_) | refine cS ?_ (λ _=>?_) | omega | intro _))
theorem mW {n n':Nat}(hn:n≤n'){p_0:List aa}:∀ (m m':Nat),m≤m'→∀ (y0:Int) (y1:List UInt8),Le (bQ n p_0 m y0 y1) (bQ n' p_0 m' y0 y1):=by
 intro m
 induction m with
 | zero=>intro m' _ y0 y1; exact dM _
 | succ m ih =>
 intro m' hm y0 y1
 cases m' with
 | zero=>omega
 | succ m' =>
 simp only [bQ]
 repeat' (with_reducible (first | exact av _ | apply ih | apply jC | apply pt | refine cR ?_ | refine bT ?_ ?_ | refine bv ?_ (λ _=>?_) | refine cS ?_ (λ _=>?_) | omega | intro _))
theorem lC {n n':Nat}(hn:n≤n'){p_0:List aa}:Le (dk n p_0) (dk n' p_0):=by
 simp only [dk]
 repeat' (with_reducible (first | exact av _ | apply mW | refine cR ?_ | refine bT ?_ ?_ | refine bv ?_ (λ _=>?_) | refine cS ?_ (λ _=>?_) | omega | intro _))
theorem jT {s_0:Bytes}:∀ (m m':Nat),m≤m'→∀ (y0:Int) (y1:Int),Le (bj s_0 m y0 y1) (bj s_0 m' y0 y1):=by
 intro m
 induction m with
 | zero=>intro m' _ y0 y1; exact dM _
 | succ m ih =>
 intro m' hm y0 y1
 cases m' with
 | zero=>omega
 | succ m' =>
 simp only [bj]
 repeat' (with_reducible (first | exact av _ | apply ih | refine cR ?_ | refine bT ?_ ?_ | refine bv ?_ (λ _=>?_) | refine cS ?_ (λ _=>?_) | omega | intro _))
theorem kI {n n':Nat}(hn:n≤n'){s_0:Bytes}:Le (bU n s_0) (bU n' s_0):=by
 simp only [bU]
 repeat' (with_reducible (first | exact av _ | apply jT | refine cR ?_ | refine bT ?_ ?_ | refine bv ?_ (λ _=>?_) | refine cS ?_ (λ _=>?_) | omega | intro _))
theorem nM {n n':Nat}(hn:n≤n'){s_0:Bytes}:Le (dW n s_0) (dW n' s_0):=by
 simp only [dW]
 repeat' (with_reducible (first | exact av _ | apply kI | refine cR ?_ | refine bT ?_ ?_ | refine bv ?_ (λ _=>?_) | refine cS ?_ (λ _=>?_) | omega | intro _))
theorem kW {n n':Nat}(hn:n≤n'){s_0:Bytes}:∀ (m m':Nat),m≤m'→∀ (y0:Int) (y1:List UInt8),Le (bS n s_0 m y0 y1) (bS n' s_0 m' y0 y1):=by
 intro m
 induction m with
 | zero=>intro m' _ y0 y1; exact dM _
 | succ m ih =>
 intro m' hm y0 y1
 cases m' with
 | zero=>omega
 | succ m' =>
 simp only [bS]
 repeat' (with_reducible (first | exact av _ | apply ih | apply nM | refine cR ?_ | refine bT ?_ ?_ | refine bv ?_ (λ _=>?_) | refine cS ?_ (λ _=>?_) | omega | intro _))
theorem nv {n n':Nat}(hn:n≤n'){s_0:Bytes}:Le (dJ n s_0) (dJ n' s_0):=by
 simp only [dJ]
 repeat' (with_reducible (first | exact av _ | apply kW | refine cR ?_ | refine bT ?_ ?_ | refine bv ?_ (λ _=>?_) | refine cS ?_ (λ _=>?_) | omega | intro _))
theorem ko {s7:Bytes}:∀ (m m':Nat),m≤m'→∀ (y0:Int),Le (bn s7 m y0) (bn s7 m' y0):=by
 intro m
 induction m with
 | zero=>intro m' _ y0; exact dM _
 | succ m ih =>
 intro m' hm y0
 cases m' with
 | zero=>omega
 | succ m' =>
 simp only [bn]
 repeat' (with_reducible (first | exact av _ | apply ih | refine cR ?_ | refine bT ?_ ?_ | refine bv ?_ (λ _=>?_) | refine cS ?_ (λ _=>?_) | omega | intro _))
theorem l9 {n n':Nat}(hn:n≤n'){s_0:Bytes}:Le (cL n s_0) (cL n' s_0):=by
 simp only [cL]
 repeat' (with_reducible (first | exact av _ | apply ko | refine cR ?_ | refine bT ?_ ?_ | refine bv ?_ (λ _=>?_) | refine cS ?_ (λ _=>?_) | omega | intro _))
theorem pu {n n':Nat}(hn:n≤n'){s_0:Bytes}:Le (em n s_0) (em n' s_0):=by
 simp only [em]
 repeat' (with_reducible (first | exact av _ | apply l9 | refine cR ?_ | refine bT ?_ ?_ | refine bv ?_ (λ _=>?_) | refine cS ?_ (λ _=>?_) | omega | intro _))
theorem mu {s_0:Bytes}:∀ (m m':Nat),m≤m'→∀ (y0:Int),Le (bB s_0 m y0) (bB s_0 m' y0):=by
 intro m
 induction m with
 | zero=>intro m' _ y0; exact dM _
 | succ m ih =>
 intro m' hm y0
 cases m' with
 | zero=>omega
 | succ m' =>
 simp only [bB]
 repeat' (with_reducible (first | exact av _ | apply ih | refine cR ?_ | refine bT ?_ ?_ | refine bv ?_ (λ _=>?_) | refine cS ?_ (λ _=>?_) | omega | intro _))
theorem oY {n n':Nat}(hn:n≤n'){s_0:Bytes}:Le (ei n s_0) (ei n' s_0):=by
 simp only [ei]
 repeat' (with_reducible (first | exact av _ | apply nv | apply mu | apply pu | refine cR ?_ | refine bT ?_ ?_ | refine bv ?_ (λ _=>?_) | refine cS ?_ (λ _=>?_) | omega | intro _))
theorem rU {n n':Nat}(hn:n≤n'){s_0:Bytes}{first_1:Bool}:Le (gx n s_0 first_1) (gx n' s_0 first_1):=by
 simp only [gx]
 repeat' (with_reducible (first | exact av _ | apply oY | apply jC | refine cR ?_ | refine bT ?_ ?_ | refine bv ?_ (λ _=>?_) | refine cS ?_ (λ _=>?_) | omega | intro _))
theorem oa {n n':Nat}(hn:n≤n'):∀ (m m':Nat),m≤m'→∀ (y0:List aa) (y1:Bytes),Le (cY n m y0 y1) (cY n' m' y0 y1):=by
 intro m
 induction m with
 | zero=>intro m' _ y0 y1; exact dM _
 | succ m ih =>
 intro m' hm y0 y1
 cases m' with
 | zero=>omega
 | succ m' =>
 simp only [cY]
 repeat' (with_reducible (first | exact av _ | apply ih | apply rU | refine cR ?_ | refine bT ?_ ?_ | refine bv ?_ (λ _=>?_) | refine cS ?_ (λ _=>?_) | omega | intro _))
theorem qO {n n':Nat}(hn:n≤n'){s_0:Bytes}:Le (d9 n s_0) (d9 n' s_0):=by
 simp only [d9]
 repeat' (with_reducible (first | exact av _ | apply oa | apply lC | refine cR ?_ | refine bT ?_ ?_ | refine bv ?_ (λ _=>?_) | refine cS ?_ (λ _=>?_) | omega | intro _))
theorem fg {x_0:List Bytes}{target_1:Bytes}:∀ (m m':Nat),m≤m'→∀ (y0:Int) (y1:Int),Le (aB x_0 target_1 m y0 y1) (aB x_0 target_1 m' y0 y1):=by
 intro m
 induction m with
 | zero=>intro m' _ y0 y1; exact dM _
 | succ m ih =>
 intro m' hm y0 y1
 cases m' with
 | zero=>omega
 | succ m' =>
 simp only [aB]
 repeat' (with_reducible (first | exact av _ | apply ih | refine cR ?_ | refine bT ?_ ?_ | refine bv ?_ (λ _=>?_) | refine cS ?_ (λ _=>?_) | omega | intro _))
theorem dS {n n':Nat}(hn:n≤n'){x_0:List Bytes}{target_1:Bytes}:Le (aM n x_0 target_1) (aM n' x_0 target_1):=by
 simp only [aM]
 repeat' (with_reducible (first | exact av _ | apply fg | refine cR ?_ | refine bT ?_ ?_ | refine bv ?_ (λ _=>?_) | refine cS ?_ (λ _=>?_) | omega | intro _))
theorem mU {n n':Nat}(hn:n≤n'){v_0:ab}{s_1:aa}:Le (fF n v_0 s_1) (fF n' v_0 s_1):=by
 simp only [fF]
 repeat' (with_reducible (first | exact av _ | apply dS | refine cR ?_ | refine bT ?_ ?_ | refine bv ?_ (λ _=>?_) | refine cS ?_ (λ _=>?_) | omega | intro _))
theorem nb {r_path_copied r_path_copied':ab→Option ab}(h_path_copied:∀ x0,Le (r_path_copied x0) (r_path_copied' x0)):∀ (m m':Nat),m≤m'→Le (dd r_path_copied m ) (dd r_path_copied' m' ):=by
 intro m
 induction m with
 | zero=>intro m' _ ; exact dM _
 | succ m ih =>
 intro m' hm 
 cases m' with
 | zero=>omega
 | succ m' =>
 simp only [dd]
 repeat' (with_reducible (first | exact av _ | apply ih | apply h_path_copied | refine cR ?_ | refine bT ?_ ?_ | refine bv ?_ (λ _=>?_) | refine cS ?_ (λ _=>?_) | omega | intro _))
theorem ni {r_path_copied r_path_copied':ab→Option ab}(h_path_copied:∀ x0,Le (r_path_copied x0) (r_path_copied' x0)){v_0:ab}:∀ (m m':Nat),m≤m'→∀ (y0:Int) (y1:List ab),Le (bW r_path_copied v_0 m y0 y1) (bW r_path_copied' v_0 m' y0 y1):=by
 intro m
 induction m with
 | zero=>intro m' _ y0 y1; exact dM _
 | succ m ih =>
 intro m' hm y0 y1
 cases m' with
 | zero=>omega
 | succ m' =>
 simp only [bW]
 repeat' (with_reducible (first | exact av _ | apply ih | apply h_path_copied | refine cR ?_ | refine bT ?_ ?_ | refine bv ?_ (λ _=>?_) | refine cS ?_ (λ _=>?_) | omega | intro _))
theorem pr (n:Nat):∀ n':Nat,n≤n'→(∀ (v_0:ab),Le (bz n v_0) (bz n' v_0)):=by
 induction n with
 | zero=>exact λ n' _=>(by intro v_0; exact dM _)
 | succ n ih =>
 intro n' hn
 cases n' with
 | zero=>omega
 | succ n' =>
 have hn':n≤n':=by omega
 have ih_path_copied_le:=ih n' hn'
 intro v_0
 simp only [bz]
 repeat' (with_reducible (first | exact av _ | apply ih_path_copied_le | apply nb | apply ni | refine cR ?_ | refine bT ?_ ?_ | refine bv ?_ (λ _=>?_) | refine cS ?_ (λ _=>?_) | omega | intro _))
theorem jt {n n':Nat}(hn:n≤n'):∀ (v_0:ab),Le (bz n v_0) (bz n' v_0):=(pr n n' hn)
theorem pJ {n n':Nat}(hn:n≤n'){p_1:List aa}:∀ (m m':Nat),m≤m'→∀ (y0:Int) (y1:Int) (y2:Int) (y3:Bytes) (y4:List ab) (y5:List Bytes),Le (cK n p_1 m y0 y1 y2 y3 y4 y5) (cK n' p_1 m' y0 y1 y2 y3 y4 y5):=by
 intro m
 induction m with
 | zero=>intro m' _ y0 y1 y2 y3 y4 y5; exact dM _
 | succ m ih =>
 intro m' hm y0 y1 y2 y3 y4 y5
 cases m' with
 | zero=>omega
 | succ m' =>
 simp only [cK]
 repeat' (with_reducible (first | exact av _ | apply ih | apply mU | refine cR ?_ | refine bT ?_ ?_ | refine bv ?_ (λ _=>?_) | refine cS ?_ (λ _=>?_) | omega | intro _))
theorem sH {n n':Nat}(hn:n≤n'){v_0:ab}{p_1:List aa}:Le (fU n v_0 p_1) (fU n' v_0 p_1):=by
 simp only [fU]
 repeat' (with_reducible (first | exact av _ | apply pJ | apply jt | refine cR ?_ | refine bT ?_ ?_ | refine bv ?_ (λ _=>?_) | refine cS ?_ (λ _=>?_) | omega | intro _))
theorem mI {r_value_copied r_value_copied':ab→Option ab}(h_value_copied:∀ x0,Le (r_value_copied x0) (r_value_copied' x0)){l_0:List ab}:∀ (m m':Nat),m≤m'→∀ (y0:List ab) (y1:Int),Le (dj r_value_copied l_0 m y0 y1) (dj r_value_copied' l_0 m' y0 y1):=by
 intro m
 induction m with
 | zero=>intro m' _ y0 y1; exact dM _
 | succ m ih =>
 intro m' hm y0 y1
 cases m' with
 | zero=>omega
 | succ m' =>
 simp only [dj]
 repeat' (with_reducible (first | exact av _ | apply ih | apply h_value_copied | refine cR ?_ | refine bT ?_ ?_ | refine bv ?_ (λ _=>?_) | refine cS ?_ (λ _=>?_) | omega | intro _))
theorem nV (n:Nat):∀ n':Nat,n≤n'→(∀ (v_0:ab),Le (cw n v_0) (cw n' v_0))∧(∀ (l_0:List ab),Le (fI n l_0) (fI n' l_0)):=by
 induction n with
 | zero=>exact λ n' _=>⟨(by intro v_0; exact dM _),(by intro l_0; exact dM _)⟩
 | succ n ih =>
 intro n' hn
 cases n' with
 | zero=>omega
 | succ n' =>
 have hn':n≤n':=by omega
 obtain ⟨ih_value_copied_le,ih_value_copies_le⟩:=ih n' hn'
 refine ⟨?_,?_⟩
 ·intro v_0
  simp only [cw]
  repeat' (with_reducible (first | exact av _ | apply ih_value_copied_le | apply ih_value_copies_le | refine cR ?_ | refine bT ?_ ?_ | refine bv ?_ (λ _=>?_) | refine cS ?_ (λ _=>?_) | omega | intro _))
 ·intro l_0
  simp only [fI]
  repeat' (with_reducible (first | exact av _ | apply ih_value_copied_le | apply ih_value_copies_le | apply mI | refine cR ?_ | refine bT ?_ ?_ | refine bv ?_ (λ _=>?_) | refine cS ?_ (λ _=>?_) | omega | intro _))
theorem oZ {n n':Nat}(hn:n≤n'):∀ (v_0:ab),Le (cw n v_0) (cw n' v_0):=(nV n n' hn).1
theorem ig {n n':Nat}(_hn:n≤n'){s_0:List Bytes}{i_1:Int}{v_2:List Bytes}:Le (bO n s_0 i_1 v_2) (bO n' s_0 i_1 v_2):=by
 simp only [bO]
 repeat' (with_reducible (first | exact av _ | refine cR ?_ | refine bT ?_ ?_ | refine bv ?_ (λ _=>?_) | refine cS ?_ (λ _=>?_) | omega | intro _))
theorem rN {n n':Nat}(hn:n≤n'){v_0:ab}{key_1:Bytes}{x_2:ab}:Le (jl n v_0 key_1 x_2) (jl n' v_0 key_1 x_2):=by
 simp only [jl]
 repeat' (with_reducible (first | exact av _ | apply oZ | apply dS | apply ig | refine cR ?_ | refine bT ?_ ?_ | refine bv ?_ (λ _=>?_) | refine cS ?_ (λ _=>?_) | omega | intro _))
theorem rW (n:Nat):∀ n':Nat,n≤n'→(∀ (v_0:ab) (p_1:List aa) (x_2:ab),Le (gY n v_0 p_1 x_2) (gY n' v_0 p_1 x_2)):=by
 induction n with
 | zero=>exact λ n' _=>(by intro v_0 p_1 x_2; exact dM _)
 | succ n ih =>
 intro n' hn
 cases n' with
 | zero=>omega
 | succ n' =>
 have hn':n≤n':=by omega
 have ih_path_set_le:=ih n' hn'
 intro v_0 p_1 x_2
 simp only [gY]
 repeat' (with_reducible (first | exact av _ | apply ih_path_set_le | apply jt | apply mU | apply rN | refine cR ?_ | refine bT ?_ ?_ | refine bv ?_ (λ _=>?_) | refine cS ?_ (λ _=>?_) | omega | intro _))
theorem tv {n n':Nat}(hn:n≤n'):∀ (v_0:ab) (p_1:List aa) (x_2:ab),Le (gY n v_0 p_1 x_2) (gY n' v_0 p_1 x_2):=(rW n n' hn)
theorem od {v_0:ab}:∀ (m m':Nat),m≤m'→∀ (y0:Int),Le (dX v_0 m y0) (dX v_0 m' y0):=by
 intro m
 induction m with
 | zero=>intro m' _ y0; exact dM _
 | succ m ih =>
 intro m' hm y0
 cases m' with
 | zero=>omega
 | succ m' =>
 simp only [dX]
 repeat' (with_reducible (first | exact av _ | apply ih | refine cR ?_ | refine bT ?_ ?_ | refine bv ?_ (λ _=>?_) | refine cS ?_ (λ _=>?_) | omega | intro _))
theorem qP {n n':Nat}(hn:n≤n'){v_0:ab}:Le (ip n v_0) (ip n' v_0):=by
 simp only [ip]
 repeat' (with_reducible (first | exact av _ | apply od | refine cR ?_ | refine bT ?_ ?_ | refine bv ?_ (λ _=>?_) | refine cS ?_ (λ _=>?_) | omega | intro _))
theorem mf {r_value_Check_1 r_value_Check_1':ab→Int→Int→Option (Int×Int)}(h_value_Check_1:∀ x0 x1 x2,Le (r_value_Check_1 x0 x1 x2) (r_value_Check_1' x0 x1 x2)){v_0:ab}{level_1:Int}:∀ (m m':Nat),m≤m'→∀ (y0:Int) (y1:Int),Le (cN r_value_Check_1 v_0 level_1 m y0 y1) (cN r_value_Check_1' v_0 level_1 m' y0 y1):=by
 intro m
 induction m with
 | zero=>intro m' _ y0 y1; exact dM _
 | succ m ih =>
 intro m' hm y0 y1
 cases m' with
 | zero=>omega
 | succ m' =>
 simp only [cN]
 repeat' (with_reducible (first | exact av _ | apply ih | apply h_value_Check_1 | refine cR ?_ | refine bT ?_ ?_ | refine bv ?_ (λ _=>?_) | refine cS ?_ (λ _=>?_) | omega | intro _))
theorem na (n:Nat):∀ n':Nat,n≤n'→(∀ (v_0:ab) (level_1:Int) (cap_0:Int),Le (cE n v_0 level_1 cap_0) (cE n' v_0 level_1 cap_0)):=by
 induction n with
 | zero=>exact λ n' _=>(by intro v_0 level_1 cap_0; exact dM _)
 | succ n ih =>
 intro n' hn
 cases n' with
 | zero=>omega
 | succ n' =>
 have hn':n≤n':=by omega
 have ih_value_Check_1_le:=ih n' hn'
 intro v_0 level_1 cap_0
 simp only [cE]
 repeat' (with_reducible (first | exact av _ | apply ih_value_Check_1_le | apply qP | apply mf | refine cR ?_ | refine bT ?_ ?_ | refine bv ?_ (λ _=>?_) | refine cS ?_ (λ _=>?_) | omega | intro _))
theorem nL {n n':Nat}(hn:n≤n'):∀ (v_0:ab) (level_1:Int) (cap_0:Int),Le (cE n v_0 level_1 cap_0) (cE n' v_0 level_1 cap_0):=(na n n' hn)
theorem qp {n n':Nat}(hn:n≤n'){v_0:ab}:Le (gz n v_0) (gz n' v_0):=by
 simp only [gz]
 repeat' (with_reducible (first | exact av _ | apply nL | refine cR ?_ | refine bT ?_ ?_ | refine bv ?_ (λ _=>?_) | refine cS ?_ (λ _=>?_) | omega | intro _))
theorem tB {n n':Nat}(hn:n≤n'){v_0:ab}{p_1:List aa}{x_2:ab}:Le (j4 n v_0 p_1 x_2) (j4 n' v_0 p_1 x_2):=by
 simp only [j4]
 repeat' (with_reducible (first | exact av _ | apply jt | apply tv | apply qp | refine cR ?_ | refine bT ?_ ?_ | refine bv ?_ (λ _=>?_) | refine cS ?_ (λ _=>?_) | omega | intro _))
theorem qh {n n':Nat}(hn:n≤n'):Le (bK n) (bK n'):=by
 simp only [bK]
 repeat' (with_reducible (first | exact av _ | apply sH | apply tB | apply qO | apply lC | refine cR ?_ | refine bT ?_ ?_ | refine bv ?_ (λ _=>?_) | refine cS ?_ (λ _=>?_) | omega | intro _))
theorem uM:bK 60=some true:=by decide +kernel
theorem eR:Ev2 (λ n _=>bK n) (·=true):=yS 60 uM (λ _n hn=>qh hn) rfl
end Go.Ab.R06
end
section
namespace Go.Ab.R06
open Go.Ab Go.Ab.RB
theorem xD (s:Bytes)(hs:s.length≤1000000000000000):∀ (k i:Nat),i+k=s.length→Ev2 (λ _ m=>bC s m (i:Int)) (·=if eC (tn s) i k then .inl () else .inr false):=by
 intro k
 induction k with
 | zero =>
  intro i hi
  refine aA ?_
  simp only [bC]
  refine ax (by omega) (ac rfl)
 | succ k ih =>
  intro i hi
  refine aA ?_
  simp only [bC]
  refine aw (by omega) (ai (by omega) ?_)
  have hb:byt s i=((s.getD i 0).toNat:Int):=b9 s i
  rw [hb]
  have hor:=zV (s.getD i 0)
  have hok:=jG s i
  rw [pH,jF] at hok
  refine al (!tn s i) ?_ ?_
  ·generalize s.getD i 0=b at hor hok ⊢
   generalize tn s i=o at hok ⊢
   generalize iOr .u8 ((b.toNat:Nat):Int) 32=v at hor ⊢
   have hT:(kM b=true)→o=true:=λ h=>hok.2 (.inl ((pH b).1 h))
   have mk:∀ x:Bool,(x=true↔¬ (((97≤b.toNat∧b.toNat≤122)∨(65≤b.toNat∧b.toNat≤90)∨b.toNat=95)∨(i≠0∧48≤b.toNat∧b.toNat≤57)))→x=!o:=λ x hx=>eqB (by rw [hx,← hok]; simp)
   refine ai (by omega) (ak (λ h=>ac (mk _ ?_)) (λ h=>ak (λ h1=>?_) (λ h1=>ak (λ h2=>?_) (λ h2=>ac (mk _ ?_)))))
   ·simp; omega
   ·refine ak (λ h3=>ac (mk _ ?_)) (λ h3=>ai (by omega) (ak (λ h4=>ac (mk _ ?_)) (λ h4=>ai (by omega) (ac (mk _ ?_)))))
    ·simp; omega
    ·simp; omega
    ·rw [decide_eq_true_eq]; omega
   ·refine ak (λ h3=>ac (mk _ ?_)) (λ h3=>ai (by omega) (ak (λ h4=>ac (mk _ ?_)) (λ h4=>ai (by omega) (ac (mk _ ?_)))))
    ·simp; omega
    ·simp; omega
    ·rw [decide_eq_true_eq]; omega
   ·simp; omega
  ·cases hk:tn s i with
   | false=>exact aw (by simp) (ac (by simp [eC,hk]))
   | true =>
    refine ax (by simp) (ai (aC (by omega) (by omega)) ?_)
    have:=ih (i+1) (by omega)
    rw [Int.natCast_add,Int.natCast_one] at this
    simpa [eC,hk] using this
theorem sZ (s:Bytes)(hs:s.length≤1000000000000000):Ev2 (λ n _=>co n s) (·=eN s):=by
 simp only [co]
 have h:=xD s hs s.length 0 (by omega)
 have hi:=pX s
 cases ha:eC (tn s) 0 s.length with
 | false =>
  rw [ha] at h hi
  refine dU false (aT h) (eqB ?_)
  rw [hi]; simp
 | true =>
  rw [ha] at h hi
  refine cP () (aT h) ?_
  refine bD (·=eN s) (ak (λ h=>ac (eqB ?_)) (λ h=>ac (eqB ?_))) (λ t ht=>ac ht)
  ·rw [hi]; simp [h]
  ·rw [hi,decide_eq_true_eq]; simp [h]; omega
theorem u5 (b:UInt8):fA (b.toNat:Int)=some (kM b):=by
 simp only [fA]
 have h:=pH b
 generalize kM b=o at h ⊢
 have mk:∀ x:Bool,(x=true↔(97≤b.toNat∧b.toNat≤122)∨(65≤b.toNat∧b.toNat≤90)∨b.toNat=95)→some x=some o:=λ x hx=>congrArg some (eqB (by rw [hx,h]))
 repeat' split
 all_goals (simp only [Option.bind_some]; apply mk; first | (rw [decide_eq_true_eq]; omega) | (simp; omega))
theorem wi (s:Bytes)(hs:s.length≤1000000000000000):∀ (k i:Nat),i+k=s.length→Ev2 (λ _ m=>ca s m (i:Int)) (·=if eC (λ j=>idB (s.getD j 0)) i k then .inl () else .inr false):=by
 intro k
 induction k with
 | zero =>
  intro i hi
  refine aA ?_
  simp only [ca]
  refine ax (by omega) (ac rfl)
 | succ k ih =>
  intro i hi
  refine aA ?_
  simp only [ca]
  refine aw (by omega) ?_
  have hb:byt s i=((s.getD i 0).toNat:Int):=b9 s i
  rw [hb]
  refine al (!idB (s.getD i 0)) ?_ ?_
  ·refine ai (by omega) (al _ (aO (u5 _) rfl) ?_)
   have h:=jF (s.getD i 0)
   simp only [idB]
   generalize s.getD i 0=b at h ⊢
   cases hl:kM b with
   | true=>exact ax (by simp) (ac (by simp))
   | false =>
    refine aw (by simp) (ai (by omega) (ak (λ h1=>ac ?_) (λ h1=>ai (by omega) (ac ?_))))
    ·have:eh b=false:=by rw [← Bool.not_eq_true,h]; omega
     simp [this]
    ·refine eqB ?_
     rw [decide_eq_true_eq,Bool.false_or,Bool.not_eq_true',← Bool.not_eq_true,h]
     omega
  ·cases hk:idB (s.getD i 0) with
   | false=>exact aw rfl (ac (by simp only [eC,hk,Bool.false_and]; rfl))
   | true =>
    refine ax (by simp) (ai (aC (by omega) (by omega)) ?_)
    have:=ih (i+1) (by omega)
    rw [Int.natCast_add,Int.natCast_one] at this
    simp only [eC,hk,Bool.true_and]
    exact this
theorem ri (s:Bytes)(hs:s.length≤1000000000000000):Ev2 (λ n _=>dr n s) (·=eN s):=by
 simp only [dr]
 have hi:=tl s
 refine al (decide (s.length=0)||decide (64 < s.length)||!kM (s.getD 0 0)) ?_ ?_
 ·refine ak (λ h=>ac ?_) (λ h=>ak (λ h1=>ac ?_) (λ h1=>ai (by omega) (al (kM (s.getD 0 0)) (aO (u5 _) rfl) (ac ?_))))
  ·rw [show decide (s.length=0)=true from decide_eq_true (by omega)]; rfl
  ·rw [show decide (64 < s.length)=true from decide_eq_true (by omega)]; simp
  ·rw [show decide (64 < s.length)=false from decide_eq_false (by omega),show decide (s.length=0)=false from decide_eq_false (by omega)]; rfl
 ·refine ak (λ h=>ac (eqB ?_)) (λ h=>?_)
  ·rw [hi]
   simp only [Bool.or_eq_true,decide_eq_true_eq,Bool.not_eq_true'] at h
   refine ⟨λ q=>(by cases q),λ ⟨q1,q2,q3,_⟩=>?_⟩
   rcases h with (h | h) | h
   ·exact absurd (List.length_eq_zero_iff.1 h) q1
   ·omega
   ·rw [h] at q3; cases q3
  ·simp only [Bool.or_eq_true,decide_eq_true_eq,not_or] at h
   obtain ⟨⟨h1,h2⟩,h3⟩:=h
   have h3:kM (s.getD 0 0)=true:=by simpa using h3
   have l:=wi s hs (s.length - 1) 1 (by omega)
   have ea:eC (λ j=>idB (s.getD j 0)) 0 s.length=eC (λ j=>idB (s.getD j 0)) 1 (s.length - 1):=by
    obtain ⟨k,hk⟩:∃ k,s.length=k+1:=⟨s.length - 1,by omega⟩
    rw [hk]
    simp only [eC,idB,h3,Bool.true_or,Bool.true_and,Nat.add_sub_cancel]
   rw [ea] at hi
   cases ha:eC (λ j=>idB (s.getD j 0)) 1 (s.length - 1) with
   | false =>
    rw [ha] at l hi
    refine dU false (aT l) (eqB ?_)
    rw [hi]; simp
   | true =>
    rw [ha] at l hi
    refine cP () (aT l) (ac (eqB ?_))
    rw [hi]; simp only [true_iff]
    exact ⟨λ q=>h1 (by rw [q]; rfl),by omega,h3,trivial⟩
end Go.Ab.R06
end
section
namespace Go.Ab.R06
open Go.Ab Go.Ab.RB Go.Lib
theorem t31:(List.range 256).all (λ n=>bh .u8 (n:Int) 31 == ((n % 32:Nat):Int))=true:=by kernel_rfl
theorem t15:(List.range 256).all (λ n=>bh .u8 (n:Int) 15 == ((n % 16:Nat):Int))=true:=by kernel_rfl
theorem t7:(List.range 256).all (λ n=>bh .u8 (n:Int) 7 == ((n % 8:Nat):Int))=true:=by kernel_rfl
theorem or64 (a b:Nat)(ha:a < 4611686018427387904)(hb:b < 4611686018427387904):iOr .i64 (a:Int) (b:Int)=((a ||| b:Nat):Int):=by
 have hlt:a ||| b < 4611686018427387904:=Nat.or_lt_two_pow (n:=62) ha hb
 have e1:(BitVec.ofInt 64 (a:Int)).toNat=a:=by
  rw [BitVec.toNat_ofInt]; omega
 have e2:(BitVec.ofInt 64 (b:Int)).toNat=b:=by
  rw [BitVec.toNat_ofInt]; omega
 show IntKind.wrap .i64 (((BitVec.ofInt 64 (a:Int)) ||| (BitVec.ofInt 64 (b:Int))).toNat:Nat)=_
 rw [BitVec.toNat_or,e1,e2]
 simp [IntKind.wrap,IntKind.bits,IntKind.signed]
 omega
theorem rx (a b k:Nat)(ha:a*2 ^ k < 4611686018427387904)(hb:b < 2 ^ k)(hk:k≤20):iOr .i64 ((a*2 ^ k:Nat):Int) (b:Int)=((a*2 ^ k+b:Nat):Int):=by
 have hp:2 ^ k≤2 ^ 20:=Nat.pow_le_pow_right (by decide) hk
 have h20:(2:Nat) ^ 20=1048576:=rfl
 rw [or64 _ _ ha (by omega)]
 have:=Nat.shiftLeft_add_eq_or_of_lt hb a
 rw [Nat.shiftLeft_eq] at this
 rw [← this]
theorem qV (a k:Nat)(hk:k≤20)(ha:a*2 ^ k < 4611686018427387904):gM .i64 (a:Int) (k:Int)=((a*2 ^ k:Nat):Int):=by
 have:min (k:Int).toNat IntKind.i64.bits=k:=by
  have:IntKind.i64.bits=64:=rfl
  rw [this]; omega
 unfold gM
 rw [this]
 have e:(a:Int)*2 ^ k=((a*2 ^ k:Nat):Int):=by push_cast; rfl
 rw [e]
 generalize a*2 ^ k=v at ha
 simp [IntKind.wrap,IntKind.bits,IntKind.signed]
 omega
def zb (l:Bytes):Int×Int:=if (decodeL l).1=65533∧(decodeL l).2=1 then (0,0) else (((decodeL l).1:Int),((decodeL l).2:Int))
theorem zo (s:Bytes)(j:Nat)(lo hi:Int):da s (j:Int) lo hi=some (decide (j < s.length∧lo≤((s.getD j 0).toNat:Int)∧((s.getD j 0).toNat:Int)≤hi)):=by
 unfold da
 have hb:byt s (j:Int)=((s.getD j 0).toNat:Int):=b9 s j
 rw [hb]
 by_cases h:j < s.length
 ·rw [if_pos (by omega),bm (by omega)]
  by_cases h2:lo≤((s.getD j 0).toNat:Int)
  ·rw [if_pos h2,bm (by omega)]
   refine congrArg some (eqB ?_)
   rw [decide_eq_true_eq,decide_eq_true_eq]
   exact ⟨λ q=>⟨h,h2,q⟩,λ q=>q.2.2⟩
  ·rw [if_neg h2,Option.bind_some]
   symm; rw [Option.some.injEq,decide_eq_false_iff_not]
   exact λ q=>h2 q.2.1
 ·rw [if_neg (by omega)]; simp [h]
set_option maxHeartbeats 8000000 in
theorem qC (s:Bytes)(i:Nat)(hi:i < s.length)(hs:s.length≤1000000000):fJ s (i:Int)=some (zb (s.drop i)):=by
 have hg:∀ k,(s.drop i).getD k 0=s.getD (i+k) 0:=λ k=>by
  rw [List.getD_eq_getElem?_getD,List.getElem?_drop,List.getD_eq_getElem?_getD]
 unfold fJ zb
 rw [decodeL_N,hg,hg,hg,hg,Nat.add_zero,List.length_drop]
 have b:∀ k:Nat,byt s ((i:Int)+k)=((s.getD (i+k) 0).toNat:Int):=λ k=>by
  rw [show (i:Int)+(k:Int)=((i+k:Nat):Int) by omega]; exact b9 s (i+k)
 have c:∀ (k:Nat) lo hi,da s ((i:Int)+k) lo hi=some (decide (k < s.length - i∧lo≤((s.getD (i+k) 0).toNat:Int)∧((s.getD (i+k) 0).toNat:Int)≤hi)):=λ k lo hi=>by
  rw [show (i:Int)+(k:Int)=((i+k:Nat):Int) by omega,zo]
  refine congrArg some (eqB ?_)
  rw [decide_eq_true_eq,decide_eq_true_eq]
  constructor
  ·rintro ⟨h1,h2⟩; exact ⟨by omega,h2⟩
  ·rintro ⟨h1,h2⟩; exact ⟨by omega,h2⟩
 have b0:byt s (i:Int)=((s.getD i 0).toNat:Int):=b9 s i
 have b1:byt s ((i:Int)+1)=((s.getD (i+1) 0).toNat:Int):=b 1
 have b2:byt s ((i:Int)+2)=((s.getD (i+2) 0).toNat:Int):=b 2
 have b3:byt s ((i:Int)+3)=((s.getD (i+3) 0).toNat:Int):=b 3
 have c1:∀ lo hi,da s ((i:Int)+1) lo hi=_:=c 1
 have c2:∀ lo hi,da s ((i:Int)+2) lo hi=_:=c 2
 have c3:∀ lo hi,da s ((i:Int)+3) lo hi=_:=c 3
 simp only [b0,b1,b2,b3,c1,c2,c3]
 obtain ⟨n,hn⟩:∃ n,s.length=i+n:=⟨s.length - i,by omega⟩
 have hn1:s.length - i=n:=by omega
 have hlen:(s.length:Int)=(i:Int)+n:=by omega
 rw [hn1,hlen]
 have l0:=(s.getD i 0).toNat_lt
 have l1:=(s.getD (i+1) 0).toNat_lt
 have l2:=(s.getD (i+2) 0).toNat_lt
 have l3:=(s.getD (i+3) 0).toNat_lt
 generalize (s.getD i 0).toNat=B0 at l0 ⊢
 generalize (s.getD (i+1) 0).toNat=B1 at l1 ⊢
 generalize (s.getD (i+2) 0).toNat=B2 at l2 ⊢
 generalize (s.getD (i+3) 0).toNat=B3 at l3 ⊢
 have hnp:0 < n:=by omega
 have hnb:n≤1000000000:=by omega
 have hib:i≤1000000000:=by omega
 clear hg b c b0 b1 b2 b3 c1 c2 c3 hn1 hlen hn hi hs
 have a31:bh .u8 (B0:Int) 31=((B0 % 32:Nat):Int):=tab t31 B0 (by omega)
 have a15:bh .u8 (B0:Int) 15=((B0 % 16:Nat):Int):=tab t15 B0 (by omega)
 have a7:bh .u8 (B0:Int) 7=((B0 % 8:Nat):Int):=tab t7 B0 (by omega)
 have a1:bh .u8 (B1:Int) 63=((B1 % 64:Nat):Int):=tab t63 B1 (by omega)
 have a2:bh .u8 (B2:Int) 63=((B2 % 64:Nat):Int):=tab t63 B2 (by omega)
 have a3:bh .u8 (B3:Int) 63=((B3 % 64:Nat):Int):=tab t63 B3 (by omega)
 have two:iOr .i64 (gM .i64 ((B0 % 32:Nat):Int) 6) ((B1 % 64:Nat):Int)=((B0 % 32*64+B1 % 64:Nat):Int):=by
  have h1:gM .i64 ((B0 % 32:Nat):Int) 6=((B0 % 32*2 ^ 6:Nat):Int):=qV _ 6 (by decide) (by omega)
  rw [h1]
  exact rx _ _ 6 (by omega) (by omega) (by decide)
 have three:iOr .i64 (iOr .i64 (gM .i64 ((B0 % 16:Nat):Int) 12) (gM .i64 ((B1 % 64:Nat):Int) 6)) ((B2 % 64:Nat):Int)=((B0 % 16*4096+B1 % 64*64+B2 % 64:Nat):Int):=by
  have h1:gM .i64 ((B0 % 16:Nat):Int) 12=((B0 % 16*2 ^ 12:Nat):Int):=qV _ 12 (by decide) (by omega)
  have h2:gM .i64 ((B1 % 64:Nat):Int) 6=((B1 % 64*2 ^ 6:Nat):Int):=qV _ 6 (by decide) (by omega)
  have h3:=rx (B0 % 16) (B1 % 64*2 ^ 6) 12 (by omega) (by omega) (by decide)
  have h4:=rx (B0 % 16*64+B1 % 64) (B2 % 64) 6 (by omega) (by omega) (by decide)
  rw [h1,h2,h3,show B0 % 16*2 ^ 12+B1 % 64*2 ^ 6=(B0 % 16*64+B1 % 64)*2 ^ 6 by omega,h4]
 have four:iOr .i64 (iOr .i64 (iOr .i64 (gM .i64 ((B0 % 8:Nat):Int) 18) (gM .i64 ((B1 % 64:Nat):Int) 12)) (gM .i64 ((B2 % 64:Nat):Int) 6)) ((B3 % 64:Nat):Int)=((B0 % 8*262144+B1 % 64*4096+B2 % 64*64+B3 % 64:Nat):Int):=by
  have h1:gM .i64 ((B0 % 8:Nat):Int) 18=((B0 % 8*2 ^ 18:Nat):Int):=qV _ 18 (by decide) (by omega)
  have h2:gM .i64 ((B1 % 64:Nat):Int) 12=((B1 % 64*2 ^ 12:Nat):Int):=qV _ 12 (by decide) (by omega)
  have h2':gM .i64 ((B2 % 64:Nat):Int) 6=((B2 % 64*2 ^ 6:Nat):Int):=qV _ 6 (by decide) (by omega)
  have h3:=rx (B0 % 8) (B1 % 64*2 ^ 12) 18 (by omega) (by omega) (by decide)
  have h4:=rx (B0 % 8*64+B1 % 64) (B2 % 64*2 ^ 6) 12 (by omega) (by omega) (by decide)
  have h5:=rx (B0 % 8*4096+B1 % 64*64+B2 % 64) (B3 % 64) 6 (by omega) (by omega) (by decide)
  rw [h1,h2,h2',h3,show B0 % 8*2 ^ 18+B1 % 64*2 ^ 12=(B0 % 8*64+B1 % 64)*2 ^ 12 by omega,h4,show (B0 % 8*64+B1 % 64)*2 ^ 12+B2 % 64*2 ^ 6=(B0 % 8*4096+B1 % 64*64+B2 % 64)*2 ^ 6 by omega,h5]
 rw [a31,a15,a7,a1,a2,a3,two,three,four]
 have i1:inR ((i:Int)+1):=aC (by omega) (by omega)
 have i2:inR ((i:Int)+2):=aC (by omega) (by omega)
 have i3:inR ((i:Int)+3):=aC (by omega) (by omega)
 have e0:((if (i:Int) < 0 then some true else some (decide ((i:Int)+n≤i))):Option Bool)=some false:=by
  rw [if_neg (by omega)]; simp; omega
 rw [e0,Option.bind_some,if_neg (by simp),bm (by omega)]
 unfold decodeN
 by_cases h0:B0 < 128
 ·rw [if_pos (show (B0:Int) < 128 by omega),bm (aC (by omega) (by omega)),if_pos h0]
  simp only
  rw [if_neg (by omega)]; rfl
 rw [if_neg (show ¬ (B0:Int) < 128 by omega),if_neg h0]
 have e12:((if 194≤(B0:Int) then if (B0:Int)≤223 then ck (inR ((i:Int)+1)) <| (some (decide (1 < n∧(128:Int)≤(B1:Int)∧(B1:Int)≤191))).bind λ r10=>some r10 else some false else some false):Option Bool)=some (decide (194≤B0∧B0≤223∧1 < n∧128≤B1∧B1≤191)):=by
  by_cases q1:194≤B0
  ·rw [if_pos (by omega)]
   by_cases q2:B0≤223
   ·rw [if_pos (by omega),bm i1,Option.bind_some]
    refine congrArg some (eqB ?_)
    rw [decide_eq_true_eq,decide_eq_true_eq]; omega
   ·rw [if_neg (by omega)]; simp; omega
  ·rw [if_neg (by omega)]; simp; omega
 rw [e12,Option.bind_some]
 by_cases h12:194≤B0∧B0≤223∧1 < n∧128≤B1∧B1≤191
 ·rw [if_pos (by simp only [decide_eq_true_eq]; exact h12),bm (aC (by omega) (by omega)),bm (by omega),bm i1,bm (by omega),bm (aC (by omega) (by omega))]
  rw [if_pos (show B0 / 32=6∧1 < n∧B1 / 64=2 by omega),if_pos (show B0 % 32*64+B1 % 64 ≥ 128 by omega)]
  show some _=some (if B0 % 32*64+B1 % 64=65533∧_ then _ else _)
  rw [if_neg (by omega)]; rfl
 rw [if_neg (by simp only [decide_eq_true_eq]; exact h12)]
 have hlo:((if (B0:Int)=224 then some 160 else some 128):Option Int)=some (if B0=224 then 160 else 128):=by
  by_cases q:B0=224
  ·rw [if_pos (by omega),if_pos q]
  ·rw [if_neg (by omega),if_neg q]
 have hhi:((if (B0:Int)=237 then some 159 else some 191):Option Int)=some (if B0=237 then 159 else 191):=by
  by_cases q:B0=237
  ·rw [if_pos (by omega),if_pos q]
  ·rw [if_neg (by omega),if_neg q]
 have hlo4:((if (B0:Int)=240 then some 144 else some 128):Option Int)=some (if B0=240 then 144 else 128):=by
  by_cases q:B0=240
  ·rw [if_pos (by omega),if_pos q]
  ·rw [if_neg (by omega),if_neg q]
 have hhi4:((if (B0:Int)=244 then some 143 else some 191):Option Int)=some (if B0=244 then 143 else 191):=by
  by_cases q:B0=244
  ·rw [if_pos (by omega),if_pos q]
  ·rw [if_neg (by omega),if_neg q]
 rw [hlo,Option.bind_some,hhi,Option.bind_some]
 have e32:∀ lo hi:Int,((if 224≤(B0:Int) then if (B0:Int)≤239 then ck (inR ((i:Int)+1)) <| (some (decide (1 < n∧lo≤(B1:Int)∧(B1:Int)≤hi))).bind λ r26=>if r26=true then ck (inR ((i:Int)+2)) <| (some (decide (2 < n∧(128:Int)≤(B2:Int)∧(B2:Int)≤191))).bind λ r30=>some r30 else some false else some false else some false):Option Bool)
   = some (decide (224≤B0∧B0≤239∧(1 < n∧lo≤(B1:Int)∧(B1:Int)≤hi)∧2 < n∧128≤B2∧B2≤191)):=by
  intro lo hi
  by_cases q1:224≤B0
  ·rw [if_pos (by omega)]
   by_cases q2:B0≤239
   ·rw [if_pos (by omega),bm i1,Option.bind_some]
    by_cases q3:1 < n∧lo≤(B1:Int)∧(B1:Int)≤hi
    ·rw [if_pos (by simp only [decide_eq_true_eq]; exact q3),bm i2,Option.bind_some]
     refine congrArg some (eqB ?_)
     rw [decide_eq_true_eq,decide_eq_true_eq]
     constructor
     ·intro q; exact ⟨q1,q2,q3,by omega⟩
     ·intro q; have:=q.2.2.2; omega
    ·rw [if_neg (by simp only [decide_eq_true_eq]; exact q3)]
     symm; rw [Option.some.injEq,decide_eq_false_iff_not]
     intro q; exact q3 q.2.2.1
   ·rw [if_neg (by omega)]
    symm; rw [Option.some.injEq,decide_eq_false_iff_not]
    intro q; exact q2 q.2.1
  ·rw [if_neg (by omega)]
   symm; rw [Option.some.injEq,decide_eq_false_iff_not]
   intro q; exact q1 q.1
 rw [e32,Option.bind_some]
 by_cases h32:224≤B0∧B0≤239∧(1 < n∧(if B0=224 then 160 else 128)≤(B1:Int)∧(B1:Int)≤(if B0=237 then 159 else 191))∧2 < n∧128≤B2∧B2≤191
 ·rw [if_pos (by simp only [decide_eq_true_eq]; exact h32)]
  obtain ⟨k1,k2,⟨k3,k4,k5⟩,k6,k7,k8⟩:=h32
  have k4':128≤B1∧(B0=224→160≤B1):=by split at k4 <;> omega
  have k5':B1≤191∧(B0=237→B1≤159):=by split at k5 <;> omega
  clear k4 k5
  repeat rw [bm (by first | exact i1 | exact i2 | omega | exact aC (by omega) (by omega))]
  rw [if_neg (show ¬ (B0 / 32=6∧1 < n∧B1 / 64=2) by omega),if_pos (show B0 / 16=14∧(1 < n∧B1 / 64=2)∧2 < n∧B2 / 64=2 by omega),if_pos (show B0 % 16*4096+B1 % 64*64+B2 % 64 ≥ 2048∧(B0 % 16*4096+B1 % 64*64+B2 % 64 < 55296∨57344≤B0 % 16*4096+B1 % 64*64+B2 % 64∧B0 % 16*4096+B1 % 64*64+B2 % 64≤1114111) by omega)]
  show some _=some (if B0 % 16*4096+B1 % 64*64+B2 % 64=65533∧(3:Nat)=1 then _ else _)
  rw [if_neg (by omega)]; rfl
 rw [if_neg (by simp only [decide_eq_true_eq]; exact h32)]
 rw [hlo4,Option.bind_some,hhi4,Option.bind_some]
 have h32':¬ (224≤B0∧B0≤239∧1 < n∧(B0=224→160≤B1)∧128≤B1∧B1≤191∧(B0=237→B1≤159)∧2 < n∧128≤B2∧B2≤191):=by
  rintro ⟨k1,k2,k3,k4,k5,k6,k7,k8⟩
  exact h32 ⟨k1,k2,⟨k3,by split <;> omega,by split <;> omega⟩,k8⟩
 clear h32 e32
 have e60:∀ lo hi:Int,((if 240≤(B0:Int) then if (B0:Int)≤244 then ck (inR ((i:Int)+1)) <| (some (decide (1 < n∧lo≤(B1:Int)∧(B1:Int)≤hi))).bind λ r50=>if r50=true then ck (inR ((i:Int)+2)) <| (some (decide (2 < n∧(128:Int)≤(B2:Int)∧(B2:Int)≤191))).bind λ r54=>if r54=true then ck (inR ((i:Int)+3)) <| (some (decide (3 < n∧(128:Int)≤(B3:Int)∧(B3:Int)≤191))).bind λ r58=>some r58 else some false else some false else some false else some false):Option Bool)
   = some (decide (240≤B0∧B0≤244∧(1 < n∧lo≤(B1:Int)∧(B1:Int)≤hi)∧(2 < n∧128≤B2∧B2≤191)∧3 < n∧128≤B3∧B3≤191)):=by
  intro lo hi
  by_cases q1:240≤B0
  ·rw [if_pos (by omega)]
   by_cases q2:B0≤244
   ·rw [if_pos (by omega),bm i1,Option.bind_some]
    by_cases q3:1 < n∧lo≤(B1:Int)∧(B1:Int)≤hi
    ·rw [if_pos (by simp only [decide_eq_true_eq]; exact q3),bm i2,Option.bind_some]
     by_cases q4:2 < n∧128≤B2∧B2≤191
     ·rw [if_pos (by simp only [decide_eq_true_eq]; omega),bm i3,Option.bind_some]
      refine congrArg some (eqB ?_)
      rw [decide_eq_true_eq,decide_eq_true_eq]
      constructor
      ·intro q; exact ⟨q1,q2,q3,q4,by omega⟩
      ·intro q; have:=q.2.2.2.2; omega
     ·rw [if_neg (by simp only [decide_eq_true_eq]; omega)]
      symm; rw [Option.some.injEq,decide_eq_false_iff_not]
      intro q; exact q4 q.2.2.2.1
    ·rw [if_neg (by simp only [decide_eq_true_eq]; exact q3)]
     symm; rw [Option.some.injEq,decide_eq_false_iff_not]
     intro q; exact q3 q.2.2.1
   ·rw [if_neg (by omega)]
    symm; rw [Option.some.injEq,decide_eq_false_iff_not]
    intro q; exact q2 q.2.1
  ·rw [if_neg (by omega)]
   symm; rw [Option.some.injEq,decide_eq_false_iff_not]
   intro q; exact q1 q.1
 rw [e60,Option.bind_some]
 by_cases h60:240≤B0∧B0≤244∧(1 < n∧(if B0=240 then 144 else 128)≤(B1:Int)∧(B1:Int)≤(if B0=244 then 143 else 191))∧(2 < n∧128≤B2∧B2≤191)∧3 < n∧128≤B3∧B3≤191
 ·rw [if_pos (by simp only [decide_eq_true_eq]; exact h60)]
  obtain ⟨k1,k2,⟨k3,k4,k5⟩,⟨k6,k7,k8⟩,k9,k10,k11⟩:=h60
  have k4':128≤B1∧(B0=240→144≤B1):=by split at k4 <;> omega
  have k5':B1≤191∧(B0=244→B1≤143):=by split at k5 <;> omega
  clear k4 k5
  repeat rw [bm (by first | exact i1 | exact i2 | exact i3 | omega | exact aC (by omega) (by omega))]
  rw [if_neg (show ¬ (B0 / 32=6∧1 < n∧B1 / 64=2) by omega),if_neg (show ¬ (B0 / 16=14∧(1 < n∧B1 / 64=2)∧2 < n∧B2 / 64=2) by omega),if_pos (show B0 / 8=30∧(1 < n∧B1 / 64=2)∧(2 < n∧B2 / 64=2)∧3 < n∧B3 / 64=2 by omega)]
  generalize hv:B0 % 8*262144+B1 % 64*4096+B2 % 64*64+B3 % 64=v
  rw [if_pos (show v ≥ 65536∧(v < 55296∨57344≤v∧v≤1114111) by omega)]
  show some _=some (if v=65533∧(4:Nat)=1 then _ else _)
  rw [if_neg (by omega)]; rfl
 rw [if_neg (by simp only [decide_eq_true_eq]; exact h60)]
 have h60':¬ (240≤B0∧B0≤244∧1 < n∧(B0=240→144≤B1)∧128≤B1∧B1≤191∧(B0=244→B1≤143)∧2 < n∧128≤B2∧B2≤191∧3 < n∧128≤B3∧B3≤191):=by
  rintro ⟨k1,k2,k3,k4,k5,k6,k7,k8,k9,k10,k11⟩
  exact h60 ⟨k1,k2,⟨k3,by split <;> omega,by split <;> omega⟩,⟨k8,k9,k10⟩,k11⟩
 clear h60 e60
 symm
 refine congrArg some (if_pos ?_)
 repeat' split
 all_goals first | exact ⟨rfl,rfl⟩ | (exfalso; omega)
theorem wC (s:Bytes)(hs:s.length≤1000000000):∀ (k i:Nat),s.length - i < k→i≤s.length→Ev2 (λ _ m=>d7 s m (i:Int)) (·=if validD (s.drop i)=true then .inl () else .inr false):=by
 intro k
 induction k with
 | zero=>intro i h; omega
 | succ k ih =>
  intro i hk hi
  refine aA ?_
  simp only [d7]
  by_cases h:i < s.length
  ·have hne:s.drop i≠[]:=by intro q; have:=congrArg List.length q; rw [List.length_drop] at this; simp at this; omega
   refine aw (by omega) (al _ (aO (qC s i h hs) rfl) ?_)
   have hv:=pL _ hne
   have hdf:=jm _ hne
   rw [List.length_drop] at hdf
   unfold zb
   by_cases q:(decodeL (s.drop i)).1=65533∧(decodeL (s.drop i)).2=1
   ·rw [if_pos q]
    refine aw rfl (ac ?_)
    rw [if_neg (λ z=>((hv.1 z).1 q))]
   ·rw [if_neg q]
    refine ax (by simp only; omega) (ai (aC (by simp only; omega) (by simp only; omega)) ?_)
    have:=ih (i+(decodeL (s.drop i)).2) (by omega) (by omega)
    rw [Int.natCast_add] at this
    refine eZ this λ r hr=>?_
    rw [hr,← List.drop_drop]
    by_cases z:validD ((s.drop i).drop (decodeL (s.drop i)).2)=true
    ·rw [if_pos z,if_pos (hv.2 ⟨q,z⟩)]
    ·rw [if_neg z,if_neg (λ y=>z (hv.1 y).2)]
  ·refine ax (by omega) (ac ?_)
   rw [List.drop_of_length_le (by omega),if_pos validD_nil]
theorem rj (s:Bytes)(hs:s.length≤1000000000):Ev2 (λ n _=>eH n s) (·=(decide (s.length≤4096)&&validD s)):=by
 simp only [eH]
 refine ak (λ h=>ac ?_) (λ h=>?_)
 ·have:¬ s.length≤4096:=by omega
  simp [this]
 ·have h':s.length≤4096:=by omega
  have l:=wC s hs (s.length+1) 0 (by omega) (by omega)
  rw [List.drop_zero] at l
  cases hv:validD s with
  | true=>rw [hv] at l; exact cP () (aT l) (ac (by simp [h']))
  | false=>rw [hv] at l; exact dU false (aT l) (by simp)
theorem uV:∀ (k u:Nat),u < 10 ^ (k+1)→u≤9007199254740992→Ev2 (λ n _=>cH n (u:Int)) (·=decDigits u):=by
 intro k
 induction k with
 | zero =>
  intro u h _
  have h:u < 10:=by simpa using h
  refine fe ?_
  simp only [cH]
  have hw:IntKind.wrap .u8 (48+(u:Int))=((48+u:Nat):Int):=by rw [nD]; omega
  rw [hw]
  refine al true (aw (by omega) (ac (by simp; omega))) (aw rfl (ai (aC (by omega) (by omega)) (ai (by omega) (ac ?_))))
  rw [decDigits,dif_pos h]
  rfl
 | succ k ih =>
  intro u h hm
  refine fe ?_
  simp only [cH]
  have hw:u < 10→IntKind.wrap .u8 (48+(u:Int))=((48+u:Nat):Int):=λ _=>by rw [nD]; omega
  by_cases h10:u < 10
  ·rw [hw h10]
   refine al true (aw (by omega) (ac (by simp; omega))) (aw rfl (ai (aC (by omega) (by omega)) (ai (by omega) (ac ?_))))
   rw [decDigits,dif_pos h10]
   rfl
  ·have hd:IntKind.wrap .i64 ((u:Int).tdiv 10)=((u / 10:Nat):Int):=by
    have:(u:Int).tdiv 10=((u / 10:Nat):Int):=by
     rw [Int.tdiv_eq_ediv_of_nonneg (by omega)]; omega
    rw [this]
    simp [IntKind.wrap,IntKind.bits,IntKind.signed]
    omega
   have hmod:(u:Int).tmod 10=((u % 10:Nat):Int):=by
    rw [Int.tmod_eq_emod_of_nonneg (by omega)]; omega
   refine al false (aw (by omega) (ac (by simp; omega))) (ax (by simp) ?_)
   refine al false (ax (by omega) (ac rfl)) (ax (by simp) (ax (by omega) (ai (by decide) ?_)))
   rw [hd,hmod]
   have i1:=ih (u / 10) (by rw [Nat.pow_succ] at h; omega) (by omega)
   have i2:=ih (u % 10) (by have:10 ^ 1≤10 ^ (k+1):=Nat.pow_le_pow_right (by decide) (by omega); omega) (by omega)
   have e2:decDigits (u % 10)=[UInt8.ofNat (48+u % 10)]:=by rw [decDigits,dif_pos (by omega)]
   have hl:(decDigits (u / 10)).length≤u / 10+1:=by
    have:∀ n v:Nat,v < n→(decDigits v).length≤v+1:=by
     intro n
     induction n with
     | zero=>intro v h; omega
     | succ n ihn =>
      intro v hv
      rw [decDigits]
      split
      ·simp
      ·have:=ihn (v / 10) (by omega)
       rw [List.length_append]; simp; omega
    exact this (u / 10+1) _ (by omega)
   refine al _ i1 (ai (by decide) (al _ i2 (ai ?_ (ac ?_))))
   ·rw [e2]; simp only [List.length_cons,List.length_nil]; omega
   ·conv=>rhs; rw [decDigits,dif_neg h10]
    rw [e2]
theorem yl {v:Int}(h0:0≤v)(h1:v≤ga):Ev2 (λ n _=>cH n v) (·=itoa v):=by
 obtain ⟨u,rfl⟩:∃ u:Nat,v=u:=⟨v.toNat,by omega⟩
 have e:itoa (u:Int)=decDigits u:=by unfold itoa; rw [if_neg (by omega)]; simp
 rw [e]
 have:u≤9007199254740992:=by unfold ga at h1; omega
 exact uV 15 u (by omega) this
theorem ve:∀ n:Fin 16,sub zw ((n.1:Nat):Int) (((n.1:Nat):Int)+1)=[hexDigit n.1]:=by decide
theorem uS (u:Nat)(h:u < 256):Ev2 (λ n _=>ek n (u:Int)) (·=cA u):=by
 have one:∀ v:Nat,v < 16→Ev2 (λ n _=>ek n (v:Int)) (·=[hexDigit v]):=by
  intro v hv
  refine fe ?_
  simp only [ek]
  have hm:(v:Int).tmod 16=(v:Int):=by rw [Int.tmod_eq_emod_of_nonneg (by omega)]; omega
  rw [hm]
  refine ai (by decide) (ai (by decide) (ai (aC (by omega) (by omega)) (ai (by simp; omega) (aw (by omega) (ac ?_)))))
  exact ve ⟨v,hv⟩
 by_cases h1:u < 16
 ·have e:cA u=[hexDigit u]:=if_pos h1
  rw [e]; exact one u h1
 ·have e:cA u=[hexDigit (u / 16),hexDigit (u % 16)]:=if_neg h1
  rw [e]
  refine fe ?_
  simp only [ek]
  have hm:(u:Int).tmod 16=((u % 16:Nat):Int):=by rw [Int.tmod_eq_emod_of_nonneg (by omega)]; omega
  have hd:IntKind.wrap .i64 ((u:Int).tdiv 16)=((u / 16:Nat):Int):=by
   have:(u:Int).tdiv 16=((u / 16:Nat):Int):=by rw [Int.tdiv_eq_ediv_of_nonneg (by omega)]; omega
   rw [this]
   simp [IntKind.wrap,IntKind.bits,IntKind.signed]
   omega
  rw [hm,hd]
  have es:sub ([48,49,50,51,52,53,54,55,56,57,97,98,99,100,101,102]:Bytes) ((u % 16:Nat):Int) (((u % 16:Nat):Int)+1)=[hexDigit (u % 16)]:=ve ⟨u % 16,by omega⟩
  rw [es]
  refine ai (by decide) (ai (by decide) (ai (aC (by omega) (by omega)) (ai (by simp; omega) (ax (by omega) (ai (by decide) (al _ (one _ (by omega)) (ai (by simp) (ac rfl))))))))
theorem zm (b:UInt8):Ev2 (λ n _=>gb n (b.toNat:Int)) (·=ew b):=by
 have hb:=b.toNat_lt
 simp only [gb]
 refine ak (λ h=>ac (vg (by omega)).symm) (λ h1=>ak (λ h=>ac (vA (by omega)).symm) (λ h2=>ak (λ h=>ac (vj (by omega)).symm) (λ h3=>ak (λ h=>ac ?_) (λ h4=>ak (λ h=>ac ?_) (λ h5=>?_)))))
 ·have e:b=34:=(mn (n:=34) (by decide)).1 (by omega)
  rw [e]; rfl
 ·have e:b=92:=(mn (n:=92) (by decide)).1 (by omega)
  rw [e]; rfl
 ·refine al (decide (b.toNat < 32∨b.toNat=127)) ?_ ?_
  ·by_cases h:b.toNat < 32
   ·exact aw (by omega) (ac (by simp [h]))
   ·exact ax (by omega) (ac (eqB (by rw [decide_eq_true_eq,decide_eq_true_eq]; omega)))
  ·by_cases h6:b.toNat < 32∨b.toNat=127
   ·rw [vh (by omega) (by omega) (by omega) h6]
    have hl:=lb b.toNat
    exact aw (by simp [h6]) (ai (aC (by omega) (by omega)) (al _ (uS b.toNat (by omega)) (ai (by simp only [List.length_cons,List.length_nil]; omega) (ai (by simp only [List.length_append,List.length_cons,List.length_nil]; omega) (ac rfl)))))
   ·rw [tg (by omega) (by omega) h6]
    refine ax (by simp only [decide_eq_true_eq]; exact h6) (ai (by omega) (ac ?_))
    rw [xV]
theorem wl (s:Bytes)(hs:s.length≤1000000000):∀ (k i:Nat) (f:Bytes),i+k=s.length→f.length≤6*i+1→Ev2 (λ n m=>dz n s m f (i:Int)) (·=f++(s.drop i).flatMap ew):=by
 intro k
 induction k with
 | zero =>
  intro i f hi hf
  refine aA ?_
  simp only [dz]
  refine ax (by omega) (ac ?_)
  rw [List.drop_of_length_le (by omega)]; simp
 | succ k ih =>
  intro i f hi hf
  refine aA ?_
  simp only [dz]
  refine aw (by omega) (ai (by omega) ?_)
  have hb:byt s i=((s.getD i 0).toNat:Int):=b9 s i
  rw [hb]
  have hd:s.drop i=s.getD i 0::s.drop (i+1):=by
   rw [List.getD_eq_getElem?_getD,List.getElem?_eq_getElem (by omega),Option.getD_some]
   exact List.drop_eq_getElem_cons (by omega)
  rw [hd,List.flatMap_cons]
  have he:=nh (s.getD i 0)
  generalize s.getD i 0=b at he ⊢
  refine al _ (zm b) (ai (by omega) (ai (aC (by omega) (by omega)) ?_))
  have:=ih (i+1) (f++ew b) (by omega) (by rw [List.length_append]; omega)
  rw [Int.natCast_add,Int.natCast_one] at this
  simpa using this
theorem vY (s:Bytes)(hs:s.length≤1000000000):Ev2 (λ n _=>iE n s) (·=eg s):=by
 simp only [iE]
 have hf:=qn s
 have l:=wl s hs s.length 0 [34] (by omega) (by simp)
 rw [List.drop_zero] at l
 refine al _ (aT l) (ai (by simp only [List.length_append,List.length_cons,List.length_nil]; omega) (ac ?_))
 simp [eg]
theorem Bl:(List.range 256).all (λ n=>jk (n:Int) == some (match nN (UInt8.ofNat n) with | some d=>(d:Int) | none=>-1))=true:=by kernel_rfl
theorem AD (b:UInt8):jk (b.toNat:Int)=some (match nN b with | some d=>(d:Int) | none=>-1):=by
 have:=eq_of_beq (List.all_eq_true.1 Bl b.toNat (List.mem_range.2 b.toNat_lt))
 simpa using this
theorem getD_drop (s:Bytes)(j i:Nat):(s.drop j).getD i 0=s.getD (j+i) 0:=by
 rw [List.getD_eq_getElem?_getD,List.getElem?_drop,List.getD_eq_getElem?_getD]
theorem sx (s:Bytes)(j i:Nat):byt s ((j:Int)+(i:Int))=((s.getD (j+i) 0).toNat:Int):=by
 rw [show (j:Int)+(i:Int)=((j+i:Nat):Int) by omega]; exact b9 s (j+i)
theorem drop_at (s:Bytes){i:Nat}(h:i < s.length):s.drop i=s.getD i 0::s.drop (i+1):=by
 rw [List.getD_eq_getElem?_getD,List.getElem?_eq_getElem h,Option.getD_some]
 exact List.drop_eq_getElem_cons h
theorem we (s:Bytes)(hs:s.length≤1000000000)(j:Nat)(hj:j≤s.length):∀ (k i a:Nat),i+k=6→j+i≤s.length→a < 16 ^ i→Ev2 (λ _ m=>dH s (j:Int) m (a:Int) (i:Int))
  (·=(((cm k (s.drop (j+i)) a).1:Int),((i+(cm k (s.drop (j+i)) a).2:Nat):Int))):=by
 intro k
 induction k with
 | zero =>
  intro i a hi hl ha
  refine aA ?_
  simp only [dH]
  refine al false ?_ (ax (by simp) (ac (by simp [cm])))
  exact ai (aC (by omega) (by omega)) (ak (λ h=>ax (by omega) (ac rfl)) (λ h=>ac rfl))
 | succ k ih =>
  intro i a hi hl ha
  refine aA ?_
  simp only [dH]
  rw [sx]
  have hin:inR ((j:Int)+(i:Int)):=aC (by omega) (by omega)
  by_cases h:j+i < s.length
  ·rw [drop_at s h]
   generalize s.getD (j+i) 0=b
   unfold cm
   cases hh:nN b with
   | none =>
    refine al false (ai hin (aw (by omega) (aw (by omega) (ai hin (ai (by omega) (al _ (aO (AD b) rfl) (ac ?_))))))) (ax (by simp) (ac (by simp)))
    rw [hh]; rfl
   | some d =>
    have hlt:=vu hh
    have hp:16 ^ i≤16 ^ 5:=Nat.pow_le_pow_right (by decide) (by omega)
    have hp5:(16:Nat) ^ 5=1048576:=rfl
    refine al true (ai hin (aw (by omega) (aw (by omega) (ai hin (ai (by omega) (al _ (aO (AD b) rfl) (ac ?_))))))) ?_
    ·rw [hh]; simp
    refine aw rfl (ai (aC (by omega) (by omega)) (ai hin (ai (by omega) (al _ (aO (AD b) rfl) ?_))))
    rw [hh]
    simp only
    refine ai (aC (by omega) (by omega)) (ai (aC (by omega) (by omega)) ?_)
    have:=ih (i+1) (16*a+d) (by omega) (by omega) (by rw [Nat.pow_succ]; omega)
    rw [show (((i+1:Nat)):Int)=(i:Int)+1 by omega,show ((16*a+d:Nat):Int)=16*(a:Int)+(d:Int) by omega,← Nat.add_assoc] at this
    refine eZ this λ r hr=>?_
    rw [hr]
    refine Prod.ext rfl ?_
    show ((i+1+_:Nat):Int)=((i+(_+1):Nat):Int)
    omega
  ·refine al false (ai hin (ax (by omega) (ac rfl))) (ax (by simp) (ac ?_))
   rw [List.drop_of_length_le (by omega)]
   simp [cm]
def shP (j:Int)(p:Int×Int×Int):Int×Int×Int:=if p.2.2=0 then (p.1,j+p.2.1,0) else (0,0,p.2.2)
theorem vN (s:Bytes)(hs:s.length≤1000000000)(j:Nat)(hj:j≤s.length):Ev2 (λ n _=>iR n s (j:Int)) (·=shP (j:Int) (gO (s.drop j))):=by
 simp only [iR]
 have l:=we s hs j hj 6 0 0 rfl (by omega) (by decide)
 rw [Nat.add_zero,Nat.zero_add] at l
 have hle:=lW 6 (s.drop j) 0
 refine al _ (aT l) ?_
 obtain ⟨v,c,hh⟩:∃ v c,cm 6 (s.drop j) 0=(v,c):=⟨_,_,rfl⟩
 have hP:=pz hh
 rw [hh] at hle ⊢
 rw [List.length_drop] at hle hP
 simp only at hle ⊢
 have hin:inR ((j:Int)+(c:Int)):=aC (by omega) (by omega)
 refine ai hin ?_
 refine ak (λ h=>ac ?_) (λ h=>?_)
 ·rw [hP,if_pos (by omega)]; rfl
 rw [if_neg (show ¬ c=s.length - j by omega),getD_drop,getD_drop,Nat.add_zero] at hP
 have hb0:byt s (j:Int)=((s.getD j 0).toNat:Int):=b9 s j
 have h125:(s.getD (j+c) 0).toNat=125↔s.getD (j+c) 0=125:=mn (by decide)
 have h48:(s.getD j 0).toNat=48↔s.getD j 0=48:=mn (by decide)
 rw [sx,hb0]
 have hvr:validRune (v:Int)=false↔1114111 < (v:Int)∨(55296≤(v:Int)∧(v:Int)≤57343):=by
  simp only [validRune,decide_eq_false_iff_not]; omega
 have tail:Ev2 (λ _ _=>(if 1114111 < (v:Int) then some true else if 55296≤(v:Int) then some (decide ((v:Int)≤57343)) else some false:Option Bool)) (·=decide (validRune (v:Int)=false)):=by
  refine ak (λ h1=>ac ?_) (λ h1=>ak (λ h2=>ac (eqB ?_)) (λ h2=>ac ?_))
  ·symm; rw [decide_eq_true_eq,hvr]; exact .inl h1
  ·rw [decide_eq_true_eq,decide_eq_true_eq,hvr]; omega
  ·symm; rw [decide_eq_false_iff_not,hvr]; omega
 refine al (decide (s.getD (j+c) 0≠125∨c=0∨(1 < c∧s.getD j 0=48)∨validRune (v:Int)=false)) ?_ ?_
 ·refine ak (λ h1=>ac ?_) (λ h1=>ai hin (ai (by omega) ?_))
  ·symm; rw [decide_eq_true_eq]; right; left; omega
  refine ak (λ h2=>?_) (λ h2=>ac ?_)
  ·have q1:¬ s.getD (j+c) 0≠125:=λ q=>q (h125.1 (by omega))
   have q0:¬ c=0:=by omega
   refine ak (λ h3=>ai (by omega) (ak (λ h4=>ac ?_) (λ h4=>?_))) (λ h3=>?_)
   ·symm; rw [decide_eq_true_eq]; right; right; left; exact ⟨by omega,h48.1 (by omega)⟩
   ·have q2:¬ (1 < c∧s.getD j 0=48):=λ q=>h4 (by have:=h48.2 q.2; omega)
    refine eZ tail λ r hr=>?_
    rw [hr]; simp only [q1,q0,q2,false_or]
   ·have q2:¬ (1 < c∧s.getD j 0=48):=λ q=>h3 (by omega)
    refine eZ tail λ r hr=>?_
    rw [hr]; simp only [q1,q0,q2,false_or]
  ·symm; rw [decide_eq_true_eq]; left; intro q; exact h2 (by have:=h125.2 q; omega)
 ·refine ak (λ h1=>ac ?_) (λ h1=>ai hin (ai (aC (by omega) (by omega)) (ac ?_)))
  ·rw [hP,if_pos (of_decide_eq_true h1)]; rfl
  ·rw [hP,if_neg (λ q=>h1 (decide_eq_true q))]
   unfold shP
   rw [if_pos rfl]
   refine Prod.ext rfl (Prod.ext ?_ rfl)
   show (j:Int)+(c:Int)+1=(j:Int)+((c+1:Nat):Int)
   omega
theorem u192:(List.range 32).all (λ n=>iOr .i64 192 (n:Int) == ((192+n:Nat):Int))=true:=by kernel_rfl
theorem zU:(List.range 64).all (λ n=>iOr .i64 128 (n:Int) == ((128+n:Nat):Int))=true:=by kernel_rfl
theorem u224:(List.range 16).all (λ n=>iOr .i64 224 (n:Int) == ((224+n:Nat):Int))=true:=by kernel_rfl
theorem u240:(List.range 8).all (λ n=>iOr .i64 240 (n:Int) == ((240+n:Nat):Int))=true:=by kernel_rfl
theorem uQ (u:Nat)(h:u < 4611686018427387904):bh .i64 (u:Int) 63=((u % 64:Nat):Int):=by
 have e1:(BitVec.ofInt 64 (u:Int)).toNat=u:=by rw [BitVec.toNat_ofInt]; omega
 have e2:(BitVec.ofInt 64 (63:Int)).toNat=63:=by rw [BitVec.toNat_ofInt]; omega
 show IntKind.wrap .i64 (((BitVec.ofInt 64 (u:Int)) &&& (BitVec.ofInt 64 (63:Int))).toNat:Nat)=_
 rw [BitVec.toNat_and,e1,e2]
 have:=Nat.and_two_pow_sub_one_eq_mod u 6
 rw [show (2:Nat) ^ 6 - 1=63 from rfl,show (2:Nat) ^ 6=64 from rfl] at this
 rw [this]
 simp [IntKind.wrap,IntKind.bits,IntKind.signed]
 omega
theorem shw (u k:Nat)(hk:k < 64):bM .i64 (u:Int) (k:Int)=((u / 2 ^ k:Nat):Int):=by
 show (u:Int).fdiv (2 ^ (min (k:Int).toNat IntKind.i64.bits))=_
 have:min (k:Int).toNat IntKind.i64.bits=k:=by
  have:IntKind.i64.bits=64:=rfl
  rw [this]; omega
 rw [this,Int.fdiv_eq_ediv_of_nonneg _ (by exact Int.le_of_lt (Int.pow_pos (by decide)))]
 push_cast; rfl
theorem yV (u:Nat)(h:ee (u:Int)):gV (u:Int)=some (encodeRune (u:Int)):=by
 have h0:(u:Int)≤1114111:=by unfold ee at h; omega
 unfold gV
 have s6:bM .i64 (u:Int) 6=((u / 64:Nat):Int):=shw u 6 (by decide)
 have s12:bM .i64 (u:Int) 12=((u / 4096:Nat):Int):=shw u 12 (by decide)
 have s18:bM .i64 (u:Int) 18=((u / 262144:Nat):Int):=shw u 18 (by decide)
 rw [s6,s12,s18,uQ u (by omega),uQ (u / 64) (by omega),uQ (u / 4096) (by omega)]
 have o1:iOr .i64 128 ((u % 64:Nat):Int)=((128+u % 64:Nat):Int):=tab zU _ (by omega)
 have o2:iOr .i64 128 ((u / 64 % 64:Nat):Int)=((128+u / 64 % 64:Nat):Int):=tab zU _ (by omega)
 have o3:iOr .i64 128 ((u / 4096 % 64:Nat):Int)=((128+u / 4096 % 64:Nat):Int):=tab zU _ (by omega)
 rw [o1,o2,o3]
 have w8:∀ v:Nat,v < 256→IntKind.wrap .u8 (v:Int)=(v:Int):=λ v hv=>by rw [nD]; omega
 have eu:∀ (v:Nat) (w:Int),(v:Int)=w→u8 (v:Int)=w.toNat.toUInt8:=λ v w q=>by rw [← q]; rfl
 by_cases h1:u < 128
 ·rw [if_pos (by omega),w8 u (by omega),bm (by omega)]
  simp only [encodeRune,encodeRuneZ,if_pos (show 0≤(u:Int)∧(u:Int)≤127 by omega),List.map_cons,List.map_nil,u8]
 rw [if_neg (by omega)]
 have n1:¬ (0≤(u:Int)∧(u:Int)≤127):=by omega
 by_cases h2:u < 2048
 ·have p1:iOr .i64 192 ((u / 64:Nat):Int)=((192+u / 64:Nat):Int):=tab u192 _ (by omega)
  rw [if_pos (by omega),p1,w8 _ (by omega),w8 _ (by omega),bm (by omega),bm (by omega),bm (by omega)]
  simp only [encodeRune,encodeRuneZ,if_neg n1,if_pos (show 128≤(u:Int)∧(u:Int)≤2047 by omega),List.map_cons,List.map_nil]
  rw [eu _ (192+(u:Int) / 64) (by omega),eu _ (128+(u:Int) % 64) (by omega)]
 rw [if_neg (by omega)]
 have n2:¬ (128≤(u:Int)∧(u:Int)≤2047):=by omega
 by_cases h3:u < 65536
 ·have p1:iOr .i64 224 ((u / 4096:Nat):Int)=((224+u / 4096:Nat):Int):=tab u224 _ (by omega)
  rw [if_pos (by omega),p1,w8 _ (by omega),w8 _ (by omega),w8 _ (by omega)]
  repeat rw [bm (by omega)]
  simp only [encodeRune,encodeRuneZ,if_neg n1,if_neg n2,if_pos (show (2048≤(u:Int)∧(u:Int) < 55296)∨(57343 < (u:Int)∧(u:Int)≤65535) by unfold ee at h; omega),List.map_cons,List.map_nil]
  rw [eu _ (224+(u:Int) / 4096) (by omega),eu _ (128+(u:Int) / 64 % 64) (by omega),eu _ (128+(u:Int) % 64) (by omega)]
 ·have p1:iOr .i64 240 ((u / 262144:Nat):Int)=((240+u / 262144:Nat):Int):=tab u240 _ (by omega)
  rw [if_neg (by omega),p1,w8 _ (by omega),w8 _ (by omega),w8 _ (by omega),w8 _ (by omega)]
  repeat rw [bm (by omega)]
  simp only [encodeRune,encodeRuneZ,if_neg n1,if_neg n2,if_neg (show ¬ ((2048≤(u:Int)∧(u:Int) < 55296)∨(57343 < (u:Int)∧(u:Int)≤65535)) by omega),if_pos (show 65536≤(u:Int)∧(u:Int)≤1114111 by omega),List.map_cons,List.map_nil]
  rw [eu _ (240+(u:Int) / 262144) (by omega),eu _ (128+(u:Int) / 4096 % 64) (by omega),eu _ (128+(u:Int) / 64 % 64) (by omega),eu _ (128+(u:Int) % 64) (by omega)]
theorem jp (s:Bytes)(a w:Nat):sub s (a:Int) ((a:Int)+(w:Int))=(s.drop a).take w:=by
 show (s.take ((a:Int)+(w:Int)).toNat).drop (a:Int).toNat=_
 rw [show ((a:Int)+(w:Int)).toNat=a+w by omega,Int.toNat_natCast,List.drop_take,Nat.add_sub_cancel_left]
def shE (j:Int)(p:Int×Int×Int):Bytes×Int×Int:=if p.2.2=0 then (encodeRune p.1,j+p.2.1,0) else ([],0,p.2.2)
theorem j5 (j v c:Int):shE j (v,c,0)=(encodeRune v,j+c,0):=if_pos rfl
theorem uY (j v c e:Int)(h:e≠0):shE j (v,c,e)=([],0,e):=if_neg h
theorem sD (s:Bytes)(hs:s.length≤1000000000)(i:Nat)(hi:i < s.length):Ev2 (λ n _=>fV n s (i:Int)) (·=shE ((i:Int)+1) (ik (s.drop (i+1)))):=by
 simp only [fV]
 have i1:inR ((i:Int)+1):=aC (by omega) (by omega)
 have i2:inR ((i:Int)+2):=aC (by omega) (by omega)
 have i3:inR ((i:Int)+3):=aC (by omega) (by omega)
 refine ai i1 ?_
 by_cases h1:i+1 < s.length
 ·have hb:byt s ((i:Int)+1)=((s.getD (i+1) 0).toNat:Int):=sx s i 1
  have hb2:byt s ((i:Int)+2)=((s.getD (i+2) 0).toNat:Int):=sx s i 2
  have hsub:sub s ((i:Int)+1) ((i:Int)+2)=[s.getD (i+1) 0]:=by
   have:=jp s (i+1) 1
   rw [show ((i+1:Nat):Int)=(i:Int)+1 by omega,show (i:Int)+1+((1:Nat):Int)=(i:Int)+2 by omega] at this
   rw [this,drop_at s h1]; rfl
  have hd2:s.drop (i+1+1)=s.drop (i+2):=rfl
  rw [hb,hb2,hsub,drop_at s h1,hd2]
  generalize s.getD (i+1) 0=b
  have hbl:=b.toNat_lt
  have hP:=lZ b (s.drop (i+2))
  refine ax (by omega) (ai i1 (ai (by omega) ?_))
  have two:(i:Int)+2=(i:Int)+1+1:=by omega
  refine ak (λ h=>ai i2 (ac ?_)) (λ h1=>?_)
  ·rw [hP,if_pos (by omega),j5,two]; rfl
  rw [if_neg (show ¬ b.toNat=110 by omega)] at hP
  refine ak (λ h=>ai i2 (ac ?_)) (λ h2=>?_)
  ·rw [hP,if_pos (by omega),j5,two]; rfl
  rw [if_neg (show ¬ b.toNat=114 by omega)] at hP
  refine ak (λ h=>ai i2 (ac ?_)) (λ h3=>?_)
  ·rw [hP,if_pos (by omega),j5,two]; rfl
  rw [if_neg (show ¬ b.toNat=116 by omega)] at hP
  refine al (decide (b.toNat=34∨b.toNat=92)) ?_ ?_
  ·by_cases h:b.toNat=34
   ·exact aw (by omega) (ac (by simp [h]))
   ·exact ax (by omega) (ac (eqB (by rw [decide_eq_true_eq,decide_eq_true_eq]; omega)))
  by_cases h4:b.toNat=34∨b.toNat=92
  ·rw [if_pos h4] at hP
   rw [hP,j5,nG b (by omega)]
   exact aw (by simp [h4]) (ai i1 (ai i2 (ai (by omega) (ai i2 (ac (by rw [two]))))))
  rw [if_neg h4] at hP
  refine ax (by simp only [decide_eq_true_eq]; exact h4) ?_
  refine ak (λ h5=>?_) (λ h5=>ac (by rw [hP,if_neg (by omega)]; rfl))
  rw [if_pos (show b.toNat=117 by omega)] at hP
  rw [hP]
  refine ai i2 ?_
  by_cases h6:i+2 < s.length
  ·rw [drop_at s h6]
   have hd3:s.drop (i+2+1)=s.drop (i+3):=rfl
   rw [hd3]
   refine ax (by omega) (ai i2 (ai (by omega) ?_))
   generalize s.getD (i+2) 0=c
   show Ev2 _ (·=shE ((i:Int)+1) (if c.toNat=123 then ((gO (s.drop (i+3))).1,(gO (s.drop (i+3))).2.1+2,(gO (s.drop (i+3))).2.2) else ((0,0,2):Int×Int×Int)))
   refine ak (λ h7=>ai i3 ?_) (λ h7=>ac (by rw [if_neg (by omega)]; rfl))
   rw [if_pos (show c.toNat=123 by omega)]
   have hpt:=vN s hs (i+3) (by omega)
   rw [show ((i+3:Nat):Int)=(i:Int)+3 by omega] at hpt
   have hle:=rL (s.drop (i+3))
   generalize gO (s.drop (i+3))=p at hpt hle ⊢
   obtain ⟨v,w,e⟩:=p
   simp only at hle ⊢
   refine al _ hpt ?_
   by_cases he:e=0
   ·subst he
    have hr:=hle.2.2.1 rfl
    obtain ⟨u,rfl⟩:∃ u:Nat,v=u:=⟨v.toNat,by unfold ee at hr; omega⟩
    rw [show shP ((i:Int)+3) ((u:Int),w,0)=((u:Int),(i:Int)+3+w,0) from if_pos rfl,j5]
    refine aw rfl (al _ (aO (yV u hr) rfl) (ac ?_))
    refine Prod.ext rfl (Prod.ext ?_ rfl)
    show (i:Int)+3+w=(i:Int)+1+(w+2)
    omega
   ·rw [show shP ((i:Int)+3) (v,w,e)=(0,0,e) from if_neg he,uY _ _ _ _ he]
    exact ax he (ac rfl)
  ·rw [List.drop_of_length_le (show s.length≤i+2 by omega)]
   exact aw (by omega) (ac rfl)
 ·rw [List.drop_of_length_le (by omega)]
  exact aw (by omega) (ac rfl)
theorem Ah (b:UInt8)(r:Bytes)(h:128≤b.toNat):128≤(decodeL (b::r)).1:=by
 have hN:=zi (b::r).length ((b::r).getD 0 0).toNat ((b::r).getD 1 0).toNat ((b::r).getD 2 0).toNat ((b::r).getD 3 0).toNat (by simp) (UInt8.toNat_lt _)
 rw [← decodeL_N] at hN
 rcases Nat.lt_or_ge (decodeL (b::r)).1 128 with q | q
 ·have:=(hN.2.2.2.1 q).2
  have hb0:((b::r).getD 0 0).toNat=b.toNat:=rfl
  omega
 ·exact q
def zX (i:Int)(b:UInt8)(r:Bytes):Bytes×Int×Int :=
 if (decodeL (b::r)).1=92 then shE (i+1) (ik r)
 else if mM (decodeL (b::r)) then ([],0,2)
 else (encodeRune ((decodeL (b::r)).1:Int),i+((decodeL (b::r)).2:Int),0)
theorem yD (s:Bytes)(hs:s.length≤1000000000)(i:Nat)(b:UInt8)(r:Bytes)(hl:s.drop i=b::r)(hi:i+r.length+1=s.length):Ev2 (λ n _=>jZ n s (i:Int)) (·=zX (i:Int) b r):=by
 simp only [jZ]
 have hil:i < s.length:=by omega
 have hd:=drop_at s hil
 rw [hl] at hd
 have hb:byt s i=(b.toNat:Int):=by rw [b9,← (List.cons.inj hd).1]
 have hr:s.drop (i+1)=r:=(List.cons.inj hd).2.symm
 rw [hb]
 have hbl:=b.toNat_lt
 unfold zX
 refine ai (by omega) ?_
 by_cases h92:b.toNat=92
 ·have e:decodeL (b::r)=(b.toNat,1):=decodeL_ascii b r (by omega)
  rw [e,if_pos h92]
  have:=sD s hs i hil
  rw [hr] at this
  exact aw (by omega) (al _ this (ac rfl))
 ·have hdec:=qC s i hil hs
  rw [hl] at hdec
  have hdf:=jm (b::r) (by simp)
  have hc:((decodeL (b::r)).1=b.toNat∧(decodeL (b::r)).2=1∧b.toNat < 128)∨(128≤(decodeL (b::r)).1∧128≤b.toNat):=by
   rcases Nat.lt_or_ge b.toNat 128 with q | q
   ·left; rw [decodeL_ascii b r q]; exact ⟨rfl,rfl,q⟩
   ·right; exact ⟨Ah b r q,q⟩
  refine ax (by omega) (al _ (aO hdec rfl) ?_)
  unfold zb
  generalize hD:decodeL (b::r)=D at hdf hc ⊢
  obtain ⟨c,w⟩:=D
  simp only at hdf hc ⊢
  rw [if_neg (show ¬ c=92 by omega)]
  simp only [List.length_cons] at hdf
  by_cases hbad:c=65533∧w=1
  ·rw [if_pos hbad,if_pos (show mM (c,w) from .inl hbad)]
   exact al true (aw rfl (ac rfl)) (aw rfl (ac rfl))
  ·rw [if_neg hbad]
   have hgood:=hdf.2.2 hbad
   refine al (decide (mM (c,w))) ?_ ?_
   ·refine ax (by simp only; omega) (ai (by omega) (ak (λ h=>ac ?_) (λ h=>ai (by omega) (ac (eqB ?_)))))
    ·symm; rw [decide_eq_true_eq]; unfold mM; simp only; omega
    ·rw [decide_eq_true_eq,decide_eq_true_eq]; unfold mM; simp only; omega
   ·refine ak (λ h=>ac (by rw [if_pos (of_decide_eq_true h)])) (λ h=>?_)
    rw [if_neg (λ q=>h (decide_eq_true q))]
    have hin:inR ((i:Int)+(w:Int)):=aC (by omega) (by omega)
    refine ai hin (ai (by simp only; omega) (ai hin (ac ?_)))
    simp only
    rw [jp,hl,hgood.2]
def yR (s:Bytes):(Int×Bytes)⊕(Bytes×Int×Int)→Unit⊕(Bytes×Int×Int)
 | .inl q=>if q.1=(s.length:Int) then .inl () else .inr (if 4096 < q.2.length then ([],0,3) else (q.2,q.1+1,0))
 | .inr e=>.inr e
theorem yB (s:Bytes)(hs:s.length≤1000000000):∀ (k:Nat) (l:Bytes) (i:Nat) (f:Bytes),l.length < k→s.drop i=l→i+l.length=s.length→f.length≤4*i→Ev2 (λ n m=>du n s m f (i:Int)) (·=yR s (jf k l i f)):=by
 intro k
 induction k with
 | zero=>intro l i f h; omega
 | succ k ih =>
  intro l i f hk hl hi hf
  refine aA ?_
  simp only [du]
  cases l with
  | nil =>
   simp only [List.length_nil] at hi
   refine ax (by omega) (ac ?_)
   rw [jf]
   show _=(if (i:Int)=(s.length:Int) then _ else _)
   rw [if_pos (by omega)]
  | cons b r =>
   have hil:i < s.length:=by simp only [List.length_cons] at hi; omega
   have hd:=drop_at s hil
   rw [hl] at hd
   have hb:byt s i=(b.toNat:Int):=by rw [b9,← (List.cons.inj hd).1]
   have hr:s.drop (i+1)=r:=(List.cons.inj hd).2.symm
   have hlr:r.length+i+1=s.length:=by simp only [List.length_cons] at hi; omega
   have hU:=gK k b r i f
   have h1:=yD s hs i b r hl (by omega)
   rw [hb]
   refine aw (by omega) (ai (by omega) ?_)
   by_cases h34:b.toNat=34
   ·rw [if_pos h34] at hU
    have hO:yR s (.inl ((i:Int),f))=.inr (if 4096 < f.length then ([],0,3) else (f,(i:Int)+1,0)):=if_neg (by simp only; omega)
    rw [hU,hO]
    refine aw (by omega) (ak (λ h=>ac (by rw [if_pos (by omega)])) (λ h=>ai (aC (by omega) (by omega)) (ac (by rw [if_neg (by omega)]))))
   rw [if_neg h34] at hU
   refine ax (by omega) (al _ h1 ?_)
   unfold zX
   have hdf:=jm (b::r) (by simp)
   generalize hD:decodeL (b::r)=D at hU hdf ⊢
   obtain ⟨c,w⟩:=D
   simp only at hU hdf ⊢
   by_cases h92:c=92
   ·rw [if_pos h92] at hU ⊢
    have hes:=rV r
    generalize ik r=E at hU hes ⊢
    obtain ⟨x,y,z⟩:=E
    simp only at hU hes
    by_cases hz:z=0
    ·subst hz
     rw [if_pos rfl] at hU
     rw [j5]
     obtain ⟨e1,e2⟩:=hes.2.2.1 rfl
     obtain ⟨y',rfl⟩:∃ y':Nat,y=y':=⟨y.toNat,by omega⟩
     rw [Int.toNat_natCast] at hU
     have hle:=jP x e1
     refine aw rfl (ai (by dsimp only; omega) ?_)
     have:=ih (r.drop y') (i+(y'+1)) (f++encodeRune x) (by rw [List.length_drop]; simp only [List.length_cons] at hk; omega) (by rw [← hr,List.drop_drop]; congr 1; omega) (by rw [List.length_drop]; omega) (by rw [List.length_append]; omega)
     rw [← hU] at this
     rw [show ((i+(y'+1):Nat):Int)=(i:Int)+1+(y':Int) by omega] at this
     exact this
    ·rw [if_neg hz] at hU
     rw [uY _ _ _ _ hz]
     exact ax hz (ac (by rw [hU]; rfl))
   ·rw [if_neg h92] at hU ⊢
    by_cases hbd:mM (c,w)
    ·rw [if_pos hbd] at hU ⊢
     exact ax (by simp) (ac (by rw [hU]; rfl))
    ·rw [if_neg hbd] at hU ⊢
     have hgood:=hdf.2.2 (λ q=>hbd (.inl q))
     have hle:=jP c hgood.1
     have hw:w≤r.length+1:=by simpa using hdf.2.1
     have hw1:=hdf.1
     refine aw rfl (ai (by dsimp only; omega) ?_)
     have:=ih ((b::r).drop w) (i+w) (f++encodeRune (c:Int)) (by rw [List.length_drop]; simp only [List.length_cons] at hk ⊢; omega) (by rw [← hl,List.drop_drop]) (by rw [List.length_drop]; simp only [List.length_cons]; omega) (by rw [List.length_append]; omega)
     rw [← hU] at this
     rw [show ((i+w:Nat):Int)=(i:Int)+(w:Int) by omega] at this
     exact this
theorem uZ (s:Bytes)(hs:s.length≤1000000000):Ev2 (λ n _=>fZ n s) (·=gq s):=by
 simp only [fZ]
 cases s with
 | nil=>exact aw rfl (ac rfl)
 | cons b r =>
  have hl:((b::r).length:Int)=(r.length:Int)+1:=by simp
  have hln:(b::r).length=r.length+1:=by simp
  refine ax (by omega) (ai (by omega) ?_)
  have hb:byt (b::r) 0=(b.toNat:Int):=rfl
  rw [hb,j7]
  refine ak (λ h=>?_) (λ h=>ac (by rw [if_neg (show ¬ b.toNat=34 by omega)]))
  have l:=yB (b::r) hs (r.length+1) r 1 [] (by omega) rfl (by omega) (by simp)
  rw [if_pos (show b.toNat=34 by omega)]
  generalize jf (r.length+1) r 1 []=U at l ⊢
  cases U with
  | inr e=>exact dU e (aT l) rfl
  | inl q =>
   obtain ⟨a,g⟩:=q
   by_cases ha:a=((r.length+1:Nat):Int)
   ·have e:yR (b::r) (.inl (a,g))=.inl ():=if_pos (by simp only; omega)
    rw [e] at l
    refine cP () (aT l) (ac ?_)
    show _=(if a=((r.length+1:Nat):Int) then _ else _)
    rw [if_pos ha]
   ·have e:yR (b::r) (.inl (a,g))=.inr (if 4096 < g.length then ([],0,3) else (g,a+1,0)):=if_neg (by simp only; omega)
    rw [e] at l
    refine dU _ (aT l) ?_
    show _=(if a=((r.length+1:Nat):Int) then _ else if 4096 < g.length then _ else (g,a+1,0))
    rw [if_neg ha]
theorem zd (s:Bytes)(hs:s.length≤1000000000):∀ (k i:Nat),i+k=s.length→Ev2 (λ _ m=>di s m (i:Int)) (·=if eC (λ j=>eh (s.getD j 0)) i k then .inl () else .inr false):=by
 intro k
 induction k with
 | zero =>
  intro i hi
  refine aA ?_
  simp only [di]
  exact ax (by omega) (ac rfl)
 | succ k ih =>
  intro i hi
  refine aA ?_
  simp only [di]
  have hb:byt s i=((s.getD i 0).toNat:Int):=b9 s i
  rw [hb]
  refine aw (by omega) (al (!eh (s.getD i 0)) ?_ ?_)
  ·have h:=jF (s.getD i 0)
   generalize s.getD i 0=b at h ⊢
   refine ai (by omega) (ak (λ h1=>ac ?_) (λ h1=>ai (by omega) (ac ?_)))
   ·have:eh b=false:=by rw [← Bool.not_eq_true,h]; omega
    simp [this]
   ·refine eqB ?_
    rw [decide_eq_true_eq,Bool.not_eq_true',← Bool.not_eq_true,h]
    omega
  ·cases hk:eh (s.getD i 0) with
   | false=>exact aw rfl (ac (by simp only [eC,hk,Bool.false_and]; rfl))
   | true =>
    refine ax (by simp) (ai (aC (by omega) (by omega)) ?_)
    have:=ih (i+1) (by omega)
    rw [Int.natCast_add,Int.natCast_one] at this
    simp only [eC,hk,Bool.true_and]
    exact this
theorem zA (s:Bytes)(hs:s.length≤1000000000):Ev2 (λ n _=>hQ n s) (·=lh s):=by
 simp only [hQ]
 have l:=zd s hs s.length 0 (by omega)
 rw [sS] at l
 have hc:=gU s
 have hb:byt s 0=((s.getD 0 0).toNat:Int):=b9 s 0
 have h48:(s.getD 0 0).toNat=48↔s.getD 0 0=48:=mn (by decide)
 cases ha:s.all eh with
 | false =>
  rw [ha] at l hc
  refine dU false (aT l) (eqB ?_)
  rw [hc]; simp
 | true =>
  rw [ha] at l hc
  refine cP () (aT l) (bD (·=lh s) ?_ (λ x hx=>ac hx))
  refine ak (λ h=>ac (eqB ?_)) (λ h0=>ak (λ h=>ac (eqB ?_)) (λ h=>ai ?_ (ac (eqB ?_))))
  ·rw [hc,h]; simp
  ·rw [hc]; simp [h]
  ·have:=List.length_pos_iff.2 h; omega
  ·rw [hb,hc,Bool.not_eq_true',decide_eq_false_iff_not]
   constructor
   ·intro q; exact ⟨h,rfl,.inl λ z=>q (by have:=h48.2 z; omega)⟩
   ·rintro ⟨_,_,q | q⟩
    ·intro z; exact q (h48.1 (by omega))
    ·intro z
     obtain ⟨b,hb1⟩:=List.length_eq_one_iff.1 q
     have h3:=h48.1 (by omega)
     rw [hb1] at h3
     exact h0 (by rw [hb1]; exact congrArg (λ x=>[x]) h3)
def nI (l:Bytes):Int×Int:=if lh l=true then (if l.length≤16∧ed 0 l≤9007199254740992 then ((ed 0 l:Int),0) else (0,5)) else (0,2)
theorem rG:∀ (l:Bytes) (a:Nat),l.all eh=true→ed a l < (a+1)*10 ^ l.length
 | [],a,_=>by simp [j1]
 | b::r,a,h=>by
  have hb:=ki h (b:=b) List.mem_cons_self
  have hr:r.all eh=true:=by
   rw [List.all_eq_true] at h ⊢
   exact λ x hx=>h x (List.mem_cons_of_mem _ hx)
  have:=rG r (a*10+(b.toNat - 48)) hr
  rw [lU,List.length_cons,Nat.pow_succ]
  have h2:a*10+(b.toNat - 48)+1≤(a+1)*10:=by omega
  have h3:=Nat.mul_le_mul_right (10 ^ r.length) h2
  have h4:(a+1)*10*10 ^ r.length=(a+1)*(10 ^ r.length*10):=by rw [Nat.mul_assoc,Nat.mul_comm 10]
  omega
theorem zh (s:Bytes)(hs:s.length≤16)(hd:s.all eh=true):∀ (k i:Nat),i+k=s.length→Ev2 (λ _ m=>dG s m (ed 0 (s.take i):Int) (i:Int)) (·=(ed 0 s:Int)):=by
 intro k
 induction k with
 | zero =>
  intro i hi
  refine aA ?_
  simp only [dG]
  refine ax (by omega) (ac ?_)
  rw [List.take_of_length_le (by omega)]
 | succ k ih =>
  intro i hi
  refine aA ?_
  simp only [dG]
  have hil:i < s.length:=by omega
  have hb:byt s i=((s.getD i 0).toNat:Int):=b9 s i
  have hm:s.getD i 0∈s:=by
   rw [List.getD_eq_getElem?_getD,List.getElem?_eq_getElem hil,Option.getD_some]; exact List.getElem_mem hil
  have hdig:=ki hd hm
  have ht:s.take (i+1)=s.take i++[s.getD i 0]:=by
   rw [List.take_add_one,List.getElem?_eq_getElem hil,List.getD_eq_getElem?_getD,List.getElem?_eq_getElem hil]; rfl
  have hall:(s.take i).all eh=true:=by
   rw [List.all_eq_true] at hd ⊢
   exact λ x hx=>hd x (List.mem_of_mem_take hx)
  have hlt:=rG (s.take i) 0 hall
  rw [List.length_take] at hlt
  have hp:10 ^ min i s.length≤10 ^ 15:=Nat.pow_le_pow_right (by decide) (by omega)
  have hp15:(10:Nat) ^ 15=1000000000000000:=rfl
  have:=ih (i+1) (by omega)
  rw [ht,nQ] at this
  rw [hb]
  generalize s.getD i 0=b at hdig this
  generalize ed 0 (s.take i)=v at hlt this
  have hw:IntKind.wrap .u8 ((b.toNat:Int) - 48)=((b.toNat - 48:Nat):Int):=by rw [nD]; omega
  rw [hw]
  refine aw (by omega) (ai (aC (by omega) (by omega)) (ai (by omega) (ai (aC (by omega) (by omega)) (ai (aC (by omega) (by omega)) (ai (aC (by omega) (by omega)) ?_)))))
  rw [show ((v*10+(b.toNat - 48):Nat):Int)=10*(v:Int)+((b.toNat - 48:Nat):Int) by omega,show ((i+1:Nat):Int)=(i:Int)+1 by omega] at this
  exact this
theorem vk (s:Bytes)(hs:s.length≤1000000000)(hd:s.all eh=true):Ev2 (λ n _=>iN n s) (·=nI s):=by
 simp only [iN]
 have hneg:¬ (0 < s.length∧byt s 0=45):=by
  rintro ⟨h1,h2⟩
  have hb:byt s 0=((s.getD 0 0).toNat:Int):=b9 s 0
  have hm:s.getD 0 0∈s:=by
   rw [List.getD_eq_getElem?_getD,List.getElem?_eq_getElem h1,Option.getD_some]; exact List.getElem_mem h1
  have:=ki hd hm
  omega
 refine al false ?_ ?_
 ·refine ak (λ h=>ai (by omega) (ac ?_)) (λ h=>ac rfl)
  rw [decide_eq_false_iff_not]; intro q; exact hneg ⟨by omega,q⟩
 refine al s (ax (by simp) (ac rfl)) ?_
 unfold nI
 refine al (!lh s) ?_ ?_
 ·refine al _ (zA s hs) ?_
  cases lh s with
  | false=>exact aw rfl (ac rfl)
  | true=>exact ax (by simp) (ax (by simp) (ac rfl))
 cases hc:lh s with
 | false=>exact aw rfl (ac (by simp))
 | true =>
  refine ax (by simp) ?_
  rw [if_pos rfl]
  refine ak (λ h=>ac (by rw [if_neg (by omega)])) (λ h=>?_)
  have l:=zh s (by omega) hd s.length 0 (by omega)
  rw [List.take_zero,j1] at l
  have hlt:=rG s 0 hd
  have hp:10 ^ s.length≤10 ^ 16:=Nat.pow_le_pow_right (by decide) (by omega)
  have hp16:(10:Nat) ^ 16=10000000000000000:=rfl
  refine al _ (aT l) (al _ (ax (by simp) (ac rfl)) (al (decide (ed 0 s≤9007199254740992)) ?_ ?_))
  ·simp only [gv]
   refine bD (·=decide (ed 0 s≤9007199254740992)) (aw (by omega) (ac (eqB ?_))) (λ t ht=>ac ht)
   rw [decide_eq_true_eq,decide_eq_true_eq]; omega
  ·by_cases hv:ed 0 s≤9007199254740992
   ·exact ax (by simp [hv]) (ac (by rw [if_pos ⟨by omega,hv⟩]))
   ·exact aw (by simp [hv]) (ac (by rw [if_neg (λ q=>hv q.2)]))
theorem vH {v:Int}(h0:0≤v)(h1:v≤ga):nI (itoa v)=(v,0):=by
 have hl:=mT h0 h1
 obtain ⟨u,rfl⟩:∃ u:Nat,v=u:=⟨v.toNat,by omega⟩
 have e:itoa (u:Int)=decDigits u:=by unfold itoa; rw [if_neg (by omega)]; simp
 rw [e] at hl ⊢
 have hd:=sd (u+1) u (by omega)
 unfold nI
 rw [if_pos ((gU _).2 ⟨hd.2.2.1,hd.2.1,hd.2.2.2.1⟩),hd.1,if_pos ⟨hl,by unfold ga at h1; omega⟩]
theorem q5 {l:Bytes}{v:Int}(h:nI l=(v,0)):itoa v=l∧0≤v∧v≤ga:=by
 unfold nI at h
 split at h
 ·rename_i hc
  split at h
  ·rename_i hv
   cases h
   have hb:=(oL l.length l (Nat.le_refl _) hc).1
   refine ⟨?_,by omega,by unfold ga; omega⟩
   have e:itoa ((ed 0 l:Nat):Int)=decDigits (ed 0 l):=by unfold itoa; rw [if_neg (by omega)]; simp
   rw [e,hb]
  ·cases h
 ·cases h
end Go.Ab.R06
end
section
namespace Go.Ab.R06
open Go.Proofs Go.Ab Go.Ab.RB
attribute [local irreducible] awp eQ aU au bH AV.sub M cC
def fC (n:Nat)(p_0:List aa):Option Bool :=
 (gD n p_0).bind λ r1 =>
 if (!r1)=true then
  (bK n).bind λ r4 =>
  some r4
 else
  (gp n p_0).bind λ r6 =>
  (gB n p_0).bind λ r8 =>
  if r6=r8 then
   (
     (gB n p_0).bind λ r11 =>
     if r11=0 then
      (dk n p_0).bind λ r14 =>
      (fG n p_0).bind λ r16 =>
      if r14=r16 then
       (bK n).bind λ r19 =>
       some r19
      else
       some false
     else
      (bK n).bind λ r21 =>
      some r21
    : Option Bool).bind λ t23 =>
   some t23
  else
   some false
theorem ma (n:Nat)(p_0:List aa)(r:Bool)(h0:fC n p_0=some r):au Tryz.prog 5 [eL ae p_0] (·=.p (eB r)):=by
 unfold fC at h0
 refine aH good Tryz.func5 rfl rfl rfl λ w0=>mP (λ v:Bool=>.p (eB v)) ?_
 refine nx 8 rfl (bd h0 λ r1 e2 h0=>?_)
 refine oK (lD _ p_0 _ e2) rfl ⟨sr,trivial⟩ Tryz.call16 rfl (nx 2 rfl ?_)
 refine fB [5] h0 rfl (λ c3 h0=>?_) λ c3 h0=>?_
 ·refine nx 3 rfl (bd h0 λ r4 e5 h0=>?_)
  refine oK (bZ _  _ e5) rfl trivial Tryz.call11 rfl (nx 3 rfl ?_)
  exact mQ (oi h0) rfl (sr)
 refine nx 6 rfl (bd h0 λ r6 e7 h0=>?_)
 refine oK (jV _ p_0 _ e7) rfl ⟨sr,trivial⟩ Tryz.call23 rfl (nx 1 rfl ?_)
 refine bd h0 λ r8 e9 h0=>oK (kZ _ p_0 _ e9) rfl ⟨sr,trivial⟩ Tryz.call17 rfl (nx 2 rfl ?_)
 refine fN [11] h0 rfl (λ c10 h0=>?_) λ c10 h0=>?_
 ·refine nx 3 rfl (bd h0 λ o25 h1 h0=>?_)
  refine kN o25 (λ v26=>⟨[(2,.p (eB v26))],[]⟩) ?_ ?_
  ·exact nx 2 rfl (mQ (oi h0) rfl (sr))
  refine nx 2 rfl (bd h1 λ r11 e12 h1=>?_)
  refine oK (kZ _ p_0 _ e12) rfl ⟨sr,trivial⟩ Tryz.call17 rfl (nx 2 rfl ?_)
  refine fN [14,15] h1 rfl (λ c13 h1=>?_) λ c13 h1=>?_
  ·refine nx 1 rfl (bd h1 λ r14 e15 h1=>?_)
   refine oK (fq _ p_0 _ e15) rfl ⟨sr,trivial⟩ Tryz.call24 rfl (nx 1 rfl ?_)
   refine bd h1 λ r16 e17 h1=>oK (kC _ p_0 _ e17) rfl ⟨sr,trivial⟩ Tryz.call25 rfl (oS rfl rfl ?_)
   refine nx 2 rfl (fD [20,21,22] h1 rfl (λ c18 h1=>?_) λ c18 h1=>?_)
   ·refine bd h1 λ r19 e20 h1=>oK (bZ _  _ e20) rfl trivial Tryz.call11 rfl (nx 3 rfl ?_)
    exact eX _ (oi h1).symm (gE rfl rfl)
   exact nx 4 rfl (eX _ (oi h1).symm (gE rfl rfl))
  refine nx 7 rfl (bd h1 λ r21 e22 h1=>?_)
  refine oK (bZ _  _ e22) rfl trivial Tryz.call11 rfl (nx 3 rfl ?_)
  exact eX _ (oi h1).symm (gE rfl rfl)
 exact nx 6 rfl (mQ (oi h0) rfl (sr))
end Go.Ab.R06
end
section
namespace Go.Ab
set_option autoImplicit false
theorem nF {α:Type}{tt:List (Nat×TI)}{n t s b:Nat}{cs:List PV}{z:List Value}(f:α→PV)(Q:α→Prop){e:Nat}(hl:look tt t=some ⟨.slice e,s,b,z⟩)(h:WTf tt n t cs)
  (he:∀ m x,m < n→WTf tt m e x.cells→x=mkE (((look tt e).map (·.k.isAgg)).getD false) x.cells→∃ y,x=f y∧Q y):∃ l:List α,cs=[eL f l]∧l.length*(((look tt e).map (·.bytes)).getD 0)≤fS∧∀ y∈l,Q y:=by
 cases n with
 | zero=>exact h.elim
 | succ n =>
  obtain ⟨l,h1,h2,h3⟩:=xL f Q hl h (λ x k1 k2=>he n x (by omega) k1 k2)
  exact ⟨l,h1,h2.2,h3⟩
inductive ab.Bd:ab→Prop where
 | mk {x:ab} (bKind:inR x.fKind) (bNum:inR x.fNum) (bStr:x.fStr.length≤fS) (bItems:x.fItems.length*80≤fS) (eItems:∀ y∈x.fItems,ab.Bd y) (bKeys:x.fKeys.length*16≤fS) (eKeys:∀ y∈x.fKeys,y.length≤fS):ab.Bd x
theorem ab.Bd.bKind {x:ab}(h:ab.Bd x):inR x.fKind:=by cases h; assumption
theorem ab.Bd.bNum {x:ab}(h:ab.Bd x):inR x.fNum:=by cases h; assumption
theorem ab.Bd.bStr {x:ab}(h:ab.Bd x):x.fStr.length≤fS:=by cases h; assumption
theorem ab.Bd.bItems {x:ab}(h:ab.Bd x):x.fItems.length*80≤fS:=by cases h; assumption
theorem ab.Bd.eItems {x:ab}(h:ab.Bd x):∀ y∈x.fItems,ab.Bd y:=by cases h; assumption
theorem ab.Bd.bKeys {x:ab}(h:ab.Bd x):x.fKeys.length*16≤fS:=by cases h; assumption
theorem ab.Bd.eKeys {x:ab}(h:ab.Bd x):∀ y∈x.fKeys,y.length≤fS:=by cases h; assumption
theorem ab.dec (n:Nat):(∀ cs,WTf tt n 33 cs→∃ x:ab,cs=ab.cs x∧ab.Bd x):=by
 induction n using Nat.strongRecOn with
 | _ n ih =>
 have ih_TValue:∀ m,m < n→(∀ cs,WTf tt m 33 cs→∃ x:ab,cs=ab.cs x∧ab.Bd x):=λ m hm=>(ih m hm)
 intro cs h
 cases n with
 | zero=>exact h.elim
 | succ n =>
 have h0:=pM rfl h
 obtain ⟨c0,q0,rfl,k0,h0⟩:=iM h0
 obtain ⟨c1,q1,rfl,k1,h0⟩:=iM h0
 obtain ⟨c2,q2,rfl,k2,h0⟩:=iM h0
 obtain ⟨c3,q3,rfl,k3,h0⟩:=iM h0
 obtain ⟨c4,q4,rfl,k4,h0⟩:=iM h0
 have e:q4=[]:=h0
 subst e
 obtain ⟨x1,rfl,b2⟩:=se rfl k0
 obtain ⟨x3,rfl,b4⟩:=se rfl k1
 obtain ⟨x5,rfl,b6⟩:=lY rfl k2
 obtain ⟨x7,rfl,b8⟩:=nF ah (λ y=>ab.Bd y) rfl k3 (λ m9 y10 hm11 k12 k13=>by
  obtain ⟨x14,e16,b15⟩:=ih_TValue _ (by omega) _ k12
  exact ⟨x14,(xi e16 k13).trans (ab.agg_eq _).symm,b15⟩
  )
 obtain ⟨x17,rfl,b18⟩:=nF eS (λ y=>y.length≤fS) rfl k4 (λ m19 y20 hm21 k22 k23=>by
  obtain ⟨x24,e26,b25⟩:=lY rfl k22
  exact ⟨x24,xP e26 k23,b25⟩
  )
 exact ⟨ab.mk x1 x3 x5 x7 x17,rfl,.mk b2 b4 b6 b8.1 b8.2 b18.1 b18.2⟩
inductive aa.Bd:aa→Prop where
 | mk {x:aa} (bNum:inR x.fNum) (bName:x.fName.length≤fS):aa.Bd x
theorem aa.Bd.bNum {x:aa}(h:aa.Bd x):inR x.fNum:=by cases h; assumption
theorem aa.Bd.bName {x:aa}(h:aa.Bd x):x.fName.length≤fS:=by cases h; assumption
theorem aa.dec (n:Nat):(∀ cs,WTf tt n 53 cs→∃ x:aa,cs=aa.cs x∧aa.Bd x):=by
 induction n using Nat.strongRecOn with
 | _ n ih =>
 have ih_TPathStep:∀ m,m < n→(∀ cs,WTf tt m 53 cs→∃ x:aa,cs=aa.cs x∧aa.Bd x):=λ m hm=>(ih m hm)
 intro cs h
 cases n with
 | zero=>exact h.elim
 | succ n =>
 have h0:=pM rfl h
 obtain ⟨c0,q0,rfl,k0,h0⟩:=iM h0
 obtain ⟨c1,q1,rfl,k1,h0⟩:=iM h0
 obtain ⟨c2,q2,rfl,k2,h0⟩:=iM h0
 have e:q2=[]:=h0
 subst e
 obtain ⟨x27,rfl⟩:=wN rfl k0
 obtain ⟨x29,rfl,b30⟩:=se rfl k1
 obtain ⟨x31,rfl,b32⟩:=lY rfl k2
 exact ⟨aa.mk x27 x29 x31,rfl,.mk b30 b32⟩
end Go.Ab
end
section
namespace Go.Ab.R06
open Go.Ab Go.Ab.RB Go.Lib
theorem jK {P:Int→Prop}{i:Nat}(h:P ((i+1:Nat):Int)):P ((i:Int)+1):=by rwa [Int.natCast_add,Int.natCast_one] at h
theorem sL (p:List aa){i:Nat}(h:i < p.length):p.drop i=lat p (i:Int)::p.drop (i+1):=by
 rw [rX,List.getD_eq_getElem?_getD,List.getElem?_eq_getElem h,Option.getD_some]
 exact List.drop_eq_getElem_cons h
def sk (x:aa):Bool:=if x.fIndex=true then !decide (x.fName=[]) else !decide (x.fNum=0)||!(decide (x.fName.length≤4096)&&validD x.fName)
def qZ (x:aa):Int:=if sk x=true then 1 else if x.fNum < 0∨9007199254740992 < x.fNum then 5 else 0
def gr:List aa→Int
 | []=>0
 | x::r=>if qZ x=0 then gr r else qZ x
def kt (p:List aa):Int:=if 32 < p.length then 4 else gr p
theorem yc {V:Bytes→Nat→Option Bool}(hV:∀ s:Bytes,s.length≤1000000→Ev2 (λ n _=>V s n) (·=(decide (s.length≤4096)&&validD s)))(x:aa)(hx:x.fName.length≤1000000):Ev2 (λ n _ =>
  if x.fIndex=true then
   if x.fName=([]:Bytes) then
   if (!x.fIndex)=true then
    if x.fNum=0 then
    (V x.fName n).bind λ r28 =>
    some (!r28)
    else
    some true
   else
    some false
   else
   some true
  else
   if (!x.fIndex)=true then
   if x.fNum=0 then
    (V x.fName n).bind λ r32 =>
    some (!r32)
   else
    some true
   else
   some false) (·=sk x):=by
 refine ak (λ h1=>ak (λ h2=>ax (by simp [h1]) (ac ?_)) (λ h2=>ac ?_)) (λ h1=>aw (by simpa using h1) (ak (λ h2=>?_) (λ h2=>ac ?_)))
 ·simp [sk,h1,h2]
 ·simp [sk,h1,h2]
 ·exact al _ (hV _ hx) (ac (by simp [sk,h1,h2]))
 ·simp [sk,h1,h2]
theorem wP (x:aa):Ev2 (λ _ _=>if x.fNum < 0 then some true else some (decide (9007199254740992 < x.fNum))) (·=decide (x.fNum < 0∨9007199254740992 < x.fNum)) :=
 ak (λ h=>ac (by simp [h])) (λ h=>ac (by simp [h]))
theorem qB (p:List aa)(hp:∀ x∈p,x.fName.length≤1000000):Ev2 (λ n _=>gp n p) (·=kt p):=by
 simp only [gp,kt]
 refine ak (λ h=>ac (by rw [if_pos (by omega)])) (λ h=>?_)
 rw [if_neg (by omega)]
 have loop:∀ (k i:Nat),i+k=p.length→Ev2 (λ _ m=>dy p m (i:Int)) (·=if gr (p.drop i)=0 then .inl () else .inr (gr (p.drop i))):=by
  intro k
  induction k with
  | zero =>
   intro i hi
   refine aA ?_
   simp only [dy]
   refine ax (by omega) (ac ?_)
   rw [List.drop_eq_nil_of_le (by omega),gr,if_pos rfl]
  | succ k ih =>
   intro i hi
   have hd:=sL p (i:=i) (by omega)
   have hm:lat p (i:Int)∈p:=List.mem_of_mem_drop (hd ▸ List.mem_cons_self)
   refine aA ?_
   simp only [dy]
   refine aw (by omega) (ai (by omega) (al _ (yc (V:=λ s _=>en s) (λ s _=>aO (AG s) rfl) _ (hp _ hm)) ?_))
   rw [hd,gr,qZ]
   refine ak (λ h1=>ac ?_) (λ h1=>al _ (wP _) (ak (λ h2=>ac ?_) (λ h2=>ai (aC (by omega) (by omega)) ?_)))
   ·rw [if_pos h1]; rfl
   ·rw [if_neg h1,if_pos (of_decide_eq_true h2)]; rfl
   ·rw [if_neg h1,if_neg (λ q=>h2 (decide_eq_true q)),if_pos rfl]
    exact jK (P:=λ j=>Ev2 (λ _ m=>dy p m j) _) (ih (i+1) (by omega))
 have l:=loop p.length 0 (by omega)
 rw [List.drop_zero] at l
 by_cases h0:gr p=0
 ·rw [if_pos h0] at l; exact cP () (aT l) (ac h0.symm)
 ·rw [if_neg h0] at l; exact dU _ (aT l) rfl
theorem rp (p:List aa)(hp:∀ x∈p,x.fName.length≤1000000):Ev2 (λ n _=>gB n p) (·=kt p):=by
 simp only [gB,kt]
 refine ak (λ h=>ac (by rw [if_pos (by omega)])) (λ h=>?_)
 rw [if_neg (by omega)]
 have loop:∀ (k i:Nat),i+k=p.length→Ev2 (λ n m=>dc n p m (i:Int)) (·=if gr (p.drop i)=0 then .inl () else .inr (gr (p.drop i))):=by
  intro k
  induction k with
  | zero =>
   intro i hi
   refine aA ?_
   simp only [dc]
   refine ax (by omega) (ac ?_)
   rw [List.drop_eq_nil_of_le (by omega),gr,if_pos rfl]
  | succ k ih =>
   intro i hi
   have hd:=sL p (i:=i) (by omega)
   have hm:lat p (i:Int)∈p:=List.mem_of_mem_drop (hd ▸ List.mem_cons_self)
   refine aA ?_
   simp only [dc]
   refine aw (by omega) (ai (by omega) (al _ (yc (V:=λ s n=>eH n s) (λ s hs=>rj s (by omega)) _ (hp _ hm)) ?_))
   rw [hd,gr,qZ]
   refine ak (λ h1=>ac ?_) (λ h1=>al _ (wP _) (ak (λ h2=>ac ?_) (λ h2=>ai (aC (by omega) (by omega)) ?_)))
   ·rw [if_pos h1]; rfl
   ·rw [if_neg h1,if_pos (of_decide_eq_true h2)]; rfl
   ·rw [if_neg h1,if_neg (λ q=>h2 (decide_eq_true q)),if_pos rfl]
    exact jK (P:=λ j=>Ev2 (λ n m=>dc n p m j) _) (ih (i+1) (by omega))
 have l:=loop p.length 0 (by omega)
 rw [List.drop_zero] at l
 by_cases h0:gr p=0
 ·rw [if_pos h0] at l; exact cP () (aT l) (ac h0.symm)
 ·rw [if_neg h0] at l; exact dU _ (aT l) rfl
def stepT (first:Bool)(x:aa):Bytes:=if x.fIndex=true then [91]++itoa x.fNum++[93] else if eN x.fName=false then [91]++eg x.fName++[93] else if first then x.fName else [46]++x.fName
def fu:Bool→List aa→Bytes
 | _,[]=>[]
 | b,x::r=>stepT b x++fu false r
theorem yX (v:Int)(h0:-9223372036854775808≤v)(h1:v≤9223372036854775807):f0 v=some (itoa v):=by
 unfold f0 strconv_Itoa
 rw [bm (aC (by omega) (by omega))]; rfl
structure kw (x:aa):Prop where
 num:0≤x.fNum∧x.fNum≤ga
 ix:x.fIndex=true→x.fName=[]
 nm:x.fIndex=false→x.fNum=0∧x.fName.length≤4096∧validD x.fName=true
theorem kw.len {x:aa}(h:kw x):x.fName.length≤4096:=by
 cases hx:x.fIndex with
 | true=>rw [h.ix hx]; simp
 | false=>exact (h.nm hx).2.1
theorem step_ok {x:aa}:qZ x=0↔kw x:=by
 unfold qZ
 constructor
 ·intro h
  split at h
  ·cases h
  ·rename_i hb
   split at h
   ·cases h
   ·rename_i hr
    unfold sk at hb
    refine ⟨⟨by omega,by unfold ga; omega⟩,λ hx=>?_,λ hx=>?_⟩
    ·rw [if_pos hx] at hb; simpa using hb
    ·rw [if_neg (by rw [hx]; decide)] at hb
     simpa using hb
 ·intro h
  have hb:sk x=false:=by
   unfold sk
   cases hx:x.fIndex with
   | true=>rw [if_pos rfl,h.ix hx]; rfl
   | false =>
    obtain ⟨h1,h2,h3⟩:=h.nm hx
    rw [if_neg (by decide),h1,h3]; simp [h2]
  have hn:=h.num
  unfold ga at hn
  rw [if_neg (by rw [hb]; decide),if_neg (by omega)]
theorem vW {p:List aa}:gr p=0↔∀ x∈p,kw x:=by
 induction p with
 | nil=>simp [gr]
 | cons x r ih =>
  rw [gr]
  constructor
  ·intro h
   split at h
   ·rename_i h0
    intro y hy
    rcases List.mem_cons.1 hy with rfl | hy
    ·exact step_ok.1 h0
    ·exact ih.1 h y hy
   ·rename_i h0; exact absurd h h0
  ·intro h
   rw [if_pos (step_ok.2 (h x List.mem_cons_self))]
   exact ih.2 (λ y hy=>h y (List.mem_cons_of_mem _ hy))
theorem nc {p:List aa}:kt p=0↔p.length≤32∧∀ x∈p,kw x:=by
 unfold kt
 split
 ·rename_i h; exact ⟨λ q=>(by cases q),λ q=>absurd q.1 (by omega)⟩
 ·rename_i h; rw [vW]; exact ⟨λ q=>⟨by omega,q⟩,λ q=>q.2⟩
theorem mE (s:Bytes):(eg s).length≤6*s.length+2:=by
 have:=qn s
 simp only [eg,List.length_cons,List.length_append,List.length_nil]; omega
theorem oe {x:aa}(b:Bool)(h:kw x):(stepT b x).length≤24580:=by
 have h1:=mT h.num.1 h.num.2
 have h2:=mE x.fName
 have h3:=h.len
 unfold stepT
 split
 ·simp only [List.length_append,List.length_cons,List.length_nil]; omega
 ·split
  ·simp only [List.length_append,List.length_cons,List.length_nil]; omega
  ·split
   ·omega
   ·simp only [List.length_append,List.length_cons,List.length_nil]; omega
theorem q7:∀ (b:Bool) (p:List aa),(∀ x∈p,kw x)→(fu b p).length≤24580*p.length
 | _,[],_=>by simp [fu]
 | b,x::r,h=>by
  have h1:=oe b (h x List.mem_cons_self)
  have h2:=q7 false r (λ y hy=>h y (List.mem_cons_of_mem _ hy))
  rw [fu,List.length_append,List.length_cons]; omega
theorem rR (p:List aa)(hl:p.length≤1000)(hp:∀ x∈p,kw x):Ev2 (λ n _=>dk n p) (·=fu true p):=by
 simp only [dk]
 have loop:∀ (k i:Nat) (f:Bytes),i+k=p.length→f.length≤24580*i→Ev2 (λ n m=>bQ n p m (i:Int) f) (·=f++fu (decide (i=0)) (p.drop i)):=by
  intro k
  induction k with
  | zero =>
   intro i f hi hf
   refine aA ?_
   simp only [bQ]
   refine ax (by omega) (ac ?_)
   rw [List.drop_eq_nil_of_le (by omega),fu,List.append_nil]
  | succ k ih =>
   intro i f hi hf
   have hd:=sL p (i:=i) (by omega)
   have hm:lat p (i:Int)∈p:=List.mem_of_mem_drop (hd ▸ List.mem_cons_self)
   have hx:=hp _ hm
   rw [hd,fu]
   refine aA ?_
   simp only [bQ]
   refine aw (by omega) (ai (by omega) ?_)
   generalize lat p (i:Int)=x at hx
   have hsl:=oe (decide (i=0)) hx
   have h3:=hx.len
   have h4:=mT hx.num.1 hx.num.2
   have h5:=mE x.fName
   have hn:=hx.num
   unfold ga at hn
   refine al (f++stepT (decide (i=0)) x) ?_ ?_
   ·unfold stepT
    refine ak (λ h1=>?_) (λ h1=>?_)
    ·rw [if_pos h1]
     refine al _ (aO (yX _ (by omega) (by omega)) rfl) (ai (by simp only [List.length_cons,List.length_nil]; omega) (ai (by simp only [List.length_append,List.length_cons,List.length_nil]; omega) ?_))
     exact al _ (aO (tG f _ (by simp only [List.length_append,List.length_cons,List.length_nil]; omega)) rfl) (ac rfl)
    ·rw [if_neg h1]
     refine al _ (sZ _ (by omega)) ?_
     refine ak (λ h2=>?_) (λ h2=>?_)
     ·have e:eN x.fName=false:=by simpa using h2
      rw [if_pos e]
      refine al _ (xf _ (by omega)) (ai (by simp only [List.length_cons,List.length_nil]; omega) (ai (by simp only [List.length_append,List.length_cons,List.length_nil]; omega) ?_))
      exact al _ (aO (tG f _ (by simp only [List.length_append,List.length_cons,List.length_nil]; omega)) rfl) (ac rfl)
     ·have e:eN x.fName=true:=by simpa using h2
      rw [if_neg (show ¬ eN x.fName=false by rw [e]; decide)]
      refine ak (λ h3=>?_) (λ h3=>?_)
      ·rw [if_neg (show ¬ decide (i=0)=true by simp only [decide_eq_true_eq]; omega)]
       refine ai (by simp only [List.length_cons,List.length_nil]; omega) ?_
       exact al _ (aO (tG f _ (by simp only [List.length_append,List.length_cons,List.length_nil]; omega)) rfl) (ac rfl)
      ·rw [if_pos (show decide (i=0)=true by simp only [decide_eq_true_eq]; omega)]
       exact al _ (aO (tG f _ (by omega)) rfl) (ac rfl)
   ·refine ai (aC (by omega) (by omega)) ?_
    have:=jK (P:=λ j=>Ev2 (λ n m=>bQ n p m j (f++stepT (decide (i=0)) x)) _) (ih (i+1) _ (by omega) (by rw [List.length_append]; omega))
    rw [show decide (i+1=0)=false from decide_eq_false (by omega)] at this
    rw [← List.append_assoc]; exact this
 have l:=loop p.length 0 [] (by omega) (by simp)
 have hT:=q7 true p hp
 refine al _ (aT (f:=λ n m=>bQ n p m 0 []) l) ?_
 rw [List.drop_zero]
 exact al _ (aO (AK _ (by simp only [List.nil_append,decide_true]; omega)) rfl) (ac (by simp))
theorem u0 (p:List aa)(hl:p.length≤1000)(hp:∀ x∈p,kw x):Ev2 (λ n _=>fG n p) (·=fu true p):=by
 simp only [fG]
 have loop:∀ (k i:Nat) (f:Bytes),i+k=p.length→f.length≤24580*i→Ev2 (λ n m=>cp n p m f (i:Int)) (·=f++fu (decide (i=0)) (p.drop i)):=by
  intro k
  induction k with
  | zero =>
   intro i f hi hf
   refine aA ?_
   simp only [cp]
   refine ax (by omega) (ac ?_)
   rw [List.drop_eq_nil_of_le (by omega),fu,List.append_nil]
  | succ k ih =>
   intro i f hi hf
   have hd:=sL p (i:=i) (by omega)
   have hm:lat p (i:Int)∈p:=List.mem_of_mem_drop (hd ▸ List.mem_cons_self)
   have hx:=hp _ hm
   rw [hd,fu]
   refine aA ?_
   simp only [cp]
   refine aw (by omega) ?_
   generalize lat p (i:Int)=x at hx
   have hsl:=oe (decide (i=0)) hx
   have h3:=hx.len
   have h4:=mT hx.num.1 hx.num.2
   have h5:=mE x.fName
   have hn:=hx.num
   refine al (f++stepT (decide (i=0)) x) ?_ ?_
   ·unfold stepT
    refine ai (by omega) (ak (λ h1=>?_) (λ h1=>?_))
    ·rw [if_pos h1]
     refine ai (by simp only [List.length_cons,List.length_nil]; omega) (ai (by omega) (al _ (yl hn.1 hn.2) ?_))
     exact ai (by simp only [List.length_append,List.length_cons,List.length_nil]; omega) (ai (by simp only [List.length_append,List.length_cons,List.length_nil]; omega) (ac (by simp)))
    ·rw [if_neg h1]
     refine ai (by omega) (al _ (ri _ (by omega)) ?_)
     refine ak (λ h2=>?_) (λ h2=>?_)
     ·have e:eN x.fName=false:=by simpa using h2
      rw [if_pos e]
      refine ai (by simp only [List.length_cons,List.length_nil]; omega) (ai (by omega) (al _ (vY _ (by omega)) ?_))
      exact ai (by simp only [List.length_append,List.length_cons,List.length_nil]; omega) (ai (by simp only [List.length_append,List.length_cons,List.length_nil]; omega) (ac (by simp)))
     ·have e:eN x.fName=true:=by simpa using h2
      rw [if_neg (show ¬ eN x.fName=false by rw [e]; decide)]
      refine ak (λ h3=>?_) (λ h3=>?_)
      ·rw [if_neg (show ¬ decide (i=0)=true by simp only [decide_eq_true_eq]; omega)]
       exact ai (by simp only [List.length_cons,List.length_nil]; omega) (ai (by omega) (ai (by simp only [List.length_append,List.length_cons,List.length_nil]; omega) (ac (by simp))))
      ·rw [if_pos (show decide (i=0)=true by simp only [decide_eq_true_eq]; omega)]
       exact ai (by omega) (ai (by omega) (ac rfl))
   ·refine ai (aC (by omega) (by omega)) ?_
    have:=jK (P:=λ j=>Ev2 (λ n m=>cp n p m (f++stepT (decide (i=0)) x) j) _) (ih (i+1) _ (by omega) (by rw [List.length_append]; omega))
    rw [show decide (i+1=0)=false from decide_eq_false (by omega)] at this
    rw [← List.append_assoc]; exact this
 have l:=loop p.length 0 [] (by omega) (by simp)
 refine al _ (aT (f:=λ n m=>cp n p m [] 0) l) (ac ?_)
 rw [List.drop_zero]; simp
theorem sJ (p:List aa)(hl:p.length≤1000000000000000)(hp:∀ x∈p,x.fName.length≤1000000000000000):Ev2 (λ n _=>gD n p) (λ r=>r=true→∀ x∈p,x.fName.length < 20000):=by
 simp only [gD]
 have loop:∀ (k i c:Nat),i+k=p.length→Ev2 (λ n m=>db p m (c:Int) (i:Int)) (λ r=>r < 20000→(c:Int)≤r∧∀ x∈p.drop i,(x.fName.length:Int)+c < r+1):=by
  intro k
  induction k with
  | zero =>
   intro i c hi
   refine aA ?_
   simp only [db]
   refine al false (ax (by omega) (ac rfl)) (ax (by simp) (ac (λ _=>⟨Int.le_refl _,?_⟩)))
   rw [List.drop_eq_nil_of_le (by omega)]; simp
  | succ k ih =>
   intro i c hi
   have hd:=sL p (i:=i) (by omega)
   have hm:lat p (i:Int)∈p:=List.mem_of_mem_drop (hd ▸ List.mem_cons_self)
   have hx:=hp _ hm
   rw [hd]
   refine aA ?_
   simp only [db]
   refine al (decide (c < 20000)) (aw (by omega) (ac (by rw [decide_eq_decide]; omega))) (ak (λ h=>?_) (λ h=>ac (λ h2=>?_)))
   ·have hc:c < 20000:=of_decide_eq_true h
    refine ai (aC (by omega) (by omega)) (ai (by omega) (ai (aC (by omega) (by omega)) (ai (aC (by omega) (by omega)) ?_)))
    have:=ih (i+1) (c+1+(lat p (i:Int)).fName.length) (by omega)
    rw [show ((c+1+(lat p (i:Int)).fName.length:Nat):Int)=((c:Int)+1)+((lat p (i:Int)).fName.length:Int) by omega,show ((i+1:Nat):Int)=(i:Int)+1 by omega] at this
    refine eZ this (λ r hr h2=>?_)
    obtain ⟨a,b⟩:=hr h2
    refine ⟨by omega,λ x hx=>?_⟩
    rcases List.mem_cons.1 hx with rfl | hx
    ·omega
    ·have:=b x hx; omega
   ·have hc:¬ c < 20000:=λ q=>h (decide_eq_true q)
    omega
 refine bD _ (aT (f:=λ n m=>db p m 0 0) (loop p.length 0 0 (by omega))) (λ r hr=>ac ?_)
 intro h x hx
 have h:=of_decide_eq_true h
 have:=(hr h).2 x (by simpa using hx)
 omega
theorem tM (p:List aa)(hl:p.length≤1000000000000000)(hp:∀ x∈p,x.fName.length≤1000000000000000):Ev2 (λ n _=>fC n p) (·=true):=by
 simp only [fC]
 refine bD _ (sJ p hl hp) (λ b hb=>ak (λ h=>al _ eR (ac rfl)) (λ h=>?_))
 have hs:=hb (by simpa using h)
 have hn:∀ x∈p,x.fName.length≤1000000:=λ x hx=>by have:=hs x hx; omega
 refine al _ (qB p hn) (al _ (rp p hn) (aw rfl (al true ?_ (ac rfl))))
 refine al _ (rp p hn) (ak (λ h0=>?_) (λ _=>al _ eR (ac rfl)))
 obtain ⟨h1,h2⟩:=nc.1 h0
 exact al _ (rR p (by omega) h2) (al _ (u0 p (by omega) h2) (aw rfl (al _ eR (ac rfl))))
end Go.Ab.R06
end
