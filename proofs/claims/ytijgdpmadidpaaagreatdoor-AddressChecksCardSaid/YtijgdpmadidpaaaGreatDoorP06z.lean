/- The examples of chapter 06. No program in sight. -/
import Derived.Test.YtijgdpmadidpaaaGreatDoorM06
import Derived.Test.YtijgdpmadidpaaaGreatDoorAbEv
set_option linter.unusedVariables false
set_option linter.unusedSimpArgs false
set_option linter.unnecessarySimpa false
namespace Go.Ab.R06
open Go.Ab Go.Ab.RB
set_option maxRecDepth 100000 in
theorem awake_some : law06_awake 40 = some true := by decide +kernel
theorem awake_ev : Ev2 (fun n _ => law06_awake n) (· = true) := ev_once 40 awake_some (fun n hn => law06_awake_le hn) rfl
end Go.Ab.R06
