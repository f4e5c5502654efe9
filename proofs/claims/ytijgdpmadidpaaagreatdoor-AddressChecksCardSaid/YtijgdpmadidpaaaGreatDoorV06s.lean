/- Equality of addresses, as the laws of chapter 06 say it. No program in sight. -/
import Derived.Test.YtijgdpmadidpaaaGreatDoorP06g
import Derived.Test.YtijgdpmadidpaaaGreatDoorP06z
import Derived.Test.YtijgdpmadidpaaaGreatDoorAbW
set_option linter.unusedVariables false
set_option linter.unusedSimpArgs false
set_option linter.unnecessarySimpa false
namespace Go.Ab.R06
open Go.Proofs Go.Ab Go.Ab.RB
end Go.Ab.R06
