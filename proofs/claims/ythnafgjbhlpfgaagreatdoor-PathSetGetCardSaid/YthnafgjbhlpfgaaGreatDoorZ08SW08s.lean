/- Texts of the proof, one behind the other. No statement is proved here. -/
import Derived.Test.YthnafgjbhlpfgaaGreatDoorCards
import Derived.Test.YthnafgjbhlpfgaaGreatDoorTie
import Derived.WalkKit
import Derived.SizedLaws
import Derived.ProofKit
import Derived.OpenShut
import Derived.ShutString
import Derived.LaidMore
import Derived.Stop.Joined
import Derived.Deep.DeepHandedRow
import Derived.Deep.DeepWitnessRowRef
import Derived.Test.YthnafgjbhlpfgaaGreatDoorZ08Sa
import Derived.Test.YthnafgjbhlpfgaaGreatDoorZ08Sb
import Derived.Test.YthnafgjbhlpfgaaGreatDoorZ08Sc
import Derived.Test.YthnafgjbhlpfgaaGreatDoorZ08Sd
import Derived.Test.YthnafgjbhlpfgaaGreatDoorZ08Se
import Derived.Test.YthnafgjbhlpfgaaGreatDoorZ08Sf
