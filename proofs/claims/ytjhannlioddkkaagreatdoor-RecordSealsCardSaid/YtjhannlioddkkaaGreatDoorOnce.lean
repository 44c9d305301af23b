
/- sync.Once's parts: the calls that it defers, and the lock. -/
import Derived.Test.YtjhannlioddkkaaGreatDoorChecked
import Derived.Test.YtjhannlioddkkaaGreatDoorLib2
import Derived.Tactics
import Derived.Tactics2
import Derived.Defers
import Derived.Laws.Pointers
import Derived.Laws.LoneSync
import Derived.RegionTactic
import Derived.RegionCalls
import Derived.ChangeAlike
namespace Go.Proofs.YtjhannlioddkkaaGreatDoor
open Go.RowKit
set_option linter.unusedVariables false

end Go.Proofs.YtjhannlioddkkaaGreatDoor
