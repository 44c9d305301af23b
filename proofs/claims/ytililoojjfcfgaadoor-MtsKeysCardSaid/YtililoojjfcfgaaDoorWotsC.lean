/- The plain law of the digits, and the walk of the law WotsChecks. -/
import Derived.Test.YtililoojjfcfgaaDoorWotsP
import Derived.Test.YtililoojjfcfgaaDoorEqInts
namespace Go.Proofs.YtililoojjfcfgaaDoor
open Go.RowKit
set_option linter.unusedVariables false

theorem digits255 : digitsOf [255] = [3, 3, 3, 3, 0, 0, 0, 0, 0] := by decide +kernel


end Go.Proofs.YtililoojjfcfgaaDoor
