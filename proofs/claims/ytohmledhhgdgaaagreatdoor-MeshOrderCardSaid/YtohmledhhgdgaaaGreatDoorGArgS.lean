/- What the laws' arguments are: a signature. -/
import Derived.Test.YtohmledhhgdgaaaGreatDoorGArgB
import Derived.Test.YtohmledhhgdgaaaGreatDoorGStrA
set_option linter.unusedVariables false
set_option linter.unusedSimpArgs false
namespace Go.Proofs.YtohmledhhgdgaaaGreatDoor
set_option maxRecDepth 100000
open Sh Go.RowKit Go.WideShapes Go.ChangeShapes
end Go.Proofs.YtohmledhhgdgaaaGreatDoor
