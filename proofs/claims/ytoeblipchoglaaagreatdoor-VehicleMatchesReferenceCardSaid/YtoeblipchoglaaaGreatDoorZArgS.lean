/- What the laws' arguments are: a signature. -/
import Derived.Test.YtoeblipchoglaaaGreatDoorZArgB
import Derived.Test.YtoeblipchoglaaaGreatDoorZStrA
namespace Go.Proofs.YtoeblipchoglaaaGreatDoor
set_option maxRecDepth 100000
open Sh Go.RowKit Go.WideShapes Go.ChangeShapes
end Go.Proofs.YtoeblipchoglaaaGreatDoor
