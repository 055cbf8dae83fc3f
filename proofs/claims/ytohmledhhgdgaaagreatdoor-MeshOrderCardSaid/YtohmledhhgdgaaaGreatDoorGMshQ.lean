/- What is known of a vehicle: the reference. -/
import Derived.Test.YtohmledhhgdgaaaGreatDoorGMshM
set_option linter.unusedVariables false
set_option linter.unusedSimpArgs false
namespace Go.Proofs.YtohmledhhgdgaaaGreatDoor
set_option maxRecDepth 100000
set_option maxHeartbeats 16000000
open Sh Go.RowKit
end Go.Proofs.YtohmledhhgdgaaaGreatDoor
