/- The walks of vehicles: New, and the reference implementation. -/
import Derived.Test.YtoeblipchoglaaaDoorZVehX
set_option linter.unusedVariables false
set_option linter.unusedSimpArgs false
namespace Go.Proofs.YtoeblipchoglaaaDoor
set_option maxRecDepth 100000
set_option maxHeartbeats 8000000
open Sh Go.RowKit
end Go.Proofs.YtoeblipchoglaaaDoor
