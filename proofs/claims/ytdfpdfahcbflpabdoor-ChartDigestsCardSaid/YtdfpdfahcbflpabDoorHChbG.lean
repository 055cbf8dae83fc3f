/- Which cells a rectangle touches. -/
import Derived.Test.YtdfpdfahcbflpabDoorHChbF
set_option linter.unusedVariables false
set_option linter.unusedSimpArgs false
namespace Go.Proofs.YtdfpdfahcbflpabDoor
set_option maxRecDepth 100000
set_option maxHeartbeats 16000000
open Sh Go.RowKit
namespace Cha
end Cha
end Go.Proofs.YtdfpdfahcbflpabDoor
