/- chart.under, At and Touched. -/
import Derived.Test.YtnbcdaonkdffkaaGreatDoorEChaZ
set_option linter.unusedVariables false
set_option linter.unusedSimpArgs false
namespace Go.Proofs.YtnbcdaonkdffkaaGreatDoor
set_option maxRecDepth 100000
set_option maxHeartbeats 16000000
open Sh Go.RowKit
theorem Ty.int_zero15 (w : World) : (zeroValue 3).run Tryz.prog w = .ok (.int .i64 0) w := by kernel_rfl
namespace Cha
end Cha
end Go.Proofs.YtnbcdaonkdffkaaGreatDoor
