/- The laws of boxes: Others, Adds. -/
import Derived.Test.YtohmledhhgdgaaaGreatDoorFMshT
set_option linter.unusedVariables false
set_option linter.unusedSimpArgs false
namespace Go.Proofs.YtohmledhhgdgaaaGreatDoor
set_option maxRecDepth 100000
set_option maxHeartbeats 16000000
open Sh Go.RowKit
theorem b_nt {t : Bool} (h : (!t) = false) : t = true := by cases t <;> simp_all
end Go.Proofs.YtohmledhhgdgaaaGreatDoor
