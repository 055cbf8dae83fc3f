/- What the laws' arguments are: reports, boxes. -/
import Derived.Test.YtohmledhhgdgaaaGreatDoorFArgR
import Derived.Test.YtohmledhhgdgaaaGreatDoorFMshW
set_option linter.unusedVariables false
set_option linter.unusedSimpArgs false
namespace Go.Proofs.YtohmledhhgdgaaaGreatDoor
set_option maxRecDepth 100000
open Sh Go.RowKit Go.WideShapes Go.ChangeShapes
section
variable {H : Type} {enc : TypeId × Value → H} {W : World}
instance : Inhabited (SReport × Rep.Rpt) := ⟨(SReport.zero, Rep.Rpt.zero)⟩
end
end Go.Proofs.YtohmledhhgdgaaaGreatDoor
