/- chart.under: the cells of a rectangle, one after the other. -/
import Derived.Test.YtnbcdaonkdffkaaGreatDoorEChaY
set_option linter.unusedVariables false
set_option linter.unusedSimpArgs false
namespace Go.Proofs.YtnbcdaonkdffkaaGreatDoor
set_option maxRecDepth 100000
set_option maxHeartbeats 16000000
open Sh Go.RowKit
namespace Cha
def col (f z v : Int) : Int := if v < f then -1 else (v - f) / z
def hix (C : Cht) (hi : SPoint) : Int := mn (C.w - 1) (col C.x C.size hi.x)
end Cha
end Go.Proofs.YtnbcdaonkdffkaaGreatDoor
