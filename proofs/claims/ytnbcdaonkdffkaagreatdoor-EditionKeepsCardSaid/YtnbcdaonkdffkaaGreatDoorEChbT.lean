/- The reference's way to look through all cells. -/
import Derived.Test.YtnbcdaonkdffkaaGreatDoorEChbO
set_option linter.unusedVariables false
set_option linter.unusedSimpArgs false
namespace Go.Proofs.YtnbcdaonkdffkaaGreatDoor
set_option maxRecDepth 100000
set_option maxHeartbeats 16000000
open Sh Go.RowKit
namespace Cha
def below (l : List Int) (k : Int) : List Int := l.filter fun a => decide (a < k)
end Cha
end Go.Proofs.YtnbcdaonkdffkaaGreatDoor
