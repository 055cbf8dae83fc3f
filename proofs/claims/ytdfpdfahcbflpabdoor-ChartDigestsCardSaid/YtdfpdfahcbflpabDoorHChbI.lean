/- The law ChartSquares. -/
import Derived.Test.YtdfpdfahcbflpabDoorHChbH
set_option linter.unusedVariables false
set_option linter.unusedSimpArgs false
namespace Go.Proofs.YtdfpdfahcbflpabDoor
set_option maxRecDepth 100000
set_option maxHeartbeats 16000000
open Sh Go.RowKit
theorem bool_ty15 : Tryd.prog.underlying 4 = some .bool := by kernel_rfl
theorem eql_bool15 {w : World} {K : Value → World → Prop} {X : List PanicEntry → World → Prop} {ox oy : Operand} {a b : Bool} : DoV Tryd.prog (binS .eql 4 ox oy (.bool a) (.bool b)) w K X = K (.bool (decide (a = b))) w :=
  DoV_ok (by cases a <;> cases b <;> simp [binS, eqGuard, run_eql_bool w _ _ _ bool_ty15])
namespace Cha
end Cha
end Go.Proofs.YtdfpdfahcbflpabDoor
