/- What the laws' arguments are, by their types. -/
import Derived.Test.YtohmledhhgdgaaaGreatDoorEWrap
import Derived.Test.YtohmledhhgdgaaaGreatDoorEBaseB
import Derived.Test.YtohmledhhgdgaaaGreatDoorEBaseC
import Derived.ChangeMaps5
set_option linter.unusedVariables false
set_option linter.unusedSimpArgs false
namespace Go.Proofs.YtohmledhhgdgaaaGreatDoor
set_option maxRecDepth 100000
open Sh Go.RowKit Go.WideShapes Go.ChangeShapes
section
variable {H : Type} {enc : TypeId × Value → H} {W : World}
theorem wf_i64 {z : Int} (h : (Lit.int .i64 z).wf = true) : I64 z := by
  unfold I64
  simpa [Lit.wf, IntKind.min, IntKind.max, IntKind.signed, IntKind.bits] using h
theorem arg_int {base : Nat} {v : Value} {d : DataW H} {ps : List MemPlace} (hval : Value.okWide Tryz.prog W .any base 3 v) (h : DataW.Trod enc Tryz.prog W 0 (fun _ => true) true 3 v d ps) : ∃ z, v = .int .i64 z ∧ I64 z := by
  obtain ⟨z, h1, _, _, h2⟩ := open_int Ty.int hval h; exact ⟨z, h1, wf_i64 h2⟩
end
theorem own : ownKnob Tryz.prog.godebug = none := by kernel_rfl
theorem laid : laidOutB Tryz.prog = true := by kernel_rfl
end Go.Proofs.YtohmledhhgdgaaaGreatDoor
