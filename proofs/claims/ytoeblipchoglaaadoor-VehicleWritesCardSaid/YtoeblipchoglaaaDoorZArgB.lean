/- What the laws' arguments are, by their types. -/
import Derived.Test.YtoeblipchoglaaaDoorZWrap
import Derived.Test.YtoeblipchoglaaaDoorZBaseB
import Derived.Test.YtoeblipchoglaaaDoorZBaseC
import Derived.ChangeMaps5
set_option linter.unusedVariables false
set_option linter.unusedSimpArgs false
namespace Go.Proofs.YtoeblipchoglaaaDoor
set_option maxRecDepth 100000
open Sh Go.RowKit Go.WideShapes Go.ChangeShapes
section
variable {H : Type} {enc : TypeId × Value → H} {W : World}
theorem wf_u8 {z : Int} (h : (Lit.int .u8 z).wf = true) : 0 ≤ z ∧ z < 256 := by
  have : 0 ≤ z ∧ z ≤ 255 := by simpa [Lit.wf, IntKind.min, IntKind.max, IntKind.signed, IntKind.bits] using h
  omega
theorem trod_bytes {fuel : Nat} {v : Value} {x : DataW H × List MemPlace} (h : DataW.trod enc Tryd.prog W 0 (fun _ => true) true fuel 26 [v] = some x) : ∃ l : List UInt8, Sl W 1 v l.length (bv l) := by
  obtain ⟨l, h1, h2⟩ := trod_nums Ty.bytes Ty.u8 Ty.u8_cells h
  refine ⟨l.map fun z => UInt8.ofNat z.toNat, ?_⟩
  have e : bv (l.map fun z => UInt8.ofNat z.toNat) = l.map (Value.int .u8) := by
    simp only [bv, List.map_map]
    refine List.map_congr_left fun z hz => ?_
    have := wf_u8 (h2 z hz)
    simp only [Function.comp]
    congr 1
    simp only [UInt8.toNat_ofNat']
    omega
  rw [e, List.length_map]; exact h1
end
theorem own : ownKnob Tryd.prog.godebug = none := by kernel_rfl
theorem laid : laidOutB Tryd.prog = true := by kernel_rfl
end Go.Proofs.YtoeblipchoglaaaDoor
