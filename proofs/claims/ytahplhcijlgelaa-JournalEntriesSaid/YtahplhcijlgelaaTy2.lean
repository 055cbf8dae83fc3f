/- More types of this program: closed facts. -/
import Derived.Test.YtahplhcijlgelaaTy
namespace Go.Proofs.Ytahplhcijlgelaa
set_option maxRecDepth 100000
namespace Ty
theorem lists : Try.prog.underlying 59 = some (.slice 45) := by kernel_rfl
theorem ints_info : (Try.prog.info? 45).map (fun i => (i.zero, i.size, i.bytes)) = some (some (.slice none 0 0), 1, 24) := by kernel_rfl
theorem ints_cells : Try.prog.cellsOf 45 = 1 := by kernel_rfl
end Ty
end Go.Proofs.Ytahplhcijlgelaa
