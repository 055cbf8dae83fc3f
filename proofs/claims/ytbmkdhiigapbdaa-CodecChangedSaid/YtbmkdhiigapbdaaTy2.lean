/- More types of this program: closed facts. -/
import Derived.Test.YtbmkdhiigapbdaaTy
namespace Go.Proofs.Ytbmkdhiigapbdaa
namespace Ty
theorem lists : Try.prog.underlying 32 = some (.slice 22) := by kernel_rfl
theorem ints_info : (Try.prog.info? 22).map (fun i => (i.zero, i.size, i.bytes)) = some (some (.slice none 0 0), 1, 24) := by kernel_rfl
theorem u16 : Try.prog.underlying 37 = some (.int .u16) := by kernel_rfl
theorem u8_cells : Try.prog.cellsOf 5 = 1 := by kernel_rfl
theorem int_cells : Try.prog.cellsOf 3 = 1 := by kernel_rfl
theorem ints_cells : Try.prog.cellsOf 22 = 1 := by kernel_rfl
theorem bool : Try.prog.underlying 4 = some .bool := by kernel_rfl
end Ty
end Go.Proofs.Ytbmkdhiigapbdaa
