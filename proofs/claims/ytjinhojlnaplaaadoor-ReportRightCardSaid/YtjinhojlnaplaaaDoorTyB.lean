/- The basic types of this program: closed facts. -/
import Derived.Test.YtjinhojlnaplaaaDoorProg
import Derived.KernelRfl
import Derived.Test.YtjinhojlnaplaaaDoorMem
namespace Go.Proofs.YtjinhojlnaplaaaDoor
set_option maxRecDepth 100000
namespace Ty
theorem bytes : Tryd.prog.underlying 113 = some (.slice 5) := by kernel_rfl
theorem u8 : Tryd.prog.underlying 5 = some (.int .u8) := by kernel_rfl
theorem u64 : Tryd.prog.underlying 39 = some (.int .u64) := by kernel_rfl
theorem int : Tryd.prog.underlying 3 = some (.int .i64) := by kernel_rfl
theorem str : Tryd.prog.underlying 9 = some .string := by kernel_rfl
theorem u8_info : (Tryd.prog.info? 5).map (fun i => (i.zero, i.size, i.bytes)) = some (some (.int .u8 0), 1, 1) := by kernel_rfl
theorem u8_agg (w : World) : (isAgg 5).run Tryd.prog w = .ok false w := by kernel_rfl
theorem u64_agg (w : World) : (isAgg 39).run Tryd.prog w = .ok false w := by kernel_rfl
theorem u64_size (w : World) : (sizeOf 39).run Tryd.prog w = .ok 1 w := by kernel_rfl
theorem u8_size (w : World) : (sizeOf 5).run Tryd.prog w = .ok 1 w := by kernel_rfl
theorem u64_zero (w : World) : (zeroValue 39).run Tryd.prog w = .ok (.int .u64 0) w := by kernel_rfl
theorem ints : Tryd.prog.underlying 24 = some (.slice 3) := by kernel_rfl
theorem int_info : (Tryd.prog.info? 3).map (fun i => (i.zero, i.size, i.bytes)) = some (some (.int .i64 0), 1, 8) := by kernel_rfl
theorem int_agg (w : World) : (isAgg 3).run Tryd.prog w = .ok false w := by kernel_rfl
theorem info_parts {t : TypeId} {z : Value} {s b : Nat} (h : (Tryd.prog.info? t).map (fun i => (i.zero, i.size, i.bytes)) = some (some z, s, b)) : ∃ i, Tryd.prog.info? t = some i ∧ i.zero = some z ∧ i.size = s ∧ i.bytes = b := by
  cases hi : Tryd.prog.info? t with
  | none => rw [hi] at h; simp at h
  | some i => rw [hi] at h; simp at h; exact ⟨i, rfl, h⟩
theorem u16 : Tryd.prog.underlying 71 = some (.int .u16) := by kernel_rfl
theorem u8_cells : Tryd.prog.cellsOf 5 = 1 := by kernel_rfl
theorem int_cells : Tryd.prog.cellsOf 3 = 1 := by kernel_rfl
theorem bool : Tryd.prog.underlying 4 = some .bool := by kernel_rfl
theorem int_size (w : World) : (sizeOf 3).run Tryd.prog w = .ok 1 w := by kernel_rfl
theorem u64_cells : Tryd.prog.cellsOf 39 = 1 := by kernel_rfl
theorem i32 : Tryd.prog.underlying 21 = some (.int .i32) := by kernel_rfl
theorem bool_agg (w : World) : (isAgg 4).run Tryd.prog w = .ok false w := by kernel_rfl
theorem bool_size (w : World) : (sizeOf 4).run Tryd.prog w = .ok 1 w := by kernel_rfl
theorem bool_cells : Tryd.prog.cellsOf 4 = 1 := by kernel_rfl
end Ty
end Go.Proofs.YtjinhojlnaplaaaDoor
