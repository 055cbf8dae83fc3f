/- The basic types of this program: closed facts. -/
import Derived.Test.YtahplhcijlgelaaProg
import Derived.KernelRfl
import Derived.Test.YtahplhcijlgelaaMem
namespace Go.Proofs.Ytahplhcijlgelaa
namespace Ty
theorem bytes : Try.prog.underlying 22 = some (.slice 5) := by kernel_rfl
theorem u8 : Try.prog.underlying 5 = some (.int .u8) := by kernel_rfl
theorem u64 : Try.prog.underlying 27 = some (.int .u64) := by kernel_rfl
theorem int : Try.prog.underlying 3 = some (.int .i64) := by kernel_rfl
theorem str : Try.prog.underlying 9 = some .string := by kernel_rfl
theorem u8_info : (Try.prog.info? 5).map (fun i => (i.zero, i.size, i.bytes)) = some (some (.int .u8 0), 1, 1) := by kernel_rfl
theorem u8_agg (w : World) : (isAgg 5).run Try.prog w = .ok false w := by kernel_rfl
theorem u64_agg (w : World) : (isAgg 27).run Try.prog w = .ok false w := by kernel_rfl
theorem u64_size (w : World) : (sizeOf 27).run Try.prog w = .ok 1 w := by kernel_rfl
theorem u8_size (w : World) : (sizeOf 5).run Try.prog w = .ok 1 w := by kernel_rfl
theorem u64_zero (w : World) : (zeroValue 27).run Try.prog w = .ok (.int .u64 0) w := by kernel_rfl
theorem ints : Try.prog.underlying 45 = some (.slice 3) := by kernel_rfl
theorem int_info : (Try.prog.info? 3).map (fun i => (i.zero, i.size, i.bytes)) = some (some (.int .i64 0), 1, 8) := by kernel_rfl
theorem int_agg (w : World) : (isAgg 3).run Try.prog w = .ok false w := by kernel_rfl
theorem info_parts {t : TypeId} {z : Value} {s b : Nat} (h : (Try.prog.info? t).map (fun i => (i.zero, i.size, i.bytes)) = some (some z, s, b)) : ∃ i, Try.prog.info? t = some i ∧ i.zero = some z ∧ i.size = s ∧ i.bytes = b := by
  cases hi : Try.prog.info? t with
  | none => rw [hi] at h; simp at h
  | some i => rw [hi] at h; simp at h; exact ⟨i, rfl, h⟩
theorem u16 : Try.prog.underlying 44 = some (.int .u16) := by kernel_rfl
theorem u8_cells : Try.prog.cellsOf 5 = 1 := by kernel_rfl
theorem int_cells : Try.prog.cellsOf 3 = 1 := by kernel_rfl
theorem bool : Try.prog.underlying 4 = some .bool := by kernel_rfl
theorem int_size (w : World) : (sizeOf 3).run Try.prog w = .ok 1 w := by kernel_rfl
theorem u64_cells : Try.prog.cellsOf 27 = 1 := by kernel_rfl
theorem i32 : Try.prog.underlying 21 = some (.int .i32) := by kernel_rfl
theorem bool_agg (w : World) : (isAgg 4).run Try.prog w = .ok false w := by kernel_rfl
theorem bool_size (w : World) : (sizeOf 4).run Try.prog w = .ok 1 w := by kernel_rfl
theorem bool_cells : Try.prog.cellsOf 4 = 1 := by kernel_rfl
end Ty
end Go.Proofs.Ytahplhcijlgelaa
