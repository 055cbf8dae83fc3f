/- The types of this program, as far as they are wanted: closed facts. -/
import Derived.Test.YtahplhcijlgelaaTyB
import Derived.KernelRfl
import Derived.Test.YtahplhcijlgelaaMem
namespace Go.Proofs.Ytahplhcijlgelaa
set_option maxRecDepth 100000
namespace Ty
theorem reader_b (w : World) (b : Nat) : (Instr.fieldAt 100 (.pointer (some ⟨b, 0, none⟩)) 0).run Try.prog w = .ok (.pointer (some ⟨b, 0, none⟩)) w := by kernel_rfl
theorem bytes_agg (w : World) : (isAgg 22).run Try.prog w = .ok false w := by kernel_rfl
theorem bytes_size (w : World) : (sizeOf 22).run Try.prog w = .ok 1 w := by kernel_rfl
theorem broken_new : Try.prog.built 104 [] = some #[] := by kernel_rfl
theorem broken_con : Try.prog.concrete 104 = true := by kernel_rfl
theorem uint : Try.prog.underlying 66 = some (.int .u64) := by kernel_rfl
theorem ints_agg (w : World) : (isAgg 45).run Try.prog w = .ok false w := by kernel_rfl
theorem ints_size (w : World) : (sizeOf 45).run Try.prog w = .ok 1 w := by kernel_rfl
theorem ints_zero (w : World) : (zeroValue 45).run Try.prog w = .ok (.slice none 0 0) w := by kernel_rfl
theorem errno : Try.prog.underlying 32 = some (.int .i64) := by kernel_rfl
theorem errno_agg (w : World) : (isAgg 32).run Try.prog w = .ok false w := by kernel_rfl
theorem errno_size (w : World) : (sizeOf 32).run Try.prog w = .ok 1 w := by kernel_rfl
theorem errno_zero (w : World) : (zeroValue 32).run Try.prog w = .ok (.int .i64 0) w := by kernel_rfl
theorem reader_zero (w : World) : (zeroValue 100).run Try.prog w = .ok (.agg #[.slice none 0 0]) w := by kernel_rfl
theorem reader_size (w : World) : (sizeOf 100).run Try.prog w = .ok 1 w := by kernel_rfl
theorem reader_new (v : Value) (h : v.cells = #[v]) : Try.prog.built 100 [(0, v)] = some #[v] := by
  have e : Try.prog.built 100 [(0, v)] = Instr.fill (fun i => (#[(0, 1)] : Array (Nat × Nat))[i]?) #[.slice none 0 0] [(0, v)] := by kernel_rfl
  rw [e]
  simp [Instr.fill, h]
theorem broken_zero (w : World) : (zeroValue 104).run Try.prog w = .ok (.agg #[]) w := by kernel_rfl
theorem broken_size (w : World) : (sizeOf 104).run Try.prog w = .ok 0 w := by kernel_rfl
theorem arr8 : Try.prog.underlying 67 = some (.array 8 5) := by kernel_rfl
theorem arr8_agg (w : World) : (isAgg 67).run Try.prog w = .ok true w := by kernel_rfl
theorem arr8_size (w : World) : (sizeOf 67).run Try.prog w = .ok 8 w := by kernel_rfl
theorem arr8_zero (w : World) : (zeroValue 67).run Try.prog w = .ok (.agg (Array.replicate 8 (.int .u8 0))) w := by kernel_rfl
theorem arr8_el : Try.prog.elem 67 = 5 := by kernel_rfl
theorem arr8_len : Try.prog.arrayLen 67 = 8 := by kernel_rfl
theorem arr8_eq (w : World) (ox oy : Operand) (x y : Array Value) : (eqGuard .neq 67 ox oy (.agg x) (.agg y)).run Try.prog w = .ok () w := by kernel_rfl
end Ty
end Go.Proofs.Ytahplhcijlgelaa
