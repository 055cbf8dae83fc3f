/- The types of this program, as far as they are wanted: closed facts. -/
import Derived.Test.YtbmkdhiigapbdaaProg
import Derived.KernelRfl
import Derived.Test.YtbmkdhiigapbdaaMem
namespace Go.Proofs.Ytbmkdhiigapbdaa
namespace Ty
theorem bytes : Try.prog.underlying 23 = some (.slice 5) := by kernel_rfl
theorem u8 : Try.prog.underlying 5 = some (.int .u8) := by kernel_rfl
theorem u64 : Try.prog.underlying 51 = some (.int .u64) := by kernel_rfl
theorem int : Try.prog.underlying 3 = some (.int .i64) := by kernel_rfl
theorem str : Try.prog.underlying 9 = some .string := by kernel_rfl
theorem u8_info : (Try.prog.info? 5).map (fun i => (i.zero, i.size, i.bytes)) = some (some (.int .u8 0), 1, 1) := by kernel_rfl
theorem u8_agg (w : World) : (isAgg 5).run Try.prog w = .ok false w := by kernel_rfl
theorem u64_agg (w : World) : (isAgg 51).run Try.prog w = .ok false w := by kernel_rfl
theorem u64_size (w : World) : (sizeOf 51).run Try.prog w = .ok 1 w := by kernel_rfl
theorem u8_size (w : World) : (sizeOf 5).run Try.prog w = .ok 1 w := by kernel_rfl
theorem u64_zero (w : World) : (zeroValue 51).run Try.prog w = .ok (.int .u64 0) w := by kernel_rfl
theorem ints : Try.prog.underlying 22 = some (.slice 3) := by kernel_rfl
theorem int_info : (Try.prog.info? 3).map (fun i => (i.zero, i.size, i.bytes)) = some (some (.int .i64 0), 1, 8) := by kernel_rfl
theorem int_agg (w : World) : (isAgg 3).run Try.prog w = .ok false w := by kernel_rfl
theorem reader_b (w : World) (b : Nat) : (Instr.fieldAt 57 (.pointer (some ⟨b, 0, none⟩)) 0).run Try.prog w = .ok (.pointer (some ⟨b, 0, none⟩)) w := by kernel_rfl
theorem bytes_agg (w : World) : (isAgg 23).run Try.prog w = .ok false w := by kernel_rfl
theorem bytes_size (w : World) : (sizeOf 23).run Try.prog w = .ok 1 w := by kernel_rfl
theorem broken_new : Try.prog.built 65 [] = some #[] := by kernel_rfl
theorem broken_con : Try.prog.concrete 65 = true := by kernel_rfl
theorem uint : Try.prog.underlying 47 = some (.int .u64) := by kernel_rfl
theorem ints_agg (w : World) : (isAgg 22).run Try.prog w = .ok false w := by kernel_rfl
theorem ints_size (w : World) : (sizeOf 22).run Try.prog w = .ok 1 w := by kernel_rfl
theorem ints_zero (w : World) : (zeroValue 22).run Try.prog w = .ok (.slice none 0 0) w := by kernel_rfl
theorem errno : Try.prog.underlying 25 = some (.int .i64) := by kernel_rfl
theorem errno_agg (w : World) : (isAgg 25).run Try.prog w = .ok false w := by kernel_rfl
theorem errno_size (w : World) : (sizeOf 25).run Try.prog w = .ok 1 w := by kernel_rfl
theorem errno_zero (w : World) : (zeroValue 25).run Try.prog w = .ok (.int .i64 0) w := by kernel_rfl
theorem reader_zero (w : World) : (zeroValue 57).run Try.prog w = .ok (.agg #[.slice none 0 0]) w := by kernel_rfl
theorem reader_size (w : World) : (sizeOf 57).run Try.prog w = .ok 1 w := by kernel_rfl
theorem reader_new (v : Value) (h : v.cells = #[v]) : Try.prog.built 57 [(0, v)] = some #[v] := by
  have e : Try.prog.built 57 [(0, v)] = Instr.fill (fun i => (#[(0, 1)] : Array (Nat × Nat))[i]?) #[.slice none 0 0] [(0, v)] := by kernel_rfl
  rw [e]
  simp [Instr.fill, h]
theorem broken_zero (w : World) : (zeroValue 65).run Try.prog w = .ok (.agg #[]) w := by kernel_rfl
theorem broken_size (w : World) : (sizeOf 65).run Try.prog w = .ok 0 w := by kernel_rfl
theorem arr8 : Try.prog.underlying 48 = some (.array 8 5) := by kernel_rfl
theorem arr8_agg (w : World) : (isAgg 48).run Try.prog w = .ok true w := by kernel_rfl
theorem arr8_size (w : World) : (sizeOf 48).run Try.prog w = .ok 8 w := by kernel_rfl
theorem arr8_zero (w : World) : (zeroValue 48).run Try.prog w = .ok (.agg (Array.replicate 8 (.int .u8 0))) w := by kernel_rfl
theorem arr8_el : Try.prog.elem 48 = 5 := by kernel_rfl
theorem arr8_len : Try.prog.arrayLen 48 = 8 := by kernel_rfl
theorem arr8_eq (w : World) (ox oy : Operand) (x y : Array Value) : (eqGuard .neq 48 ox oy (.agg x) (.agg y)).run Try.prog w = .ok () w := by kernel_rfl
theorem info_parts {t : TypeId} {z : Value} {s b : Nat} (h : (Try.prog.info? t).map (fun i => (i.zero, i.size, i.bytes)) = some (some z, s, b)) : ∃ i, Try.prog.info? t = some i ∧ i.zero = some z ∧ i.size = s ∧ i.bytes = b := by
  cases hi : Try.prog.info? t with
  | none => rw [hi] at h; simp at h
  | some i => rw [hi] at h; simp at h; exact ⟨i, rfl, h⟩
end Ty
end Go.Proofs.Ytbmkdhiigapbdaa
