/- Types of the journal: closed facts. -/
import Derived.Test.YtahplhcijlgelaaJouW1
import Derived.Test.YtahplhcijlgelaaTy
import Derived.Test.YtahplhcijlgelaaRec
namespace Go.Proofs.Ytahplhcijlgelaa
set_option maxRecDepth 100000
open Sh Go.RowKit
def strangeV : Value := .iface 75 (.agg #[])
namespace Ty
theorem strange_new : Try.prog.built 75 [] = some #[] := by kernel_rfl
theorem strange_con : Try.prog.concrete 75 = true := by kernel_rfl
theorem strange_zero (w : World) : (zeroValue 75).run Try.prog w = .ok (.agg #[]) w := by kernel_rfl
theorem strange_size (w : World) : (sizeOf 75).run Try.prog w = .ok 0 w := by kernel_rfl
theorem src_f0_run (w : World) (b o : Nat) : (Instr.fieldAt 78 (.pointer (some ⟨b, o, none⟩)) 0).run Try.prog w = .ok (.pointer (some ⟨b, o, none⟩)) w := by kernel_rfl
theorem rdr_f0_run (w : World) (b o : Nat) : (Instr.fieldAt 80 (.pointer (some ⟨b, o, none⟩)) 0).run Try.prog w = .ok (.pointer (some ⟨b, o, none⟩)) w := by kernel_rfl
theorem rdr_f1_run (w : World) (b o : Nat) : (Instr.fieldAt 80 (.pointer (some ⟨b, o, none⟩)) 1).run Try.prog w = .ok (.pointer (some ⟨b, o + 15, none⟩)) w := by kernel_rfl
theorem src_new (v : Value) (h : v.cells = #[v]) : Try.prog.built 78 [(0, v)] = some #[v] := by
  have e : Try.prog.built 78 [(0, v)] = Instr.fill (fun i => (#[(0, 1)] : Array (Nat × Nat))[i]?) #[.slice none 0 0] [(0, v)] := by kernel_rfl
  rw [e]
  simp [Instr.fill, h]
theorem rdr_new (v : Value) : Try.prog.built 80 [(1, .agg #[v])] = some (SRecord.zero.cells ++ [v]).toArray := by kernel_rfl
theorem rdr_zero (w : World) : (zeroValue 80).run Try.prog w = .ok (.agg (SRecord.zero.cells ++ [Value.slice none 0 0]).toArray) w := by kernel_rfl
theorem rdr_size (w : World) : (sizeOf 80).run Try.prog w = .ok 16 w := by kernel_rfl
theorem bool_zero (w : World) : (zeroValue 4).run Try.prog w = .ok (.bool false) w := by kernel_rfl
theorem ptrs : Try.prog.underlying 91 = some (.slice 90) := by kernel_rfl
theorem ptr_info : (Try.prog.info? 90).map (fun i => (i.zero, i.size, i.bytes)) = some (some (.pointer none), 1, 8) := by kernel_rfl
theorem ptr_agg (w : World) : (isAgg 90).run Try.prog w = .ok false w := by kernel_rfl
end Ty
section
variable {w : World} {K : Value → World → Prop} {X : List PanicEntry → World → Prop} {b o : Nat}
theorem src_f0 : DoV Try.prog (Instr.fieldAt 78 (.pointer (some ⟨b, o, none⟩)) 0) w K X = K (.pointer (some ⟨b, o, none⟩)) w := DoV_ok (Ty.src_f0_run w b o)
theorem rdr_f0 : DoV Try.prog (Instr.fieldAt 80 (.pointer (some ⟨b, o, none⟩)) 0) w K X = K (.pointer (some ⟨b, o, none⟩)) w := DoV_ok (Ty.rdr_f0_run w b o)
theorem rdr_f1 : DoV Try.prog (Instr.fieldAt 80 (.pointer (some ⟨b, o, none⟩)) 1) w K X = K (.pointer (some ⟨b, o + 15, none⟩)) w := DoV_ok (Ty.rdr_f1_run w b o)
end
end Go.Proofs.Ytahplhcijlgelaa
