/- WRITTEN BY structs.py: flat structs of the program: SBox, SJoin. -/
import Derived.Test.YtohmledhhgdgaaaGreatDoorGStrA
set_option linter.unusedVariables false
set_option linter.unusedSimpArgs false
namespace Go.Proofs.YtohmledhhgdgaaaGreatDoor
open Sh Go.RowKit Go.WideShapes Go.ChangeShapes
set_option maxRecDepth 100000
structure SBox where
  veh : Int
  reps : Hdr
instance : Inhabited SBox := ⟨⟨0, ⟨none, 0, 0⟩⟩⟩
def SBox.cells (s : SBox) : List Value := [.int .i64 s.veh] ++ [s.reps.val]
theorem SBox.cells_eq (s : SBox) : s.cells = [.int .i64 s.veh, s.reps.val] := rfl
theorem SBox.one (s : SBox) : ∀ u ∈ s.cells, u.oneCell' = true := by
  intro u hu
  rw [SBox.cells_eq] at hu
  simp only [List.mem_cons, List.not_mem_nil, or_false] at hu
  rcases hu with rfl | rfl <;> rfl
def SBox.zero : SBox := ⟨0, ⟨none, 0, 0⟩⟩
namespace Ty
theorem SBox_und : Tryz.prog.underlying 24 = some (.struct (Tryz.prog.fieldsOf 24)) := by kernel_rfl
theorem SBox_agg (w : World) : (isAgg 24).run Tryz.prog w = .ok true w := by kernel_rfl
theorem SBox_size (w : World) : (sizeOf 24).run Tryz.prog w = .ok 2 w := by kernel_rfl
theorem SBox_zero (w : World) : (zeroValue 24).run Tryz.prog w = .ok (.agg SBox.zero.cells.toArray) w := by kernel_rfl
theorem SBox_cells : Tryz.prog.cellsOf 24 = 2 := by kernel_rfl
theorem SBox_f0_run (w : World) (b o : Nat) : (Instr.fieldAt 24 (.pointer (some ⟨b, o, none⟩)) 0).run Tryz.prog w = .ok (.pointer (some ⟨b, o, none⟩)) w := by kernel_rfl
theorem SBox_f0 {b o : Nat} {w : World} {K : Value → World → Prop} {X : List PanicEntry → World → Prop} : DoV Tryz.prog (Instr.fieldAt 24 (.pointer (some ⟨b, o, none⟩)) 0) w K X = K (.pointer (some ⟨b, o, none⟩)) w := DoV_ok (SBox_f0_run w b o)
theorem SBox_f1_run (w : World) (b o : Nat) : (Instr.fieldAt 24 (.pointer (some ⟨b, o, none⟩)) 1).run Tryz.prog w = .ok (.pointer (some ⟨b, o + 1, none⟩)) w := by kernel_rfl
theorem SBox_f1 {b o : Nat} {w : World} {K : Value → World → Prop} {X : List PanicEntry → World → Prop} : DoV Tryz.prog (Instr.fieldAt 24 (.pointer (some ⟨b, o, none⟩)) 1) w K X = K (.pointer (some ⟨b, o + 1, none⟩)) w := DoV_ok (SBox_f1_run w b o)
theorem SBox_flds : (Tryz.prog.fieldsOf 24).toList.map (fun f => (f.type, f.offset, f.name == "_")) = [(3, 0, false), (22, 1, false)] := by kernel_rfl
end Ty
theorem SBox.g_veh {s : SBox} {b o : Nat} {w : World} {K : Value → World → Prop} {X0 X1 : List PanicEntry → World → Prop} (h : Has w b o s.cells) : DoV Tryz.prog (Instr.fieldAt 24 (.pointer (some ⟨b, o, none⟩)) 0) w (fun a1 w1 => DoV Tryz.prog (Instr.loadAt 3 a1) w1 K X0) X1 = K (.int .i64 s.veh) w := by
  rw [Ty.SBox_f0, load_cell Ty.int_agg (has_at h (d := 0) (by omega) rfl)]
theorem SBox.g_reps {s : SBox} {b o : Nat} {w : World} {K : Value → World → Prop} {X0 X1 : List PanicEntry → World → Prop} (h : Has w b o s.cells) : DoV Tryz.prog (Instr.fieldAt 24 (.pointer (some ⟨b, o, none⟩)) 1) w (fun a1 w1 => DoV Tryz.prog (Instr.loadAt 22 a1) w1 K X0) X1 = K (s.reps.val) w := by
  rw [Ty.SBox_f1, load_cell (fun w => show (isAgg 22).run Tryz.prog w = .ok false w by kernel_rfl) (has_at h (d := 1) (by omega) rfl)]
theorem SBox.s_reps {s : SBox} {x : Hdr} {b : Nat} {e : TypeId} {w : World} {K : Value → World → Prop} {X0 X1 : List PanicEntry → World → Prop} (h : At w b (.cells s.cells.toArray e (0, 0))) (hk : ∀ w1, Mod (· = b) w w1 → At w1 b (.cells ({ s with reps := x } : SBox).cells.toArray e (0, 0)) → w1.heap.size = w.heap.size → K undef w1) : DoV Tryz.prog (Instr.fieldAt 24 (.pointer (some ⟨b, 0, none⟩)) 1) w (fun a w1 => DoU Tryz.prog (Instr.storeAt 22 a (x.val)) w1 K X0) X1 := by
  rw [Ty.SBox_f1]
  exact store_i (o := 1) (fun w => show (sizeOf 22).run Tryz.prog w = .ok 1 w by kernel_rfl) h (by show 1 < 2; omega) rfl hk
theorem SBox.g_all {s : SBox} {b o : Nat} {w : World} {K : Value → World → Prop} {X : List PanicEntry → World → Prop} (h : Has w b o s.cells) : DoV Tryz.prog (Instr.loadAt 24 (.pointer (some ⟨b, o, none⟩))) w K X = K (.agg s.cells.toArray) w := load_arr (n := 2) (xs := s.cells) Ty.SBox_agg Ty.SBox_size rfl h
theorem SBox.set {s r : SBox} {b : Nat} {e : TypeId} {w : World} {K : Value → World → Prop} {X : List PanicEntry → World → Prop} (h : At w b (.cells r.cells.toArray e (0, 0))) (hk : ∀ w1, Mod (· = b) w w1 → At w1 b (.cells s.cells.toArray e (0, 0)) → w1.heap.size = w.heap.size → K undef w1) : DoU Tryz.prog (Instr.storeAt 24 (.pointer (some ⟨b, 0, none⟩)) (.agg s.cells.toArray)) w K X := store_all (n := 2) Ty.SBox_size h rfl rfl (by intro u hu; exact SBox.one s u hu) hk
structure SJoin where
  veh : Int
  ents : Hdr
  chains : Hdr
instance : Inhabited SJoin := ⟨⟨0, ⟨none, 0, 0⟩, ⟨none, 0, 0⟩⟩⟩
def SJoin.cells (s : SJoin) : List Value := [.int .i64 s.veh] ++ [s.ents.val] ++ [s.chains.val]
namespace Ty
theorem SJoin_f0_run (w : World) (b o : Nat) : (Instr.fieldAt 82 (.pointer (some ⟨b, o, none⟩)) 0).run Tryz.prog w = .ok (.pointer (some ⟨b, o, none⟩)) w := by kernel_rfl
theorem SJoin_f0 {b o : Nat} {w : World} {K : Value → World → Prop} {X : List PanicEntry → World → Prop} : DoV Tryz.prog (Instr.fieldAt 82 (.pointer (some ⟨b, o, none⟩)) 0) w K X = K (.pointer (some ⟨b, o, none⟩)) w := DoV_ok (SJoin_f0_run w b o)
theorem SJoin_f1_run (w : World) (b o : Nat) : (Instr.fieldAt 82 (.pointer (some ⟨b, o, none⟩)) 1).run Tryz.prog w = .ok (.pointer (some ⟨b, o + 1, none⟩)) w := by kernel_rfl
theorem SJoin_f1 {b o : Nat} {w : World} {K : Value → World → Prop} {X : List PanicEntry → World → Prop} : DoV Tryz.prog (Instr.fieldAt 82 (.pointer (some ⟨b, o, none⟩)) 1) w K X = K (.pointer (some ⟨b, o + 1, none⟩)) w := DoV_ok (SJoin_f1_run w b o)
theorem SJoin_f2_run (w : World) (b o : Nat) : (Instr.fieldAt 82 (.pointer (some ⟨b, o, none⟩)) 2).run Tryz.prog w = .ok (.pointer (some ⟨b, o + 2, none⟩)) w := by kernel_rfl
theorem SJoin_f2 {b o : Nat} {w : World} {K : Value → World → Prop} {X : List PanicEntry → World → Prop} : DoV Tryz.prog (Instr.fieldAt 82 (.pointer (some ⟨b, o, none⟩)) 2) w K X = K (.pointer (some ⟨b, o + 2, none⟩)) w := DoV_ok (SJoin_f2_run w b o)
end Ty
theorem SJoin.s_ents {s : SJoin} {x : Hdr} {b : Nat} {e : TypeId} {w : World} {K : Value → World → Prop} {X0 X1 : List PanicEntry → World → Prop} (h : At w b (.cells s.cells.toArray e (0, 0))) (hk : ∀ w1, Mod (· = b) w w1 → At w1 b (.cells ({ s with ents := x } : SJoin).cells.toArray e (0, 0)) → w1.heap.size = w.heap.size → K undef w1) : DoV Tryz.prog (Instr.fieldAt 82 (.pointer (some ⟨b, 0, none⟩)) 1) w (fun a w1 => DoU Tryz.prog (Instr.storeAt 25 a (x.val)) w1 K X0) X1 := by
  rw [Ty.SJoin_f1]
  exact store_i (o := 1) (fun w => show (sizeOf 25).run Tryz.prog w = .ok 1 w by kernel_rfl) h (by show 1 < 3; omega) rfl hk
theorem SJoin.s_chains {s : SJoin} {x : Hdr} {b : Nat} {e : TypeId} {w : World} {K : Value → World → Prop} {X0 X1 : List PanicEntry → World → Prop} (h : At w b (.cells s.cells.toArray e (0, 0))) (hk : ∀ w1, Mod (· = b) w w1 → At w1 b (.cells ({ s with chains := x } : SJoin).cells.toArray e (0, 0)) → w1.heap.size = w.heap.size → K undef w1) : DoV Tryz.prog (Instr.fieldAt 82 (.pointer (some ⟨b, 0, none⟩)) 2) w (fun a w1 => DoU Tryz.prog (Instr.storeAt 80 a (x.val)) w1 K X0) X1 := by
  rw [Ty.SJoin_f2]
  exact store_i (o := 2) (fun w => show (sizeOf 80).run Tryz.prog w = .ok 1 w by kernel_rfl) h (by show 2 < 3; omega) rfl hk
end Go.Proofs.YtohmledhhgdgaaaGreatDoor
