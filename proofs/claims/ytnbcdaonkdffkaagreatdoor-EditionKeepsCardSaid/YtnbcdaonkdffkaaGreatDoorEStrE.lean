/- WRITTEN BY structs.py: flat structs of the program: SIssue. -/
import Derived.Test.YtnbcdaonkdffkaaGreatDoorEStrA
set_option linter.unusedVariables false
set_option linter.unusedSimpArgs false
namespace Go.Proofs.YtnbcdaonkdffkaaGreatDoor
open Sh Go.RowKit Go.WideShapes Go.ChangeShapes
set_option maxRecDepth 100000
structure SIssue where
  ver : Int
  before : BitVec 64
  after : BitVec 64
  void : Hdr
  sig : SSig
instance : Inhabited SIssue := ⟨⟨0, 0, 0, ⟨none, 0, 0⟩, ⟨0, 0⟩⟩⟩
def SIssue.cells (s : SIssue) : List Value := [.int .i64 s.ver] ++ [u64v s.before] ++ [u64v s.after] ++ [s.void.val] ++ s.sig.cells
theorem SIssue.cells_eq (s : SIssue) : s.cells = [.int .i64 s.ver, u64v s.before, u64v s.after, s.void.val, .int .i64 s.sig.e, .int .i64 s.sig.s] := rfl
theorem SIssue.one (s : SIssue) : ∀ u ∈ s.cells, u.oneCell' = true := by
  intro u hu
  rw [SIssue.cells_eq] at hu
  simp only [List.mem_cons, List.not_mem_nil, or_false] at hu
  rcases hu with rfl | rfl | rfl | rfl | rfl | rfl <;> rfl
def SIssue.zero : SIssue := ⟨0, 0, 0, ⟨none, 0, 0⟩, ⟨0, 0⟩⟩
namespace Ty
theorem SIssue_und : Tryz.prog.underlying 55 = some (.struct (Tryz.prog.fieldsOf 55)) := by kernel_rfl
theorem SIssue_agg (w : World) : (isAgg 55).run Tryz.prog w = .ok true w := by kernel_rfl
theorem SIssue_size (w : World) : (sizeOf 55).run Tryz.prog w = .ok 6 w := by kernel_rfl
theorem SIssue_zero (w : World) : (zeroValue 55).run Tryz.prog w = .ok (.agg SIssue.zero.cells.toArray) w := by kernel_rfl
theorem SIssue_cells : Tryz.prog.cellsOf 55 = 6 := by kernel_rfl
theorem SIssue_f0_run (w : World) (b o : Nat) : (Instr.fieldAt 55 (.pointer (some ⟨b, o, none⟩)) 0).run Tryz.prog w = .ok (.pointer (some ⟨b, o, none⟩)) w := by kernel_rfl
theorem SIssue_f0 {b o : Nat} {w : World} {K : Value → World → Prop} {X : List PanicEntry → World → Prop} : DoV Tryz.prog (Instr.fieldAt 55 (.pointer (some ⟨b, o, none⟩)) 0) w K X = K (.pointer (some ⟨b, o, none⟩)) w := DoV_ok (SIssue_f0_run w b o)
theorem SIssue_f1_run (w : World) (b o : Nat) : (Instr.fieldAt 55 (.pointer (some ⟨b, o, none⟩)) 1).run Tryz.prog w = .ok (.pointer (some ⟨b, o + 1, none⟩)) w := by kernel_rfl
theorem SIssue_f1 {b o : Nat} {w : World} {K : Value → World → Prop} {X : List PanicEntry → World → Prop} : DoV Tryz.prog (Instr.fieldAt 55 (.pointer (some ⟨b, o, none⟩)) 1) w K X = K (.pointer (some ⟨b, o + 1, none⟩)) w := DoV_ok (SIssue_f1_run w b o)
theorem SIssue_f2_run (w : World) (b o : Nat) : (Instr.fieldAt 55 (.pointer (some ⟨b, o, none⟩)) 2).run Tryz.prog w = .ok (.pointer (some ⟨b, o + 2, none⟩)) w := by kernel_rfl
theorem SIssue_f2 {b o : Nat} {w : World} {K : Value → World → Prop} {X : List PanicEntry → World → Prop} : DoV Tryz.prog (Instr.fieldAt 55 (.pointer (some ⟨b, o, none⟩)) 2) w K X = K (.pointer (some ⟨b, o + 2, none⟩)) w := DoV_ok (SIssue_f2_run w b o)
theorem SIssue_f3_run (w : World) (b o : Nat) : (Instr.fieldAt 55 (.pointer (some ⟨b, o, none⟩)) 3).run Tryz.prog w = .ok (.pointer (some ⟨b, o + 3, none⟩)) w := by kernel_rfl
theorem SIssue_f3 {b o : Nat} {w : World} {K : Value → World → Prop} {X : List PanicEntry → World → Prop} : DoV Tryz.prog (Instr.fieldAt 55 (.pointer (some ⟨b, o, none⟩)) 3) w K X = K (.pointer (some ⟨b, o + 3, none⟩)) w := DoV_ok (SIssue_f3_run w b o)
theorem SIssue_f4_run (w : World) (b o : Nat) : (Instr.fieldAt 55 (.pointer (some ⟨b, o, none⟩)) 4).run Tryz.prog w = .ok (.pointer (some ⟨b, o + 4, none⟩)) w := by kernel_rfl
theorem SIssue_f4 {b o : Nat} {w : World} {K : Value → World → Prop} {X : List PanicEntry → World → Prop} : DoV Tryz.prog (Instr.fieldAt 55 (.pointer (some ⟨b, o, none⟩)) 4) w K X = K (.pointer (some ⟨b, o + 4, none⟩)) w := DoV_ok (SIssue_f4_run w b o)
theorem SIssue_flds : (Tryz.prog.fieldsOf 55).toList.map (fun f => (f.type, f.offset, f.name == "_")) = [(3, 0, false), (48, 1, false), (48, 2, false), (36, 3, false), (53, 4, false)] := by kernel_rfl
end Ty
theorem SIssue.g_ver {s : SIssue} {b o : Nat} {w : World} {K : Value → World → Prop} {X0 X1 : List PanicEntry → World → Prop} (h : Has w b o s.cells) : DoV Tryz.prog (Instr.fieldAt 55 (.pointer (some ⟨b, o, none⟩)) 0) w (fun a1 w1 => DoV Tryz.prog (Instr.loadAt 3 a1) w1 K X0) X1 = K (.int .i64 s.ver) w := by
  rw [Ty.SIssue_f0, load_cell Ty.int_agg (has_at h (d := 0) (by omega) rfl)]
theorem SIssue.g_before {s : SIssue} {b o : Nat} {w : World} {K : Value → World → Prop} {X0 X1 : List PanicEntry → World → Prop} (h : Has w b o s.cells) : DoV Tryz.prog (Instr.fieldAt 55 (.pointer (some ⟨b, o, none⟩)) 1) w (fun a1 w1 => DoV Tryz.prog (Instr.loadAt 48 a1) w1 K X0) X1 = K (u64v s.before) w := by
  rw [Ty.SIssue_f1, load_cell Ty.u64_agg (has_at h (d := 1) (by omega) rfl)]
theorem SIssue.g_after {s : SIssue} {b o : Nat} {w : World} {K : Value → World → Prop} {X0 X1 : List PanicEntry → World → Prop} (h : Has w b o s.cells) : DoV Tryz.prog (Instr.fieldAt 55 (.pointer (some ⟨b, o, none⟩)) 2) w (fun a1 w1 => DoV Tryz.prog (Instr.loadAt 48 a1) w1 K X0) X1 = K (u64v s.after) w := by
  rw [Ty.SIssue_f2, load_cell Ty.u64_agg (has_at h (d := 2) (by omega) rfl)]
theorem SIssue.g_void {s : SIssue} {b o : Nat} {w : World} {K : Value → World → Prop} {X0 X1 : List PanicEntry → World → Prop} (h : Has w b o s.cells) : DoV Tryz.prog (Instr.fieldAt 55 (.pointer (some ⟨b, o, none⟩)) 3) w (fun a1 w1 => DoV Tryz.prog (Instr.loadAt 36 a1) w1 K X0) X1 = K (s.void.val) w := by
  rw [Ty.SIssue_f3, load_cell (fun w => show (isAgg 36).run Tryz.prog w = .ok false w by kernel_rfl) (has_at h (d := 3) (by omega) rfl)]
theorem SIssue.g_sig {s : SIssue} {b o : Nat} {w : World} {K : Value → World → Prop} {X0 X1 : List PanicEntry → World → Prop} (h : Has w b o s.cells) : DoV Tryz.prog (Instr.fieldAt 55 (.pointer (some ⟨b, o, none⟩)) 4) w (fun a1 w1 => DoV Tryz.prog (Instr.loadAt 53 a1) w1 K X0) X1 = K (.agg s.sig.cells.toArray) w := by
  rw [Ty.SIssue_f4, load_arr (n := 2) (xs := s.sig.cells) Ty.SSig_agg Ty.SSig_size rfl (fun j u hu => has_part h (d := 4) (n := 2) (xs := s.sig.cells) (by omega) rfl hu)]
theorem SIssue.s_ver {s : SIssue} {x : Int} {b : Nat} {e : TypeId} {w : World} {K : Value → World → Prop} {X0 X1 : List PanicEntry → World → Prop} (h : At w b (.cells s.cells.toArray e (0, 0))) (hk : ∀ w1, Mod (· = b) w w1 → At w1 b (.cells ({ s with ver := x } : SIssue).cells.toArray e (0, 0)) → w1.heap.size = w.heap.size → K undef w1) : DoV Tryz.prog (Instr.fieldAt 55 (.pointer (some ⟨b, 0, none⟩)) 0) w (fun a w1 => DoU Tryz.prog (Instr.storeAt 3 a (.int .i64 x)) w1 K X0) X1 := by
  rw [Ty.SIssue_f0]
  exact store_i (o := 0) Ty.int_size h (by show 0 < 6; omega) rfl hk
theorem SIssue.s_before {s : SIssue} {x : BitVec 64} {b : Nat} {e : TypeId} {w : World} {K : Value → World → Prop} {X0 X1 : List PanicEntry → World → Prop} (h : At w b (.cells s.cells.toArray e (0, 0))) (hk : ∀ w1, Mod (· = b) w w1 → At w1 b (.cells ({ s with before := x } : SIssue).cells.toArray e (0, 0)) → w1.heap.size = w.heap.size → K undef w1) : DoV Tryz.prog (Instr.fieldAt 55 (.pointer (some ⟨b, 0, none⟩)) 1) w (fun a w1 => DoU Tryz.prog (Instr.storeAt 48 a (u64v x)) w1 K X0) X1 := by
  rw [Ty.SIssue_f1]
  exact store_i (o := 1) Ty.u64_size h (by show 1 < 6; omega) rfl hk
theorem SIssue.s_after {s : SIssue} {x : BitVec 64} {b : Nat} {e : TypeId} {w : World} {K : Value → World → Prop} {X0 X1 : List PanicEntry → World → Prop} (h : At w b (.cells s.cells.toArray e (0, 0))) (hk : ∀ w1, Mod (· = b) w w1 → At w1 b (.cells ({ s with after := x } : SIssue).cells.toArray e (0, 0)) → w1.heap.size = w.heap.size → K undef w1) : DoV Tryz.prog (Instr.fieldAt 55 (.pointer (some ⟨b, 0, none⟩)) 2) w (fun a w1 => DoU Tryz.prog (Instr.storeAt 48 a (u64v x)) w1 K X0) X1 := by
  rw [Ty.SIssue_f2]
  exact store_i (o := 2) Ty.u64_size h (by show 2 < 6; omega) rfl hk
theorem SIssue.s_void {s : SIssue} {x : Hdr} {b : Nat} {e : TypeId} {w : World} {K : Value → World → Prop} {X0 X1 : List PanicEntry → World → Prop} (h : At w b (.cells s.cells.toArray e (0, 0))) (hk : ∀ w1, Mod (· = b) w w1 → At w1 b (.cells ({ s with void := x } : SIssue).cells.toArray e (0, 0)) → w1.heap.size = w.heap.size → K undef w1) : DoV Tryz.prog (Instr.fieldAt 55 (.pointer (some ⟨b, 0, none⟩)) 3) w (fun a w1 => DoU Tryz.prog (Instr.storeAt 36 a (x.val)) w1 K X0) X1 := by
  rw [Ty.SIssue_f3]
  exact store_i (o := 3) (fun w => show (sizeOf 36).run Tryz.prog w = .ok 1 w by kernel_rfl) h (by show 3 < 6; omega) rfl hk
theorem SIssue.s_sig {s : SIssue} {x : SSig} {b : Nat} {e : TypeId} {w : World} {K : Value → World → Prop} {X0 X1 : List PanicEntry → World → Prop} (h : At w b (.cells s.cells.toArray e (0, 0))) (hk : ∀ w1, Mod (· = b) w w1 → At w1 b (.cells ({ s with sig := x } : SIssue).cells.toArray e (0, 0)) → w1.heap.size = w.heap.size → K undef w1) : DoV Tryz.prog (Instr.fieldAt 55 (.pointer (some ⟨b, 0, none⟩)) 4) w (fun a w1 => DoU Tryz.prog (Instr.storeAt 53 a (.agg x.cells.toArray)) w1 K X0) X1 := by
  rw [Ty.SIssue_f4]
  exact store_part (o := 4) (n := 2) Ty.SSig_size h (by show 4 + 2 ≤ 6; omega) rfl (by intro u hu; exact SSig.one x u hu) hk
theorem SIssue.g_all {s : SIssue} {b o : Nat} {w : World} {K : Value → World → Prop} {X : List PanicEntry → World → Prop} (h : Has w b o s.cells) : DoV Tryz.prog (Instr.loadAt 55 (.pointer (some ⟨b, o, none⟩))) w K X = K (.agg s.cells.toArray) w := load_arr (n := 6) (xs := s.cells) Ty.SIssue_agg Ty.SIssue_size rfl h
theorem SIssue.set {s r : SIssue} {b : Nat} {e : TypeId} {w : World} {K : Value → World → Prop} {X : List PanicEntry → World → Prop} (h : At w b (.cells r.cells.toArray e (0, 0))) (hk : ∀ w1, Mod (· = b) w w1 → At w1 b (.cells s.cells.toArray e (0, 0)) → w1.heap.size = w.heap.size → K undef w1) : DoU Tryz.prog (Instr.storeAt 55 (.pointer (some ⟨b, 0, none⟩)) (.agg s.cells.toArray)) w K X := store_all (n := 6) Ty.SIssue_size h rfl rfl (by intro u hu; exact SIssue.one s u hu) hk
end Go.Proofs.YtnbcdaonkdffkaaGreatDoor
