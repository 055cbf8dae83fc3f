/- WRITTEN BY structs.py: flat structs of the program: SVeh, SMem. -/
import Derived.Test.YtoeblipchoglaaaGreatDoorZStrA
namespace Go.Proofs.YtoeblipchoglaaaGreatDoor
open Sh Go.RowKit Go.WideShapes Go.ChangeShapes
set_option maxRecDepth 100000
structure SVeh where
  id : Int
  ver : Int
  log : SLog
  byts : Hdr
  sure : Int
  up : Bool
  used : Int
  mode : Int
instance : Inhabited SVeh := ⟨⟨0, 0, ⟨0, ⟨none, 0, 0⟩, ⟨none, 0, 0⟩⟩, ⟨none, 0, 0⟩, 0, false, 0, 0⟩⟩
def SVeh.cells (s : SVeh) : List Value := [.int .i64 s.id] ++ [.int .i64 s.ver] ++ s.log.cells ++ [s.byts.val] ++ [.int .i64 s.sure] ++ [.bool s.up] ++ [.int .i64 s.used] ++ [.int .i64 s.mode]
theorem SVeh.cells_eq (s : SVeh) : s.cells = [.int .i64 s.id, .int .i64 s.ver, .int .i64 s.log.veh, s.log.start.val, s.log.ents.val, s.byts.val, .int .i64 s.sure, .bool s.up, .int .i64 s.used, .int .i64 s.mode] := rfl
theorem SVeh.len (s : SVeh) : s.cells.length = 10 := rfl
theorem SVeh.one (s : SVeh) : ∀ u ∈ s.cells, u.oneCell' = true := by
  intro u hu
  rw [SVeh.cells_eq] at hu
  simp only [List.mem_cons, List.not_mem_nil, or_false] at hu
  rcases hu with rfl | rfl | rfl | rfl | rfl | rfl | rfl | rfl | rfl | rfl <;> rfl
def SVeh.zero : SVeh := ⟨0, 0, ⟨0, ⟨none, 0, 0⟩, ⟨none, 0, 0⟩⟩, ⟨none, 0, 0⟩, 0, false, 0, 0⟩
namespace Ty
theorem SVeh_und : Tryz.prog.underlying 28 = some (.struct (Tryz.prog.fieldsOf 28)) := by kernel_rfl
theorem SVeh_agg (w : World) : (isAgg 28).run Tryz.prog w = .ok true w := by kernel_rfl
theorem SVeh_size (w : World) : (sizeOf 28).run Tryz.prog w = .ok 10 w := by kernel_rfl
theorem SVeh_zero (w : World) : (zeroValue 28).run Tryz.prog w = .ok (.agg SVeh.zero.cells.toArray) w := by kernel_rfl
theorem SVeh_cells : Tryz.prog.cellsOf 28 = 10 := by kernel_rfl
theorem SVeh_info : (Tryz.prog.info? 28).map (fun i => (i.zero, i.size, i.bytes)) = some (some (.agg SVeh.zero.cells.toArray), 10, 128) := by kernel_rfl
theorem SVeh_f0_run (w : World) (b o : Nat) : (Instr.fieldAt 28 (.pointer (some ⟨b, o, none⟩)) 0).run Tryz.prog w = .ok (.pointer (some ⟨b, o, none⟩)) w := by kernel_rfl
theorem SVeh_f0 {b o : Nat} {w : World} {K : Value → World → Prop} {X : List PanicEntry → World → Prop} : DoV Tryz.prog (Instr.fieldAt 28 (.pointer (some ⟨b, o, none⟩)) 0) w K X = K (.pointer (some ⟨b, o, none⟩)) w := DoV_ok (SVeh_f0_run w b o)
theorem SVeh_f1_run (w : World) (b o : Nat) : (Instr.fieldAt 28 (.pointer (some ⟨b, o, none⟩)) 1).run Tryz.prog w = .ok (.pointer (some ⟨b, o + 1, none⟩)) w := by kernel_rfl
theorem SVeh_f1 {b o : Nat} {w : World} {K : Value → World → Prop} {X : List PanicEntry → World → Prop} : DoV Tryz.prog (Instr.fieldAt 28 (.pointer (some ⟨b, o, none⟩)) 1) w K X = K (.pointer (some ⟨b, o + 1, none⟩)) w := DoV_ok (SVeh_f1_run w b o)
theorem SVeh_f2_run (w : World) (b o : Nat) : (Instr.fieldAt 28 (.pointer (some ⟨b, o, none⟩)) 2).run Tryz.prog w = .ok (.pointer (some ⟨b, o + 2, none⟩)) w := by kernel_rfl
theorem SVeh_f2 {b o : Nat} {w : World} {K : Value → World → Prop} {X : List PanicEntry → World → Prop} : DoV Tryz.prog (Instr.fieldAt 28 (.pointer (some ⟨b, o, none⟩)) 2) w K X = K (.pointer (some ⟨b, o + 2, none⟩)) w := DoV_ok (SVeh_f2_run w b o)
theorem SVeh_f3_run (w : World) (b o : Nat) : (Instr.fieldAt 28 (.pointer (some ⟨b, o, none⟩)) 3).run Tryz.prog w = .ok (.pointer (some ⟨b, o + 5, none⟩)) w := by kernel_rfl
theorem SVeh_f3 {b o : Nat} {w : World} {K : Value → World → Prop} {X : List PanicEntry → World → Prop} : DoV Tryz.prog (Instr.fieldAt 28 (.pointer (some ⟨b, o, none⟩)) 3) w K X = K (.pointer (some ⟨b, o + 5, none⟩)) w := DoV_ok (SVeh_f3_run w b o)
theorem SVeh_f4_run (w : World) (b o : Nat) : (Instr.fieldAt 28 (.pointer (some ⟨b, o, none⟩)) 4).run Tryz.prog w = .ok (.pointer (some ⟨b, o + 6, none⟩)) w := by kernel_rfl
theorem SVeh_f4 {b o : Nat} {w : World} {K : Value → World → Prop} {X : List PanicEntry → World → Prop} : DoV Tryz.prog (Instr.fieldAt 28 (.pointer (some ⟨b, o, none⟩)) 4) w K X = K (.pointer (some ⟨b, o + 6, none⟩)) w := DoV_ok (SVeh_f4_run w b o)
theorem SVeh_f5_run (w : World) (b o : Nat) : (Instr.fieldAt 28 (.pointer (some ⟨b, o, none⟩)) 5).run Tryz.prog w = .ok (.pointer (some ⟨b, o + 7, none⟩)) w := by kernel_rfl
theorem SVeh_f5 {b o : Nat} {w : World} {K : Value → World → Prop} {X : List PanicEntry → World → Prop} : DoV Tryz.prog (Instr.fieldAt 28 (.pointer (some ⟨b, o, none⟩)) 5) w K X = K (.pointer (some ⟨b, o + 7, none⟩)) w := DoV_ok (SVeh_f5_run w b o)
theorem SVeh_f6_run (w : World) (b o : Nat) : (Instr.fieldAt 28 (.pointer (some ⟨b, o, none⟩)) 6).run Tryz.prog w = .ok (.pointer (some ⟨b, o + 8, none⟩)) w := by kernel_rfl
theorem SVeh_f6 {b o : Nat} {w : World} {K : Value → World → Prop} {X : List PanicEntry → World → Prop} : DoV Tryz.prog (Instr.fieldAt 28 (.pointer (some ⟨b, o, none⟩)) 6) w K X = K (.pointer (some ⟨b, o + 8, none⟩)) w := DoV_ok (SVeh_f6_run w b o)
theorem SVeh_f7_run (w : World) (b o : Nat) : (Instr.fieldAt 28 (.pointer (some ⟨b, o, none⟩)) 7).run Tryz.prog w = .ok (.pointer (some ⟨b, o + 9, none⟩)) w := by kernel_rfl
theorem SVeh_f7 {b o : Nat} {w : World} {K : Value → World → Prop} {X : List PanicEntry → World → Prop} : DoV Tryz.prog (Instr.fieldAt 28 (.pointer (some ⟨b, o, none⟩)) 7) w K X = K (.pointer (some ⟨b, o + 9, none⟩)) w := DoV_ok (SVeh_f7_run w b o)
theorem SVeh_flds : (Tryz.prog.fieldsOf 28).toList.map (fun f => (f.type, f.offset, f.name == "_")) = [(3, 0, false), (3, 1, false), (25, 2, false), (26, 5, false), (3, 6, false), (4, 7, false), (3, 8, false), (3, 9, false)] := by kernel_rfl
end Ty
theorem SVeh.g_id {s : SVeh} {b o : Nat} {w : World} {K : Value → World → Prop} {X0 X1 : List PanicEntry → World → Prop} (h : Has w b o s.cells) : DoV Tryz.prog (Instr.fieldAt 28 (.pointer (some ⟨b, o, none⟩)) 0) w (fun a1 w1 => DoV Tryz.prog (Instr.loadAt 3 a1) w1 K X0) X1 = K (.int .i64 s.id) w := by
  rw [Ty.SVeh_f0, load_cell Ty.int_agg (has_at h (d := 0) (by omega) rfl)]
theorem SVeh.g_ver {s : SVeh} {b o : Nat} {w : World} {K : Value → World → Prop} {X0 X1 : List PanicEntry → World → Prop} (h : Has w b o s.cells) : DoV Tryz.prog (Instr.fieldAt 28 (.pointer (some ⟨b, o, none⟩)) 1) w (fun a1 w1 => DoV Tryz.prog (Instr.loadAt 3 a1) w1 K X0) X1 = K (.int .i64 s.ver) w := by
  rw [Ty.SVeh_f1, load_cell Ty.int_agg (has_at h (d := 1) (by omega) rfl)]
theorem SVeh.g_log {s : SVeh} {b o : Nat} {w : World} {K : Value → World → Prop} {X0 X1 : List PanicEntry → World → Prop} (h : Has w b o s.cells) : DoV Tryz.prog (Instr.fieldAt 28 (.pointer (some ⟨b, o, none⟩)) 2) w (fun a1 w1 => DoV Tryz.prog (Instr.loadAt 25 a1) w1 K X0) X1 = K (.agg s.log.cells.toArray) w := by
  rw [Ty.SVeh_f2, load_arr (n := 3) (xs := s.log.cells) Ty.SLog_agg Ty.SLog_size rfl (fun j u hu => has_part h (d := 2) (n := 3) (xs := s.log.cells) (by omega) rfl hu)]
theorem SVeh.g_log_veh {s : SVeh} {b o : Nat} {w : World} {K : Value → World → Prop} {X0 X1 X2 : List PanicEntry → World → Prop} (h : Has w b o s.cells) : DoV Tryz.prog (Instr.fieldAt 28 (.pointer (some ⟨b, o, none⟩)) 2) w (fun a1 w1 => DoV Tryz.prog (Instr.fieldAt 25 a1 0) w1 (fun a2 w2 => DoV Tryz.prog (Instr.loadAt 3 a2) w2 K X0) X2) X1 = K (.int .i64 s.log.veh) w := by
  rw [Ty.SVeh_f2, Ty.SLog_f0, load_cell Ty.int_agg (has_at h (d := 2) (by omega) rfl)]
theorem SVeh.g_log_ents {s : SVeh} {b o : Nat} {w : World} {K : Value → World → Prop} {X0 X1 X2 : List PanicEntry → World → Prop} (h : Has w b o s.cells) : DoV Tryz.prog (Instr.fieldAt 28 (.pointer (some ⟨b, o, none⟩)) 2) w (fun a1 w1 => DoV Tryz.prog (Instr.fieldAt 25 a1 2) w1 (fun a2 w2 => DoV Tryz.prog (Instr.loadAt 23 a2) w2 K X0) X2) X1 = K (s.log.ents.val) w := by
  rw [Ty.SVeh_f2, Ty.SLog_f2, load_cell (fun w => show (isAgg 23).run Tryz.prog w = .ok false w by kernel_rfl) (has_at h (d := 4) (by omega) rfl)]
theorem SVeh.g_byts {s : SVeh} {b o : Nat} {w : World} {K : Value → World → Prop} {X0 X1 : List PanicEntry → World → Prop} (h : Has w b o s.cells) : DoV Tryz.prog (Instr.fieldAt 28 (.pointer (some ⟨b, o, none⟩)) 3) w (fun a1 w1 => DoV Tryz.prog (Instr.loadAt 26 a1) w1 K X0) X1 = K (s.byts.val) w := by
  rw [Ty.SVeh_f3, load_cell (fun w => show (isAgg 26).run Tryz.prog w = .ok false w by kernel_rfl) (has_at h (d := 5) (by omega) rfl)]
theorem SVeh.g_sure {s : SVeh} {b o : Nat} {w : World} {K : Value → World → Prop} {X0 X1 : List PanicEntry → World → Prop} (h : Has w b o s.cells) : DoV Tryz.prog (Instr.fieldAt 28 (.pointer (some ⟨b, o, none⟩)) 4) w (fun a1 w1 => DoV Tryz.prog (Instr.loadAt 3 a1) w1 K X0) X1 = K (.int .i64 s.sure) w := by
  rw [Ty.SVeh_f4, load_cell Ty.int_agg (has_at h (d := 6) (by omega) rfl)]
theorem SVeh.g_up {s : SVeh} {b o : Nat} {w : World} {K : Value → World → Prop} {X0 X1 : List PanicEntry → World → Prop} (h : Has w b o s.cells) : DoV Tryz.prog (Instr.fieldAt 28 (.pointer (some ⟨b, o, none⟩)) 5) w (fun a1 w1 => DoV Tryz.prog (Instr.loadAt 4 a1) w1 K X0) X1 = K (.bool s.up) w := by
  rw [Ty.SVeh_f5, load_cell Ty.bool_agg (has_at h (d := 7) (by omega) rfl)]
theorem SVeh.g_used {s : SVeh} {b o : Nat} {w : World} {K : Value → World → Prop} {X0 X1 : List PanicEntry → World → Prop} (h : Has w b o s.cells) : DoV Tryz.prog (Instr.fieldAt 28 (.pointer (some ⟨b, o, none⟩)) 6) w (fun a1 w1 => DoV Tryz.prog (Instr.loadAt 3 a1) w1 K X0) X1 = K (.int .i64 s.used) w := by
  rw [Ty.SVeh_f6, load_cell Ty.int_agg (has_at h (d := 8) (by omega) rfl)]
theorem SVeh.g_mode {s : SVeh} {b o : Nat} {w : World} {K : Value → World → Prop} {X0 X1 : List PanicEntry → World → Prop} (h : Has w b o s.cells) : DoV Tryz.prog (Instr.fieldAt 28 (.pointer (some ⟨b, o, none⟩)) 7) w (fun a1 w1 => DoV Tryz.prog (Instr.loadAt 3 a1) w1 K X0) X1 = K (.int .i64 s.mode) w := by
  rw [Ty.SVeh_f7, load_cell Ty.int_agg (has_at h (d := 9) (by omega) rfl)]
theorem SVeh.s_byts {s : SVeh} {x : Hdr} {b : Nat} {e : TypeId} {w : World} {K : Value → World → Prop} {X0 X1 : List PanicEntry → World → Prop} (h : At w b (.cells s.cells.toArray e (0, 0))) (hk : ∀ w1, Mod (· = b) w w1 → At w1 b (.cells ({ s with byts := x } : SVeh).cells.toArray e (0, 0)) → w1.heap.size = w.heap.size → K undef w1) : DoV Tryz.prog (Instr.fieldAt 28 (.pointer (some ⟨b, 0, none⟩)) 3) w (fun a w1 => DoU Tryz.prog (Instr.storeAt 26 a (x.val)) w1 K X0) X1 := by
  rw [Ty.SVeh_f3]
  exact store_i (o := 5) (fun w => show (sizeOf 26).run Tryz.prog w = .ok 1 w by kernel_rfl) h (by show 5 < 10; omega) rfl hk
theorem SVeh.s_sure {s : SVeh} {x : Int} {b : Nat} {e : TypeId} {w : World} {K : Value → World → Prop} {X0 X1 : List PanicEntry → World → Prop} (h : At w b (.cells s.cells.toArray e (0, 0))) (hk : ∀ w1, Mod (· = b) w w1 → At w1 b (.cells ({ s with sure := x } : SVeh).cells.toArray e (0, 0)) → w1.heap.size = w.heap.size → K undef w1) : DoV Tryz.prog (Instr.fieldAt 28 (.pointer (some ⟨b, 0, none⟩)) 4) w (fun a w1 => DoU Tryz.prog (Instr.storeAt 3 a (.int .i64 x)) w1 K X0) X1 := by
  rw [Ty.SVeh_f4]
  exact store_i (o := 6) Ty.int_size h (by show 6 < 10; omega) rfl hk
theorem SVeh.s_up {s : SVeh} {x : Bool} {b : Nat} {e : TypeId} {w : World} {K : Value → World → Prop} {X0 X1 : List PanicEntry → World → Prop} (h : At w b (.cells s.cells.toArray e (0, 0))) (hk : ∀ w1, Mod (· = b) w w1 → At w1 b (.cells ({ s with up := x } : SVeh).cells.toArray e (0, 0)) → w1.heap.size = w.heap.size → K undef w1) : DoV Tryz.prog (Instr.fieldAt 28 (.pointer (some ⟨b, 0, none⟩)) 5) w (fun a w1 => DoU Tryz.prog (Instr.storeAt 4 a (.bool x)) w1 K X0) X1 := by
  rw [Ty.SVeh_f5]
  exact store_i (o := 7) Ty.bool_size h (by show 7 < 10; omega) rfl hk
theorem SVeh.g_all {s : SVeh} {b o : Nat} {w : World} {K : Value → World → Prop} {X : List PanicEntry → World → Prop} (h : Has w b o s.cells) : DoV Tryz.prog (Instr.loadAt 28 (.pointer (some ⟨b, o, none⟩))) w K X = K (.agg s.cells.toArray) w := load_arr (n := 10) (xs := s.cells) Ty.SVeh_agg Ty.SVeh_size rfl h
theorem SVeh.set {s r : SVeh} {b : Nat} {e : TypeId} {w : World} {K : Value → World → Prop} {X : List PanicEntry → World → Prop} (h : At w b (.cells r.cells.toArray e (0, 0))) (hk : ∀ w1, Mod (· = b) w w1 → At w1 b (.cells s.cells.toArray e (0, 0)) → w1.heap.size = w.heap.size → K undef w1) : DoU Tryz.prog (Instr.storeAt 28 (.pointer (some ⟨b, 0, none⟩)) (.agg s.cells.toArray)) w K X := store_all (n := 10) Ty.SVeh_size h rfl rfl (by intro u hu; exact SVeh.one s u hu) hk
structure SMem where
  v : SVeh
  says : Hdr
  whole : Int
  ends : Bool
instance : Inhabited SMem := ⟨⟨⟨0, 0, ⟨0, ⟨none, 0, 0⟩, ⟨none, 0, 0⟩⟩, ⟨none, 0, 0⟩, 0, false, 0, 0⟩, ⟨none, 0, 0⟩, 0, false⟩⟩
def SMem.cells (s : SMem) : List Value := s.v.cells ++ [s.says.val] ++ [.int .i64 s.whole] ++ [.bool s.ends]
theorem SMem.cells_eq (s : SMem) : s.cells = [.int .i64 s.v.id, .int .i64 s.v.ver, .int .i64 s.v.log.veh, s.v.log.start.val, s.v.log.ents.val, s.v.byts.val, .int .i64 s.v.sure, .bool s.v.up, .int .i64 s.v.used, .int .i64 s.v.mode, s.says.val, .int .i64 s.whole, .bool s.ends] := rfl
theorem SMem.len (s : SMem) : s.cells.length = 13 := rfl
theorem SMem.one (s : SMem) : ∀ u ∈ s.cells, u.oneCell' = true := by
  intro u hu
  rw [SMem.cells_eq] at hu
  simp only [List.mem_cons, List.not_mem_nil, or_false] at hu
  rcases hu with rfl | rfl | rfl | rfl | rfl | rfl | rfl | rfl | rfl | rfl | rfl | rfl | rfl <;> rfl
def SMem.zero : SMem := ⟨⟨0, 0, ⟨0, ⟨none, 0, 0⟩, ⟨none, 0, 0⟩⟩, ⟨none, 0, 0⟩, 0, false, 0, 0⟩, ⟨none, 0, 0⟩, 0, false⟩
namespace Ty
theorem SMem_agg (w : World) : (isAgg 57).run Tryz.prog w = .ok true w := by kernel_rfl
theorem SMem_size (w : World) : (sizeOf 57).run Tryz.prog w = .ok 13 w := by kernel_rfl
theorem SMem_zero (w : World) : (zeroValue 57).run Tryz.prog w = .ok (.agg SMem.zero.cells.toArray) w := by kernel_rfl
theorem SMem_f0_run (w : World) (b o : Nat) : (Instr.fieldAt 57 (.pointer (some ⟨b, o, none⟩)) 0).run Tryz.prog w = .ok (.pointer (some ⟨b, o, none⟩)) w := by kernel_rfl
theorem SMem_f0 {b o : Nat} {w : World} {K : Value → World → Prop} {X : List PanicEntry → World → Prop} : DoV Tryz.prog (Instr.fieldAt 57 (.pointer (some ⟨b, o, none⟩)) 0) w K X = K (.pointer (some ⟨b, o, none⟩)) w := DoV_ok (SMem_f0_run w b o)
theorem SMem_f1_run (w : World) (b o : Nat) : (Instr.fieldAt 57 (.pointer (some ⟨b, o, none⟩)) 1).run Tryz.prog w = .ok (.pointer (some ⟨b, o + 10, none⟩)) w := by kernel_rfl
theorem SMem_f1 {b o : Nat} {w : World} {K : Value → World → Prop} {X : List PanicEntry → World → Prop} : DoV Tryz.prog (Instr.fieldAt 57 (.pointer (some ⟨b, o, none⟩)) 1) w K X = K (.pointer (some ⟨b, o + 10, none⟩)) w := DoV_ok (SMem_f1_run w b o)
theorem SMem_f2_run (w : World) (b o : Nat) : (Instr.fieldAt 57 (.pointer (some ⟨b, o, none⟩)) 2).run Tryz.prog w = .ok (.pointer (some ⟨b, o + 11, none⟩)) w := by kernel_rfl
theorem SMem_f2 {b o : Nat} {w : World} {K : Value → World → Prop} {X : List PanicEntry → World → Prop} : DoV Tryz.prog (Instr.fieldAt 57 (.pointer (some ⟨b, o, none⟩)) 2) w K X = K (.pointer (some ⟨b, o + 11, none⟩)) w := DoV_ok (SMem_f2_run w b o)
theorem SMem_f3_run (w : World) (b o : Nat) : (Instr.fieldAt 57 (.pointer (some ⟨b, o, none⟩)) 3).run Tryz.prog w = .ok (.pointer (some ⟨b, o + 12, none⟩)) w := by kernel_rfl
theorem SMem_f3 {b o : Nat} {w : World} {K : Value → World → Prop} {X : List PanicEntry → World → Prop} : DoV Tryz.prog (Instr.fieldAt 57 (.pointer (some ⟨b, o, none⟩)) 3) w K X = K (.pointer (some ⟨b, o + 12, none⟩)) w := DoV_ok (SMem_f3_run w b o)
end Ty
theorem SMem.g_v_id {s : SMem} {b o : Nat} {w : World} {K : Value → World → Prop} {X0 X1 X2 : List PanicEntry → World → Prop} (h : Has w b o s.cells) : DoV Tryz.prog (Instr.fieldAt 57 (.pointer (some ⟨b, o, none⟩)) 0) w (fun a1 w1 => DoV Tryz.prog (Instr.fieldAt 28 a1 0) w1 (fun a2 w2 => DoV Tryz.prog (Instr.loadAt 3 a2) w2 K X0) X2) X1 = K (.int .i64 s.v.id) w := by
  rw [Ty.SMem_f0, Ty.SVeh_f0, load_cell Ty.int_agg (has_at h (d := 0) (by omega) rfl)]
theorem SMem.g_v_ver {s : SMem} {b o : Nat} {w : World} {K : Value → World → Prop} {X0 X1 X2 : List PanicEntry → World → Prop} (h : Has w b o s.cells) : DoV Tryz.prog (Instr.fieldAt 57 (.pointer (some ⟨b, o, none⟩)) 0) w (fun a1 w1 => DoV Tryz.prog (Instr.fieldAt 28 a1 1) w1 (fun a2 w2 => DoV Tryz.prog (Instr.loadAt 3 a2) w2 K X0) X2) X1 = K (.int .i64 s.v.ver) w := by
  rw [Ty.SMem_f0, Ty.SVeh_f1, load_cell Ty.int_agg (has_at h (d := 1) (by omega) rfl)]
theorem SMem.g_v_log {s : SMem} {b o : Nat} {w : World} {K : Value → World → Prop} {X0 X1 X2 : List PanicEntry → World → Prop} (h : Has w b o s.cells) : DoV Tryz.prog (Instr.fieldAt 57 (.pointer (some ⟨b, o, none⟩)) 0) w (fun a1 w1 => DoV Tryz.prog (Instr.fieldAt 28 a1 2) w1 (fun a2 w2 => DoV Tryz.prog (Instr.loadAt 25 a2) w2 K X0) X2) X1 = K (.agg s.v.log.cells.toArray) w := by
  rw [Ty.SMem_f0, Ty.SVeh_f2, load_arr (n := 3) (xs := s.v.log.cells) Ty.SLog_agg Ty.SLog_size rfl (fun j u hu => has_part h (d := 2) (n := 3) (xs := s.v.log.cells) (by omega) rfl hu)]
theorem SMem.g_v_log_veh {s : SMem} {b o : Nat} {w : World} {K : Value → World → Prop} {X0 X1 X2 X3 : List PanicEntry → World → Prop} (h : Has w b o s.cells) : DoV Tryz.prog (Instr.fieldAt 57 (.pointer (some ⟨b, o, none⟩)) 0) w (fun a1 w1 => DoV Tryz.prog (Instr.fieldAt 28 a1 2) w1 (fun a2 w2 => DoV Tryz.prog (Instr.fieldAt 25 a2 0) w2 (fun a3 w3 => DoV Tryz.prog (Instr.loadAt 3 a3) w3 K X0) X3) X2) X1 = K (.int .i64 s.v.log.veh) w := by
  rw [Ty.SMem_f0, Ty.SVeh_f2, Ty.SLog_f0, load_cell Ty.int_agg (has_at h (d := 2) (by omega) rfl)]
theorem SMem.g_v_byts {s : SMem} {b o : Nat} {w : World} {K : Value → World → Prop} {X0 X1 X2 : List PanicEntry → World → Prop} (h : Has w b o s.cells) : DoV Tryz.prog (Instr.fieldAt 57 (.pointer (some ⟨b, o, none⟩)) 0) w (fun a1 w1 => DoV Tryz.prog (Instr.fieldAt 28 a1 3) w1 (fun a2 w2 => DoV Tryz.prog (Instr.loadAt 26 a2) w2 K X0) X2) X1 = K (s.v.byts.val) w := by
  rw [Ty.SMem_f0, Ty.SVeh_f3, load_cell (fun w => show (isAgg 26).run Tryz.prog w = .ok false w by kernel_rfl) (has_at h (d := 5) (by omega) rfl)]
theorem SMem.g_v_sure {s : SMem} {b o : Nat} {w : World} {K : Value → World → Prop} {X0 X1 X2 : List PanicEntry → World → Prop} (h : Has w b o s.cells) : DoV Tryz.prog (Instr.fieldAt 57 (.pointer (some ⟨b, o, none⟩)) 0) w (fun a1 w1 => DoV Tryz.prog (Instr.fieldAt 28 a1 4) w1 (fun a2 w2 => DoV Tryz.prog (Instr.loadAt 3 a2) w2 K X0) X2) X1 = K (.int .i64 s.v.sure) w := by
  rw [Ty.SMem_f0, Ty.SVeh_f4, load_cell Ty.int_agg (has_at h (d := 6) (by omega) rfl)]
theorem SMem.g_v_up {s : SMem} {b o : Nat} {w : World} {K : Value → World → Prop} {X0 X1 X2 : List PanicEntry → World → Prop} (h : Has w b o s.cells) : DoV Tryz.prog (Instr.fieldAt 57 (.pointer (some ⟨b, o, none⟩)) 0) w (fun a1 w1 => DoV Tryz.prog (Instr.fieldAt 28 a1 5) w1 (fun a2 w2 => DoV Tryz.prog (Instr.loadAt 4 a2) w2 K X0) X2) X1 = K (.bool s.v.up) w := by
  rw [Ty.SMem_f0, Ty.SVeh_f5, load_cell Ty.bool_agg (has_at h (d := 7) (by omega) rfl)]
theorem SMem.g_v_used {s : SMem} {b o : Nat} {w : World} {K : Value → World → Prop} {X0 X1 X2 : List PanicEntry → World → Prop} (h : Has w b o s.cells) : DoV Tryz.prog (Instr.fieldAt 57 (.pointer (some ⟨b, o, none⟩)) 0) w (fun a1 w1 => DoV Tryz.prog (Instr.fieldAt 28 a1 6) w1 (fun a2 w2 => DoV Tryz.prog (Instr.loadAt 3 a2) w2 K X0) X2) X1 = K (.int .i64 s.v.used) w := by
  rw [Ty.SMem_f0, Ty.SVeh_f6, load_cell Ty.int_agg (has_at h (d := 8) (by omega) rfl)]
theorem SMem.g_v_mode {s : SMem} {b o : Nat} {w : World} {K : Value → World → Prop} {X0 X1 X2 : List PanicEntry → World → Prop} (h : Has w b o s.cells) : DoV Tryz.prog (Instr.fieldAt 57 (.pointer (some ⟨b, o, none⟩)) 0) w (fun a1 w1 => DoV Tryz.prog (Instr.fieldAt 28 a1 7) w1 (fun a2 w2 => DoV Tryz.prog (Instr.loadAt 3 a2) w2 K X0) X2) X1 = K (.int .i64 s.v.mode) w := by
  rw [Ty.SMem_f0, Ty.SVeh_f7, load_cell Ty.int_agg (has_at h (d := 9) (by omega) rfl)]
theorem SMem.g_ends {s : SMem} {b o : Nat} {w : World} {K : Value → World → Prop} {X0 X1 : List PanicEntry → World → Prop} (h : Has w b o s.cells) : DoV Tryz.prog (Instr.fieldAt 57 (.pointer (some ⟨b, o, none⟩)) 3) w (fun a1 w1 => DoV Tryz.prog (Instr.loadAt 4 a1) w1 K X0) X1 = K (.bool s.ends) w := by
  rw [Ty.SMem_f3, load_cell Ty.bool_agg (has_at h (d := 12) (by omega) rfl)]
theorem SMem.s_whole {s : SMem} {x : Int} {b : Nat} {e : TypeId} {w : World} {K : Value → World → Prop} {X0 X1 : List PanicEntry → World → Prop} (h : At w b (.cells s.cells.toArray e (0, 0))) (hk : ∀ w1, Mod (· = b) w w1 → At w1 b (.cells ({ s with whole := x } : SMem).cells.toArray e (0, 0)) → w1.heap.size = w.heap.size → K undef w1) : DoV Tryz.prog (Instr.fieldAt 57 (.pointer (some ⟨b, 0, none⟩)) 2) w (fun a w1 => DoU Tryz.prog (Instr.storeAt 3 a (.int .i64 x)) w1 K X0) X1 := by
  rw [Ty.SMem_f2]
  exact store_i (o := 11) Ty.int_size h (by show 11 < 13; omega) rfl hk
theorem SMem.s_ends {s : SMem} {x : Bool} {b : Nat} {e : TypeId} {w : World} {K : Value → World → Prop} {X0 X1 : List PanicEntry → World → Prop} (h : At w b (.cells s.cells.toArray e (0, 0))) (hk : ∀ w1, Mod (· = b) w w1 → At w1 b (.cells ({ s with ends := x } : SMem).cells.toArray e (0, 0)) → w1.heap.size = w.heap.size → K undef w1) : DoV Tryz.prog (Instr.fieldAt 57 (.pointer (some ⟨b, 0, none⟩)) 3) w (fun a w1 => DoU Tryz.prog (Instr.storeAt 4 a (.bool x)) w1 K X0) X1 := by
  rw [Ty.SMem_f3]
  exact store_i (o := 12) Ty.bool_size h (by show 12 < 13; omega) rfl hk
theorem SMem.g_all {s : SMem} {b o : Nat} {w : World} {K : Value → World → Prop} {X : List PanicEntry → World → Prop} (h : Has w b o s.cells) : DoV Tryz.prog (Instr.loadAt 57 (.pointer (some ⟨b, o, none⟩))) w K X = K (.agg s.cells.toArray) w := load_arr (n := 13) (xs := s.cells) Ty.SMem_agg Ty.SMem_size rfl h
theorem SMem.set {s r : SMem} {b : Nat} {e : TypeId} {w : World} {K : Value → World → Prop} {X : List PanicEntry → World → Prop} (h : At w b (.cells r.cells.toArray e (0, 0))) (hk : ∀ w1, Mod (· = b) w w1 → At w1 b (.cells s.cells.toArray e (0, 0)) → w1.heap.size = w.heap.size → K undef w1) : DoU Tryz.prog (Instr.storeAt 57 (.pointer (some ⟨b, 0, none⟩)) (.agg s.cells.toArray)) w K X := store_all (n := 13) Ty.SMem_size h rfl rfl (by intro u hu; exact SMem.one s u hu) hk
end Go.Proofs.YtoeblipchoglaaaGreatDoor
