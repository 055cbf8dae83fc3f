/- WRITTEN BY structs.py: flat structs of the program: SCell, SBeacon, SLine, SChart. -/
import Derived.Test.YtdfpdfahcbflpabDoorHStrA
set_option linter.unusedVariables false
set_option linter.unusedSimpArgs false
namespace Go.Proofs.YtdfpdfahcbflpabDoor
open Sh Go.RowKit Go.WideShapes Go.ChangeShapes
set_option maxRecDepth 100000
structure SCell where
  depth : SSpan
  date : Int
  void : Bool
deriving DecidableEq
instance : Inhabited SCell := ⟨⟨⟨0, 0⟩, 0, false⟩⟩
def SCell.cells (s : SCell) : List Value := s.depth.cells ++ [.int .i64 s.date] ++ [.bool s.void]
theorem SCell.cells_eq (s : SCell) : s.cells = [.int .i64 s.depth.lo, .int .i64 s.depth.hi, .int .i64 s.date, .bool s.void] := rfl
theorem SCell.len (s : SCell) : s.cells.length = 4 := rfl
theorem SCell.one (s : SCell) : ∀ u ∈ s.cells, u.oneCell' = true := by
  intro u hu
  rw [SCell.cells_eq] at hu
  simp only [List.mem_cons, List.not_mem_nil, or_false] at hu
  rcases hu with rfl | rfl | rfl | rfl <;> rfl
def SCell.Ok (s : SCell) : Prop := s.depth.Ok ∧ I64 s.date ∧ True
def SCell.zero : SCell := ⟨⟨0, 0⟩, 0, false⟩
namespace Ty
theorem SCell_und : Tryd.prog.underlying 74 = some (.struct (Tryd.prog.fieldsOf 74)) := by kernel_rfl
theorem SCell_agg (w : World) : (isAgg 74).run Tryd.prog w = .ok true w := by kernel_rfl
theorem SCell_size (w : World) : (sizeOf 74).run Tryd.prog w = .ok 4 w := by kernel_rfl
theorem SCell_zero (w : World) : (zeroValue 74).run Tryd.prog w = .ok (.agg SCell.zero.cells.toArray) w := by kernel_rfl
theorem SCell_cells : Tryd.prog.cellsOf 74 = 4 := by kernel_rfl
theorem SCell_info : (Tryd.prog.info? 74).map (fun i => (i.zero, i.size, i.bytes)) = some (some (.agg SCell.zero.cells.toArray), 4, 32) := by kernel_rfl
theorem SCell_f0_run (w : World) (b o : Nat) : (Instr.fieldAt 74 (.pointer (some ⟨b, o, none⟩)) 0).run Tryd.prog w = .ok (.pointer (some ⟨b, o, none⟩)) w := by kernel_rfl
theorem SCell_f0 {b o : Nat} {w : World} {K : Value → World → Prop} {X : List PanicEntry → World → Prop} : DoV Tryd.prog (Instr.fieldAt 74 (.pointer (some ⟨b, o, none⟩)) 0) w K X = K (.pointer (some ⟨b, o, none⟩)) w := DoV_ok (SCell_f0_run w b o)
theorem SCell_f1_run (w : World) (b o : Nat) : (Instr.fieldAt 74 (.pointer (some ⟨b, o, none⟩)) 1).run Tryd.prog w = .ok (.pointer (some ⟨b, o + 2, none⟩)) w := by kernel_rfl
theorem SCell_f1 {b o : Nat} {w : World} {K : Value → World → Prop} {X : List PanicEntry → World → Prop} : DoV Tryd.prog (Instr.fieldAt 74 (.pointer (some ⟨b, o, none⟩)) 1) w K X = K (.pointer (some ⟨b, o + 2, none⟩)) w := DoV_ok (SCell_f1_run w b o)
theorem SCell_f2_run (w : World) (b o : Nat) : (Instr.fieldAt 74 (.pointer (some ⟨b, o, none⟩)) 2).run Tryd.prog w = .ok (.pointer (some ⟨b, o + 3, none⟩)) w := by kernel_rfl
theorem SCell_f2 {b o : Nat} {w : World} {K : Value → World → Prop} {X : List PanicEntry → World → Prop} : DoV Tryd.prog (Instr.fieldAt 74 (.pointer (some ⟨b, o, none⟩)) 2) w K X = K (.pointer (some ⟨b, o + 3, none⟩)) w := DoV_ok (SCell_f2_run w b o)
theorem SCell_flds : (Tryd.prog.fieldsOf 74).toList.map (fun f => (f.type, f.offset, f.name == "_")) = [(72, 0, false), (3, 2, false), (4, 3, false)] := by kernel_rfl
end Ty
theorem SCell.of_trod {H : Type} {enc : TypeId × Value → H} {W : World} {fuel : Nat} {cs : List Value} {x : DataW H × List MemPlace} (h : DataW.trod enc Tryd.prog W 0 (fun _ => true) true fuel 74 cs = some x) : ∃ a : SCell, cs = a.cells ∧ a.Ok := by
  have hcs : cs.length = 4 := by
    obtain ⟨_, _, _, _, hl, _⟩ := DataW.trod_struct Ty.SCell_und h
    rw [hl]; exact Ty.SCell_cells
  obtain ⟨m0, y0, g0⟩ := trod_fld Ty.SCell_und Ty.SCell_flds h (i := 0) rfl
  rw [Ty.SSpan_cells] at g0
  obtain ⟨m1, y1, g1⟩ := trod_fld Ty.SCell_und Ty.SCell_flds h (i := 1) rfl
  rw [Ty.int_cells] at g1
  obtain ⟨m2, y2, g2⟩ := trod_fld Ty.SCell_und Ty.SCell_flds h (i := 2) rfl
  rw [Ty.bool_cells] at g2
  match cs, hcs with
  | [u0, u1, u2, u3], _ =>
    have g0 : DataW.trod enc Tryd.prog W 0 (fun _ => true) true m0 72 [u0, u1] = some y0 := g0
    obtain ⟨a0, c0, k0⟩ := SSpan.of_trod g0
    have g1 : DataW.trod enc Tryd.prog W 0 (fun _ => true) true m1 3 [u2] = some y1 := g1
    obtain ⟨a1, c1, k1⟩ := leaf_int Ty.int g1
    have g2 : DataW.trod enc Tryd.prog W 0 (fun _ => true) true m2 4 [u3] = some y2 := g2
    obtain ⟨a2, c2, k2⟩ := leaf_bool Ty.bool g2
    refine ⟨⟨a0, a1, a2⟩, ?_, k0, k1, k2⟩
    show [u0, u1] ++ [u2] ++ [u3] = a0.cells ++ [.int .i64 a1] ++ [.bool a2]
    rw [c0, c1, c2]
theorem SCell.g_depth_lo {s : SCell} {b o : Nat} {w : World} {K : Value → World → Prop} {X0 X1 X2 : List PanicEntry → World → Prop} (h : Has w b o s.cells) : DoV Tryd.prog (Instr.fieldAt 74 (.pointer (some ⟨b, o, none⟩)) 0) w (fun a1 w1 => DoV Tryd.prog (Instr.fieldAt 72 a1 0) w1 (fun a2 w2 => DoV Tryd.prog (Instr.loadAt 3 a2) w2 K X0) X2) X1 = K (.int .i64 s.depth.lo) w := by
  rw [Ty.SCell_f0, Ty.SSpan_f0, load_cell Ty.int_agg (has_at h (d := 0) (by omega) rfl)]
theorem SCell.g_depth_hi {s : SCell} {b o : Nat} {w : World} {K : Value → World → Prop} {X0 X1 X2 : List PanicEntry → World → Prop} (h : Has w b o s.cells) : DoV Tryd.prog (Instr.fieldAt 74 (.pointer (some ⟨b, o, none⟩)) 0) w (fun a1 w1 => DoV Tryd.prog (Instr.fieldAt 72 a1 1) w1 (fun a2 w2 => DoV Tryd.prog (Instr.loadAt 3 a2) w2 K X0) X2) X1 = K (.int .i64 s.depth.hi) w := by
  rw [Ty.SCell_f0, Ty.SSpan_f1, load_cell Ty.int_agg (has_at h (d := 1) (by omega) rfl)]
theorem SCell.g_date {s : SCell} {b o : Nat} {w : World} {K : Value → World → Prop} {X0 X1 : List PanicEntry → World → Prop} (h : Has w b o s.cells) : DoV Tryd.prog (Instr.fieldAt 74 (.pointer (some ⟨b, o, none⟩)) 1) w (fun a1 w1 => DoV Tryd.prog (Instr.loadAt 3 a1) w1 K X0) X1 = K (.int .i64 s.date) w := by
  rw [Ty.SCell_f1, load_cell Ty.int_agg (has_at h (d := 2) (by omega) rfl)]
theorem SCell.g_void {s : SCell} {b o : Nat} {w : World} {K : Value → World → Prop} {X0 X1 : List PanicEntry → World → Prop} (h : Has w b o s.cells) : DoV Tryd.prog (Instr.fieldAt 74 (.pointer (some ⟨b, o, none⟩)) 2) w (fun a1 w1 => DoV Tryd.prog (Instr.loadAt 4 a1) w1 K X0) X1 = K (.bool s.void) w := by
  rw [Ty.SCell_f2, load_cell Ty.bool_agg (has_at h (d := 3) (by omega) rfl)]
theorem SCell.g_all {s : SCell} {b o : Nat} {w : World} {K : Value → World → Prop} {X : List PanicEntry → World → Prop} (h : Has w b o s.cells) : DoV Tryd.prog (Instr.loadAt 74 (.pointer (some ⟨b, o, none⟩))) w K X = K (.agg s.cells.toArray) w := load_arr (n := 4) (xs := s.cells) Ty.SCell_agg Ty.SCell_size rfl h
theorem SCell.set {s r : SCell} {b : Nat} {e : TypeId} {w : World} {K : Value → World → Prop} {X : List PanicEntry → World → Prop} (h : At w b (.cells r.cells.toArray e (0, 0))) (hk : ∀ w1, Mod (· = b) w w1 → At w1 b (.cells s.cells.toArray e (0, 0)) → w1.heap.size = w.heap.size → K undef w1) : DoU Tryd.prog (Instr.storeAt 74 (.pointer (some ⟨b, 0, none⟩)) (.agg s.cells.toArray)) w K X := store_all (n := 4) Ty.SCell_size h rfl rfl (by intro u hu; exact SCell.one s u hu) hk
structure SBeacon where
  id : Int
  at_ : SPoint
deriving DecidableEq
instance : Inhabited SBeacon := ⟨⟨0, ⟨0, 0⟩⟩⟩
def SBeacon.cells (s : SBeacon) : List Value := [.int .i64 s.id] ++ s.at_.cells
theorem SBeacon.cells_eq (s : SBeacon) : s.cells = [.int .i64 s.id, .int .i64 s.at_.x, .int .i64 s.at_.y] := rfl
theorem SBeacon.len (s : SBeacon) : s.cells.length = 3 := rfl
theorem SBeacon.one (s : SBeacon) : ∀ u ∈ s.cells, u.oneCell' = true := by
  intro u hu
  rw [SBeacon.cells_eq] at hu
  simp only [List.mem_cons, List.not_mem_nil, or_false] at hu
  rcases hu with rfl | rfl | rfl <;> rfl
def SBeacon.Ok (s : SBeacon) : Prop := I64 s.id ∧ s.at_.Ok
def SBeacon.zero : SBeacon := ⟨0, ⟨0, 0⟩⟩
namespace Ty
theorem SBeacon_und : Tryd.prog.underlying 33 = some (.struct (Tryd.prog.fieldsOf 33)) := by kernel_rfl
theorem SBeacon_agg (w : World) : (isAgg 33).run Tryd.prog w = .ok true w := by kernel_rfl
theorem SBeacon_size (w : World) : (sizeOf 33).run Tryd.prog w = .ok 3 w := by kernel_rfl
theorem SBeacon_zero (w : World) : (zeroValue 33).run Tryd.prog w = .ok (.agg SBeacon.zero.cells.toArray) w := by kernel_rfl
theorem SBeacon_cells : Tryd.prog.cellsOf 33 = 3 := by kernel_rfl
theorem SBeacon_info : (Tryd.prog.info? 33).map (fun i => (i.zero, i.size, i.bytes)) = some (some (.agg SBeacon.zero.cells.toArray), 3, 24) := by kernel_rfl
theorem SBeacon_f0_run (w : World) (b o : Nat) : (Instr.fieldAt 33 (.pointer (some ⟨b, o, none⟩)) 0).run Tryd.prog w = .ok (.pointer (some ⟨b, o, none⟩)) w := by kernel_rfl
theorem SBeacon_f0 {b o : Nat} {w : World} {K : Value → World → Prop} {X : List PanicEntry → World → Prop} : DoV Tryd.prog (Instr.fieldAt 33 (.pointer (some ⟨b, o, none⟩)) 0) w K X = K (.pointer (some ⟨b, o, none⟩)) w := DoV_ok (SBeacon_f0_run w b o)
theorem SBeacon_f1_run (w : World) (b o : Nat) : (Instr.fieldAt 33 (.pointer (some ⟨b, o, none⟩)) 1).run Tryd.prog w = .ok (.pointer (some ⟨b, o + 1, none⟩)) w := by kernel_rfl
theorem SBeacon_f1 {b o : Nat} {w : World} {K : Value → World → Prop} {X : List PanicEntry → World → Prop} : DoV Tryd.prog (Instr.fieldAt 33 (.pointer (some ⟨b, o, none⟩)) 1) w K X = K (.pointer (some ⟨b, o + 1, none⟩)) w := DoV_ok (SBeacon_f1_run w b o)
theorem SBeacon_flds : (Tryd.prog.fieldsOf 33).toList.map (fun f => (f.type, f.offset, f.name == "_")) = [(3, 0, false), (31, 1, false)] := by kernel_rfl
end Ty
theorem SBeacon.of_trod {H : Type} {enc : TypeId × Value → H} {W : World} {fuel : Nat} {cs : List Value} {x : DataW H × List MemPlace} (h : DataW.trod enc Tryd.prog W 0 (fun _ => true) true fuel 33 cs = some x) : ∃ a : SBeacon, cs = a.cells ∧ a.Ok := by
  have hcs : cs.length = 3 := by
    obtain ⟨_, _, _, _, hl, _⟩ := DataW.trod_struct Ty.SBeacon_und h
    rw [hl]; exact Ty.SBeacon_cells
  obtain ⟨m0, y0, g0⟩ := trod_fld Ty.SBeacon_und Ty.SBeacon_flds h (i := 0) rfl
  rw [Ty.int_cells] at g0
  obtain ⟨m1, y1, g1⟩ := trod_fld Ty.SBeacon_und Ty.SBeacon_flds h (i := 1) rfl
  rw [Ty.SPoint_cells] at g1
  match cs, hcs with
  | [u0, u1, u2], _ =>
    have g0 : DataW.trod enc Tryd.prog W 0 (fun _ => true) true m0 3 [u0] = some y0 := g0
    obtain ⟨a0, c0, k0⟩ := leaf_int Ty.int g0
    have g1 : DataW.trod enc Tryd.prog W 0 (fun _ => true) true m1 31 [u1, u2] = some y1 := g1
    obtain ⟨a1, c1, k1⟩ := SPoint.of_trod g1
    refine ⟨⟨a0, a1⟩, ?_, k0, k1⟩
    show [u0] ++ [u1, u2] = [.int .i64 a0] ++ a1.cells
    rw [c0, c1]
theorem SBeacon.g_id {s : SBeacon} {b o : Nat} {w : World} {K : Value → World → Prop} {X0 X1 : List PanicEntry → World → Prop} (h : Has w b o s.cells) : DoV Tryd.prog (Instr.fieldAt 33 (.pointer (some ⟨b, o, none⟩)) 0) w (fun a1 w1 => DoV Tryd.prog (Instr.loadAt 3 a1) w1 K X0) X1 = K (.int .i64 s.id) w := by
  rw [Ty.SBeacon_f0, load_cell Ty.int_agg (has_at h (d := 0) (by omega) rfl)]
theorem SBeacon.g_at_ {s : SBeacon} {b o : Nat} {w : World} {K : Value → World → Prop} {X0 X1 : List PanicEntry → World → Prop} (h : Has w b o s.cells) : DoV Tryd.prog (Instr.fieldAt 33 (.pointer (some ⟨b, o, none⟩)) 1) w (fun a1 w1 => DoV Tryd.prog (Instr.loadAt 31 a1) w1 K X0) X1 = K (.agg s.at_.cells.toArray) w := by
  rw [Ty.SBeacon_f1, load_arr (n := 2) (xs := s.at_.cells) Ty.SPoint_agg Ty.SPoint_size rfl (fun j u hu => has_part h (d := 1) (n := 2) (xs := s.at_.cells) (by omega) rfl hu)]
theorem SBeacon.g_at__x {s : SBeacon} {b o : Nat} {w : World} {K : Value → World → Prop} {X0 X1 X2 : List PanicEntry → World → Prop} (h : Has w b o s.cells) : DoV Tryd.prog (Instr.fieldAt 33 (.pointer (some ⟨b, o, none⟩)) 1) w (fun a1 w1 => DoV Tryd.prog (Instr.fieldAt 31 a1 0) w1 (fun a2 w2 => DoV Tryd.prog (Instr.loadAt 3 a2) w2 K X0) X2) X1 = K (.int .i64 s.at_.x) w := by
  rw [Ty.SBeacon_f1, Ty.SPoint_f0, load_cell Ty.int_agg (has_at h (d := 1) (by omega) rfl)]
theorem SBeacon.g_at__y {s : SBeacon} {b o : Nat} {w : World} {K : Value → World → Prop} {X0 X1 X2 : List PanicEntry → World → Prop} (h : Has w b o s.cells) : DoV Tryd.prog (Instr.fieldAt 33 (.pointer (some ⟨b, o, none⟩)) 1) w (fun a1 w1 => DoV Tryd.prog (Instr.fieldAt 31 a1 1) w1 (fun a2 w2 => DoV Tryd.prog (Instr.loadAt 3 a2) w2 K X0) X2) X1 = K (.int .i64 s.at_.y) w := by
  rw [Ty.SBeacon_f1, Ty.SPoint_f1, load_cell Ty.int_agg (has_at h (d := 2) (by omega) rfl)]
theorem SBeacon.g_all {s : SBeacon} {b o : Nat} {w : World} {K : Value → World → Prop} {X : List PanicEntry → World → Prop} (h : Has w b o s.cells) : DoV Tryd.prog (Instr.loadAt 33 (.pointer (some ⟨b, o, none⟩))) w K X = K (.agg s.cells.toArray) w := load_arr (n := 3) (xs := s.cells) Ty.SBeacon_agg Ty.SBeacon_size rfl h
theorem SBeacon.set {s r : SBeacon} {b : Nat} {e : TypeId} {w : World} {K : Value → World → Prop} {X : List PanicEntry → World → Prop} (h : At w b (.cells r.cells.toArray e (0, 0))) (hk : ∀ w1, Mod (· = b) w w1 → At w1 b (.cells s.cells.toArray e (0, 0)) → w1.heap.size = w.heap.size → K undef w1) : DoU Tryd.prog (Instr.storeAt 33 (.pointer (some ⟨b, 0, none⟩)) (.agg s.cells.toArray)) w K X := store_all (n := 3) Ty.SBeacon_size h rfl rfl (by intro u hu; exact SBeacon.one s u hu) hk
structure SLine where
  id : Int
  pts : Hdr
instance : Inhabited SLine := ⟨⟨0, ⟨none, 0, 0⟩⟩⟩
def SLine.cells (s : SLine) : List Value := [.int .i64 s.id] ++ [s.pts.val]
theorem SLine.cells_eq (s : SLine) : s.cells = [.int .i64 s.id, s.pts.val] := rfl
theorem SLine.len (s : SLine) : s.cells.length = 2 := rfl
theorem SLine.one (s : SLine) : ∀ u ∈ s.cells, u.oneCell' = true := by
  intro u hu
  rw [SLine.cells_eq] at hu
  simp only [List.mem_cons, List.not_mem_nil, or_false] at hu
  rcases hu with rfl | rfl <;> rfl
theorem SLine.inj (a b : SLine) (h : a.cells = b.cells) : a = b := by
  rw [SLine.cells_eq, SLine.cells_eq] at h
  simp only [List.cons.injEq, and_true, Value.int.injEq, Value.bool.injEq, u64v, true_and, Hdr.val_inj] at h
  obtain ⟨h0, h1⟩ := h
  obtain ⟨_, _⟩ := a
  obtain ⟨_, _⟩ := b
  simp only at h0 h1
  subst h0 h1
  rfl
def SLine.zero : SLine := ⟨0, ⟨none, 0, 0⟩⟩
namespace Ty
theorem SLine_und : Tryd.prog.underlying 39 = some (.struct (Tryd.prog.fieldsOf 39)) := by kernel_rfl
theorem SLine_agg (w : World) : (isAgg 39).run Tryd.prog w = .ok true w := by kernel_rfl
theorem SLine_size (w : World) : (sizeOf 39).run Tryd.prog w = .ok 2 w := by kernel_rfl
theorem SLine_zero (w : World) : (zeroValue 39).run Tryd.prog w = .ok (.agg SLine.zero.cells.toArray) w := by kernel_rfl
theorem SLine_cells : Tryd.prog.cellsOf 39 = 2 := by kernel_rfl
theorem SLine_info : (Tryd.prog.info? 39).map (fun i => (i.zero, i.size, i.bytes)) = some (some (.agg SLine.zero.cells.toArray), 2, 32) := by kernel_rfl
theorem SLine_f0_run (w : World) (b o : Nat) : (Instr.fieldAt 39 (.pointer (some ⟨b, o, none⟩)) 0).run Tryd.prog w = .ok (.pointer (some ⟨b, o, none⟩)) w := by kernel_rfl
theorem SLine_f0 {b o : Nat} {w : World} {K : Value → World → Prop} {X : List PanicEntry → World → Prop} : DoV Tryd.prog (Instr.fieldAt 39 (.pointer (some ⟨b, o, none⟩)) 0) w K X = K (.pointer (some ⟨b, o, none⟩)) w := DoV_ok (SLine_f0_run w b o)
theorem SLine_f1_run (w : World) (b o : Nat) : (Instr.fieldAt 39 (.pointer (some ⟨b, o, none⟩)) 1).run Tryd.prog w = .ok (.pointer (some ⟨b, o + 1, none⟩)) w := by kernel_rfl
theorem SLine_f1 {b o : Nat} {w : World} {K : Value → World → Prop} {X : List PanicEntry → World → Prop} : DoV Tryd.prog (Instr.fieldAt 39 (.pointer (some ⟨b, o, none⟩)) 1) w K X = K (.pointer (some ⟨b, o + 1, none⟩)) w := DoV_ok (SLine_f1_run w b o)
theorem SLine_flds : (Tryd.prog.fieldsOf 39).toList.map (fun f => (f.type, f.offset, f.name == "_")) = [(3, 0, false), (37, 1, false)] := by kernel_rfl
end Ty
theorem SLine.g_id {s : SLine} {b o : Nat} {w : World} {K : Value → World → Prop} {X0 X1 : List PanicEntry → World → Prop} (h : Has w b o s.cells) : DoV Tryd.prog (Instr.fieldAt 39 (.pointer (some ⟨b, o, none⟩)) 0) w (fun a1 w1 => DoV Tryd.prog (Instr.loadAt 3 a1) w1 K X0) X1 = K (.int .i64 s.id) w := by
  rw [Ty.SLine_f0, load_cell Ty.int_agg (has_at h (d := 0) (by omega) rfl)]
theorem SLine.g_pts {s : SLine} {b o : Nat} {w : World} {K : Value → World → Prop} {X0 X1 : List PanicEntry → World → Prop} (h : Has w b o s.cells) : DoV Tryd.prog (Instr.fieldAt 39 (.pointer (some ⟨b, o, none⟩)) 1) w (fun a1 w1 => DoV Tryd.prog (Instr.loadAt 37 a1) w1 K X0) X1 = K (s.pts.val) w := by
  rw [Ty.SLine_f1, load_cell (fun w => show (isAgg 37).run Tryd.prog w = .ok false w by kernel_rfl) (has_at h (d := 1) (by omega) rfl)]
theorem SLine.s_pts {s : SLine} {x : Hdr} {b : Nat} {e : TypeId} {w : World} {K : Value → World → Prop} {X0 X1 : List PanicEntry → World → Prop} (h : At w b (.cells s.cells.toArray e (0, 0))) (hk : ∀ w1, Mod (· = b) w w1 → At w1 b (.cells ({ s with pts := x } : SLine).cells.toArray e (0, 0)) → w1.heap.size = w.heap.size → K undef w1) : DoV Tryd.prog (Instr.fieldAt 39 (.pointer (some ⟨b, 0, none⟩)) 1) w (fun a w1 => DoU Tryd.prog (Instr.storeAt 37 a (x.val)) w1 K X0) X1 := by
  rw [Ty.SLine_f1]
  exact store_i (o := 1) (fun w => show (sizeOf 37).run Tryd.prog w = .ok 1 w by kernel_rfl) h (by show 1 < 2; omega) rfl hk
theorem SLine.g_all {s : SLine} {b o : Nat} {w : World} {K : Value → World → Prop} {X : List PanicEntry → World → Prop} (h : Has w b o s.cells) : DoV Tryd.prog (Instr.loadAt 39 (.pointer (some ⟨b, o, none⟩))) w K X = K (.agg s.cells.toArray) w := load_arr (n := 2) (xs := s.cells) Ty.SLine_agg Ty.SLine_size rfl h
theorem SLine.set {s r : SLine} {b : Nat} {e : TypeId} {w : World} {K : Value → World → Prop} {X : List PanicEntry → World → Prop} (h : At w b (.cells r.cells.toArray e (0, 0))) (hk : ∀ w1, Mod (· = b) w w1 → At w1 b (.cells s.cells.toArray e (0, 0)) → w1.heap.size = w.heap.size → K undef w1) : DoU Tryd.prog (Instr.storeAt 39 (.pointer (some ⟨b, 0, none⟩)) (.agg s.cells.toArray)) w K X := store_all (n := 2) Ty.SLine_size h rfl rfl (by intro u hu; exact SLine.one s u hu) hk
structure SChart where
  ver : Int
  x : Int
  y : Int
  w : Int
  h : Int
  size : Int
  cs : Hdr
  bs : Hdr
  ls : Hdr
instance : Inhabited SChart := ⟨⟨0, 0, 0, 0, 0, 0, ⟨none, 0, 0⟩, ⟨none, 0, 0⟩, ⟨none, 0, 0⟩⟩⟩
def SChart.cells (s : SChart) : List Value := [.int .i64 s.ver] ++ [.int .i64 s.x] ++ [.int .i64 s.y] ++ [.int .i64 s.w] ++ [.int .i64 s.h] ++ [.int .i64 s.size] ++ [s.cs.val] ++ [s.bs.val] ++ [s.ls.val]
theorem SChart.cells_eq (s : SChart) : s.cells = [.int .i64 s.ver, .int .i64 s.x, .int .i64 s.y, .int .i64 s.w, .int .i64 s.h, .int .i64 s.size, s.cs.val, s.bs.val, s.ls.val] := rfl
theorem SChart.one (s : SChart) : ∀ u ∈ s.cells, u.oneCell' = true := by
  intro u hu
  rw [SChart.cells_eq] at hu
  simp only [List.mem_cons, List.not_mem_nil, or_false] at hu
  rcases hu with rfl | rfl | rfl | rfl | rfl | rfl | rfl | rfl | rfl <;> rfl
def SChart.zero : SChart := ⟨0, 0, 0, 0, 0, 0, ⟨none, 0, 0⟩, ⟨none, 0, 0⟩, ⟨none, 0, 0⟩⟩
namespace Ty
theorem SChart_und : Tryd.prog.underlying 26 = some (.struct (Tryd.prog.fieldsOf 26)) := by kernel_rfl
theorem SChart_agg (w : World) : (isAgg 26).run Tryd.prog w = .ok true w := by kernel_rfl
theorem SChart_size (w : World) : (sizeOf 26).run Tryd.prog w = .ok 9 w := by kernel_rfl
theorem SChart_zero (w : World) : (zeroValue 26).run Tryd.prog w = .ok (.agg SChart.zero.cells.toArray) w := by kernel_rfl
theorem SChart_cells : Tryd.prog.cellsOf 26 = 9 := by kernel_rfl
theorem SChart_f0_run (w : World) (b o : Nat) : (Instr.fieldAt 26 (.pointer (some ⟨b, o, none⟩)) 0).run Tryd.prog w = .ok (.pointer (some ⟨b, o, none⟩)) w := by kernel_rfl
theorem SChart_f0 {b o : Nat} {w : World} {K : Value → World → Prop} {X : List PanicEntry → World → Prop} : DoV Tryd.prog (Instr.fieldAt 26 (.pointer (some ⟨b, o, none⟩)) 0) w K X = K (.pointer (some ⟨b, o, none⟩)) w := DoV_ok (SChart_f0_run w b o)
theorem SChart_f1_run (w : World) (b o : Nat) : (Instr.fieldAt 26 (.pointer (some ⟨b, o, none⟩)) 1).run Tryd.prog w = .ok (.pointer (some ⟨b, o + 1, none⟩)) w := by kernel_rfl
theorem SChart_f1 {b o : Nat} {w : World} {K : Value → World → Prop} {X : List PanicEntry → World → Prop} : DoV Tryd.prog (Instr.fieldAt 26 (.pointer (some ⟨b, o, none⟩)) 1) w K X = K (.pointer (some ⟨b, o + 1, none⟩)) w := DoV_ok (SChart_f1_run w b o)
theorem SChart_f2_run (w : World) (b o : Nat) : (Instr.fieldAt 26 (.pointer (some ⟨b, o, none⟩)) 2).run Tryd.prog w = .ok (.pointer (some ⟨b, o + 2, none⟩)) w := by kernel_rfl
theorem SChart_f2 {b o : Nat} {w : World} {K : Value → World → Prop} {X : List PanicEntry → World → Prop} : DoV Tryd.prog (Instr.fieldAt 26 (.pointer (some ⟨b, o, none⟩)) 2) w K X = K (.pointer (some ⟨b, o + 2, none⟩)) w := DoV_ok (SChart_f2_run w b o)
theorem SChart_f3_run (w : World) (b o : Nat) : (Instr.fieldAt 26 (.pointer (some ⟨b, o, none⟩)) 3).run Tryd.prog w = .ok (.pointer (some ⟨b, o + 3, none⟩)) w := by kernel_rfl
theorem SChart_f3 {b o : Nat} {w : World} {K : Value → World → Prop} {X : List PanicEntry → World → Prop} : DoV Tryd.prog (Instr.fieldAt 26 (.pointer (some ⟨b, o, none⟩)) 3) w K X = K (.pointer (some ⟨b, o + 3, none⟩)) w := DoV_ok (SChart_f3_run w b o)
theorem SChart_f4_run (w : World) (b o : Nat) : (Instr.fieldAt 26 (.pointer (some ⟨b, o, none⟩)) 4).run Tryd.prog w = .ok (.pointer (some ⟨b, o + 4, none⟩)) w := by kernel_rfl
theorem SChart_f4 {b o : Nat} {w : World} {K : Value → World → Prop} {X : List PanicEntry → World → Prop} : DoV Tryd.prog (Instr.fieldAt 26 (.pointer (some ⟨b, o, none⟩)) 4) w K X = K (.pointer (some ⟨b, o + 4, none⟩)) w := DoV_ok (SChart_f4_run w b o)
theorem SChart_f5_run (w : World) (b o : Nat) : (Instr.fieldAt 26 (.pointer (some ⟨b, o, none⟩)) 5).run Tryd.prog w = .ok (.pointer (some ⟨b, o + 5, none⟩)) w := by kernel_rfl
theorem SChart_f5 {b o : Nat} {w : World} {K : Value → World → Prop} {X : List PanicEntry → World → Prop} : DoV Tryd.prog (Instr.fieldAt 26 (.pointer (some ⟨b, o, none⟩)) 5) w K X = K (.pointer (some ⟨b, o + 5, none⟩)) w := DoV_ok (SChart_f5_run w b o)
theorem SChart_f6_run (w : World) (b o : Nat) : (Instr.fieldAt 26 (.pointer (some ⟨b, o, none⟩)) 6).run Tryd.prog w = .ok (.pointer (some ⟨b, o + 6, none⟩)) w := by kernel_rfl
theorem SChart_f6 {b o : Nat} {w : World} {K : Value → World → Prop} {X : List PanicEntry → World → Prop} : DoV Tryd.prog (Instr.fieldAt 26 (.pointer (some ⟨b, o, none⟩)) 6) w K X = K (.pointer (some ⟨b, o + 6, none⟩)) w := DoV_ok (SChart_f6_run w b o)
theorem SChart_f7_run (w : World) (b o : Nat) : (Instr.fieldAt 26 (.pointer (some ⟨b, o, none⟩)) 7).run Tryd.prog w = .ok (.pointer (some ⟨b, o + 7, none⟩)) w := by kernel_rfl
theorem SChart_f7 {b o : Nat} {w : World} {K : Value → World → Prop} {X : List PanicEntry → World → Prop} : DoV Tryd.prog (Instr.fieldAt 26 (.pointer (some ⟨b, o, none⟩)) 7) w K X = K (.pointer (some ⟨b, o + 7, none⟩)) w := DoV_ok (SChart_f7_run w b o)
theorem SChart_f8_run (w : World) (b o : Nat) : (Instr.fieldAt 26 (.pointer (some ⟨b, o, none⟩)) 8).run Tryd.prog w = .ok (.pointer (some ⟨b, o + 8, none⟩)) w := by kernel_rfl
theorem SChart_f8 {b o : Nat} {w : World} {K : Value → World → Prop} {X : List PanicEntry → World → Prop} : DoV Tryd.prog (Instr.fieldAt 26 (.pointer (some ⟨b, o, none⟩)) 8) w K X = K (.pointer (some ⟨b, o + 8, none⟩)) w := DoV_ok (SChart_f8_run w b o)
theorem SChart_flds : (Tryd.prog.fieldsOf 26).toList.map (fun f => (f.type, f.offset, f.name == "_")) = [(3, 0, false), (3, 1, false), (3, 2, false), (3, 3, false), (3, 4, false), (3, 5, false), (22, 6, false), (23, 7, false), (24, 8, false)] := by kernel_rfl
end Ty
theorem SChart.g_ver {s : SChart} {b o : Nat} {w : World} {K : Value → World → Prop} {X0 X1 : List PanicEntry → World → Prop} (h : Has w b o s.cells) : DoV Tryd.prog (Instr.fieldAt 26 (.pointer (some ⟨b, o, none⟩)) 0) w (fun a1 w1 => DoV Tryd.prog (Instr.loadAt 3 a1) w1 K X0) X1 = K (.int .i64 s.ver) w := by
  rw [Ty.SChart_f0, load_cell Ty.int_agg (has_at h (d := 0) (by omega) rfl)]
theorem SChart.g_x {s : SChart} {b o : Nat} {w : World} {K : Value → World → Prop} {X0 X1 : List PanicEntry → World → Prop} (h : Has w b o s.cells) : DoV Tryd.prog (Instr.fieldAt 26 (.pointer (some ⟨b, o, none⟩)) 1) w (fun a1 w1 => DoV Tryd.prog (Instr.loadAt 3 a1) w1 K X0) X1 = K (.int .i64 s.x) w := by
  rw [Ty.SChart_f1, load_cell Ty.int_agg (has_at h (d := 1) (by omega) rfl)]
theorem SChart.g_y {s : SChart} {b o : Nat} {w : World} {K : Value → World → Prop} {X0 X1 : List PanicEntry → World → Prop} (h : Has w b o s.cells) : DoV Tryd.prog (Instr.fieldAt 26 (.pointer (some ⟨b, o, none⟩)) 2) w (fun a1 w1 => DoV Tryd.prog (Instr.loadAt 3 a1) w1 K X0) X1 = K (.int .i64 s.y) w := by
  rw [Ty.SChart_f2, load_cell Ty.int_agg (has_at h (d := 2) (by omega) rfl)]
theorem SChart.g_w {s : SChart} {b o : Nat} {w : World} {K : Value → World → Prop} {X0 X1 : List PanicEntry → World → Prop} (h : Has w b o s.cells) : DoV Tryd.prog (Instr.fieldAt 26 (.pointer (some ⟨b, o, none⟩)) 3) w (fun a1 w1 => DoV Tryd.prog (Instr.loadAt 3 a1) w1 K X0) X1 = K (.int .i64 s.w) w := by
  rw [Ty.SChart_f3, load_cell Ty.int_agg (has_at h (d := 3) (by omega) rfl)]
theorem SChart.g_h {s : SChart} {b o : Nat} {w : World} {K : Value → World → Prop} {X0 X1 : List PanicEntry → World → Prop} (h : Has w b o s.cells) : DoV Tryd.prog (Instr.fieldAt 26 (.pointer (some ⟨b, o, none⟩)) 4) w (fun a1 w1 => DoV Tryd.prog (Instr.loadAt 3 a1) w1 K X0) X1 = K (.int .i64 s.h) w := by
  rw [Ty.SChart_f4, load_cell Ty.int_agg (has_at h (d := 4) (by omega) rfl)]
theorem SChart.g_size {s : SChart} {b o : Nat} {w : World} {K : Value → World → Prop} {X0 X1 : List PanicEntry → World → Prop} (h : Has w b o s.cells) : DoV Tryd.prog (Instr.fieldAt 26 (.pointer (some ⟨b, o, none⟩)) 5) w (fun a1 w1 => DoV Tryd.prog (Instr.loadAt 3 a1) w1 K X0) X1 = K (.int .i64 s.size) w := by
  rw [Ty.SChart_f5, load_cell Ty.int_agg (has_at h (d := 5) (by omega) rfl)]
theorem SChart.g_cs {s : SChart} {b o : Nat} {w : World} {K : Value → World → Prop} {X0 X1 : List PanicEntry → World → Prop} (h : Has w b o s.cells) : DoV Tryd.prog (Instr.fieldAt 26 (.pointer (some ⟨b, o, none⟩)) 6) w (fun a1 w1 => DoV Tryd.prog (Instr.loadAt 22 a1) w1 K X0) X1 = K (s.cs.val) w := by
  rw [Ty.SChart_f6, load_cell (fun w => show (isAgg 22).run Tryd.prog w = .ok false w by kernel_rfl) (has_at h (d := 6) (by omega) rfl)]
theorem SChart.g_bs {s : SChart} {b o : Nat} {w : World} {K : Value → World → Prop} {X0 X1 : List PanicEntry → World → Prop} (h : Has w b o s.cells) : DoV Tryd.prog (Instr.fieldAt 26 (.pointer (some ⟨b, o, none⟩)) 7) w (fun a1 w1 => DoV Tryd.prog (Instr.loadAt 23 a1) w1 K X0) X1 = K (s.bs.val) w := by
  rw [Ty.SChart_f7, load_cell (fun w => show (isAgg 23).run Tryd.prog w = .ok false w by kernel_rfl) (has_at h (d := 7) (by omega) rfl)]
theorem SChart.g_ls {s : SChart} {b o : Nat} {w : World} {K : Value → World → Prop} {X0 X1 : List PanicEntry → World → Prop} (h : Has w b o s.cells) : DoV Tryd.prog (Instr.fieldAt 26 (.pointer (some ⟨b, o, none⟩)) 8) w (fun a1 w1 => DoV Tryd.prog (Instr.loadAt 24 a1) w1 K X0) X1 = K (s.ls.val) w := by
  rw [Ty.SChart_f8, load_cell (fun w => show (isAgg 24).run Tryd.prog w = .ok false w by kernel_rfl) (has_at h (d := 8) (by omega) rfl)]
theorem SChart.s_ver {s : SChart} {x : Int} {b : Nat} {e : TypeId} {w : World} {K : Value → World → Prop} {X0 X1 : List PanicEntry → World → Prop} (h : At w b (.cells s.cells.toArray e (0, 0))) (hk : ∀ w1, Mod (· = b) w w1 → At w1 b (.cells ({ s with ver := x } : SChart).cells.toArray e (0, 0)) → w1.heap.size = w.heap.size → K undef w1) : DoV Tryd.prog (Instr.fieldAt 26 (.pointer (some ⟨b, 0, none⟩)) 0) w (fun a w1 => DoU Tryd.prog (Instr.storeAt 3 a (.int .i64 x)) w1 K X0) X1 := by
  rw [Ty.SChart_f0]
  exact store_i (o := 0) Ty.int_size h (by show 0 < 9; omega) rfl hk
theorem SChart.s_cs {s : SChart} {x : Hdr} {b : Nat} {e : TypeId} {w : World} {K : Value → World → Prop} {X0 X1 : List PanicEntry → World → Prop} (h : At w b (.cells s.cells.toArray e (0, 0))) (hk : ∀ w1, Mod (· = b) w w1 → At w1 b (.cells ({ s with cs := x } : SChart).cells.toArray e (0, 0)) → w1.heap.size = w.heap.size → K undef w1) : DoV Tryd.prog (Instr.fieldAt 26 (.pointer (some ⟨b, 0, none⟩)) 6) w (fun a w1 => DoU Tryd.prog (Instr.storeAt 22 a (x.val)) w1 K X0) X1 := by
  rw [Ty.SChart_f6]
  exact store_i (o := 6) (fun w => show (sizeOf 22).run Tryd.prog w = .ok 1 w by kernel_rfl) h (by show 6 < 9; omega) rfl hk
theorem SChart.s_bs {s : SChart} {x : Hdr} {b : Nat} {e : TypeId} {w : World} {K : Value → World → Prop} {X0 X1 : List PanicEntry → World → Prop} (h : At w b (.cells s.cells.toArray e (0, 0))) (hk : ∀ w1, Mod (· = b) w w1 → At w1 b (.cells ({ s with bs := x } : SChart).cells.toArray e (0, 0)) → w1.heap.size = w.heap.size → K undef w1) : DoV Tryd.prog (Instr.fieldAt 26 (.pointer (some ⟨b, 0, none⟩)) 7) w (fun a w1 => DoU Tryd.prog (Instr.storeAt 23 a (x.val)) w1 K X0) X1 := by
  rw [Ty.SChart_f7]
  exact store_i (o := 7) (fun w => show (sizeOf 23).run Tryd.prog w = .ok 1 w by kernel_rfl) h (by show 7 < 9; omega) rfl hk
theorem SChart.s_ls {s : SChart} {x : Hdr} {b : Nat} {e : TypeId} {w : World} {K : Value → World → Prop} {X0 X1 : List PanicEntry → World → Prop} (h : At w b (.cells s.cells.toArray e (0, 0))) (hk : ∀ w1, Mod (· = b) w w1 → At w1 b (.cells ({ s with ls := x } : SChart).cells.toArray e (0, 0)) → w1.heap.size = w.heap.size → K undef w1) : DoV Tryd.prog (Instr.fieldAt 26 (.pointer (some ⟨b, 0, none⟩)) 8) w (fun a w1 => DoU Tryd.prog (Instr.storeAt 24 a (x.val)) w1 K X0) X1 := by
  rw [Ty.SChart_f8]
  exact store_i (o := 8) (fun w => show (sizeOf 24).run Tryd.prog w = .ok 1 w by kernel_rfl) h (by show 8 < 9; omega) rfl hk
theorem SChart.g_all {s : SChart} {b o : Nat} {w : World} {K : Value → World → Prop} {X : List PanicEntry → World → Prop} (h : Has w b o s.cells) : DoV Tryd.prog (Instr.loadAt 26 (.pointer (some ⟨b, o, none⟩))) w K X = K (.agg s.cells.toArray) w := load_arr (n := 9) (xs := s.cells) Ty.SChart_agg Ty.SChart_size rfl h
theorem SChart.set {s r : SChart} {b : Nat} {e : TypeId} {w : World} {K : Value → World → Prop} {X : List PanicEntry → World → Prop} (h : At w b (.cells r.cells.toArray e (0, 0))) (hk : ∀ w1, Mod (· = b) w w1 → At w1 b (.cells s.cells.toArray e (0, 0)) → w1.heap.size = w.heap.size → K undef w1) : DoU Tryd.prog (Instr.storeAt 26 (.pointer (some ⟨b, 0, none⟩)) (.agg s.cells.toArray)) w K X := store_all (n := 9) Ty.SChart_size h rfl rfl (by intro u hu; exact SChart.one s u hu) hk
set_option maxHeartbeats 2000000
theorem Ty.SCell_row : Tryd.prog.underlying 22 = some (.slice 74) := by kernel_rfl
abbrev SCell.Row (w : World) (v : Value) (l : List SCell) : Prop := Sl w 4 v l.length (fl SCell.cells l)
abbrev SCell.Owns (base : Nat) (w : World) (v : Value) (l : List SCell) : Prop := w.ownsRow base 74 4 v l.length (fl SCell.cells l)
theorem SCell.row_nil (w : World) : SCell.Row w (.slice none 0 0) [] := Sl.nil _ _
theorem SCell.row_len {w : World} {K : Value → World → Prop} {X : List PanicEntry → World → Prop} {cs : Array Bool} {v : Value} {l : List SCell} (h : SCell.Row w v l) : CallB Tryd.prog .len #[22] 3 cs #[v] w K X = K (.int .i64 l.length) w := h.len Ty.SCell_row
theorem SCell.row_at {w : World} {v : Value} {l : List SCell} (h : SCell.Row w v l) {j : Nat} (hj : j < l.length) : ∃ b o, (∀ w1, Ext w w1 → Has w1 b o l[j].cells) ∧ b < w.heap.size ∧
    ∀ (w1 : World) (K : Value → World → Prop) (X : List PanicEntry → World → Prop), DoV Tryd.prog (Instr.indexAt 22 v (.int .i64 j)) w1 K X = K (.pointer (some ⟨b, o, none⟩)) w1 := by
  obtain ⟨i, hi, hz, hs, hby⟩ := Ty.info_parts Ty.SCell_info
  obtain ⟨b, o, h1, h2, h3⟩ := Sl.el (c := SCell.cells) (sz := 4) SCell.len h Ty.SCell_row hi hs (k := .i64) hj (by decide)
  have h1 : Has w b o l[j].cells := h1
  exact ⟨b, o, fun w1 x1 => h1.ext h2 x1, h2, h3⟩
theorem SCell.row_apps {w : World} {K : Value → World → Prop} {X : List PanicEntry → World → Prop} {base : Nat} {cs : Array Bool} {v x : Value} {l m : List SCell} (hown : SCell.Owns base w v l) (hx : SCell.Row w x m) (hl : l.length + m.length < 100000000000) (hb : base ≤ w.heap.size) (hk : ∀ v' w1, SCell.Owns base w1 v' (l ++ m) → Mod (fun k => v.ownBlock = some k) w w1 → K v' w1) :
    CallB Tryd.prog .append #[22, 22] 22 cs #[v, x] w K X := by
  obtain ⟨i, hi, hz, hs, hby⟩ := Ty.info_parts Ty.SCell_info
  exact app_els (c := SCell.cells) Ty.SCell_row hi hz hs hby rfl (by decide) SCell.one hown hx (by omega) (by omega) hb hk
theorem SCell.row_lit0 {w : World} {K : Value → World → Prop} {X : List PanicEntry → World → Prop} (hk : ∀ v w1, Ext w w1 → SCell.Owns w.heap.size w1 v [] → w1.heap.size = w.heap.size + 1 → K v w1) : DoV Tryd.prog (Instr.buildSlice 22 0 #[]) w K X := by
  obtain ⟨i, hi, hz, hs, hby⟩ := Ty.info_parts Ty.SCell_info
  exact lit0_e (sz := 4) Ty.SCell_row hi hk
theorem SCell.row_of_trod {H : Type} {enc : TypeId × Value → H} {W : World} {fuel : Nat} {v : Value} {x : DataW H × List MemPlace} (h : DataW.trod enc Tryd.prog W 0 (fun _ => true) true fuel 22 [v] = some x) : ∃ l : List SCell, SCell.Row W v l ∧ ∀ a ∈ l, a.Ok :=
  trod_list Ty.SCell_row Ty.SCell_cells (by decide) h fun _ _ _ hx => SCell.of_trod hx
theorem Ty.SBeacon_row : Tryd.prog.underlying 23 = some (.slice 33) := by kernel_rfl
abbrev SBeacon.Row (w : World) (v : Value) (l : List SBeacon) : Prop := Sl w 3 v l.length (fl SBeacon.cells l)
abbrev SBeacon.Owns (base : Nat) (w : World) (v : Value) (l : List SBeacon) : Prop := w.ownsRow base 33 3 v l.length (fl SBeacon.cells l)
theorem SBeacon.row_nil (w : World) : SBeacon.Row w (.slice none 0 0) [] := Sl.nil _ _
theorem SBeacon.row_len {w : World} {K : Value → World → Prop} {X : List PanicEntry → World → Prop} {cs : Array Bool} {v : Value} {l : List SBeacon} (h : SBeacon.Row w v l) : CallB Tryd.prog .len #[23] 3 cs #[v] w K X = K (.int .i64 l.length) w := h.len Ty.SBeacon_row
theorem SBeacon.row_at {w : World} {v : Value} {l : List SBeacon} (h : SBeacon.Row w v l) {j : Nat} (hj : j < l.length) : ∃ b o, (∀ w1, Ext w w1 → Has w1 b o l[j].cells) ∧ b < w.heap.size ∧
    ∀ (w1 : World) (K : Value → World → Prop) (X : List PanicEntry → World → Prop), DoV Tryd.prog (Instr.indexAt 23 v (.int .i64 j)) w1 K X = K (.pointer (some ⟨b, o, none⟩)) w1 := by
  obtain ⟨i, hi, hz, hs, hby⟩ := Ty.info_parts Ty.SBeacon_info
  obtain ⟨b, o, h1, h2, h3⟩ := Sl.el (c := SBeacon.cells) (sz := 3) SBeacon.len h Ty.SBeacon_row hi hs (k := .i64) hj (by decide)
  have h1 : Has w b o l[j].cells := h1
  exact ⟨b, o, fun w1 x1 => h1.ext h2 x1, h2, h3⟩
theorem SBeacon.row_apps {w : World} {K : Value → World → Prop} {X : List PanicEntry → World → Prop} {base : Nat} {cs : Array Bool} {v x : Value} {l m : List SBeacon} (hown : SBeacon.Owns base w v l) (hx : SBeacon.Row w x m) (hl : l.length + m.length < 100000000000) (hb : base ≤ w.heap.size) (hk : ∀ v' w1, SBeacon.Owns base w1 v' (l ++ m) → Mod (fun k => v.ownBlock = some k) w w1 → K v' w1) :
    CallB Tryd.prog .append #[23, 23] 23 cs #[v, x] w K X := by
  obtain ⟨i, hi, hz, hs, hby⟩ := Ty.info_parts Ty.SBeacon_info
  exact app_els (c := SBeacon.cells) Ty.SBeacon_row hi hz hs hby rfl (by decide) SBeacon.one hown hx (by omega) (by omega) hb hk
theorem SBeacon.row_lit {w : World} {K : Value → World → Prop} {X : List PanicEntry → World → Prop} {m : Nat} {parts : Array (Nat × Value)} (els : List SBeacon) (hn : els.length = m) (hn0 : 0 < m) (hsm : m * 3 ≤ 16777216) (hp : parts.toList = ((els.map fun a => Value.agg a.cells.toArray).zipIdx 0).map fun y => (y.2, y.1))
    (hk : ∀ v w1, Ext w w1 → SBeacon.Owns w.heap.size w1 v els → w1.heap.size = w.heap.size + 1 → K v w1) : DoV Tryd.prog (Instr.buildSlice 23 m parts) w K X := by
  obtain ⟨i, hi, hz, hs, hby⟩ := Ty.info_parts Ty.SBeacon_info
  exact lit_els (c := SBeacon.cells) (fun a => Value.agg a.cells.toArray) els Ty.SBeacon_row hi hz hs (by decide) SBeacon.len (fun _ => rfl) hn hn0 hsm hp hk
theorem SBeacon.row_lit0 {w : World} {K : Value → World → Prop} {X : List PanicEntry → World → Prop} (hk : ∀ v w1, Ext w w1 → SBeacon.Owns w.heap.size w1 v [] → w1.heap.size = w.heap.size + 1 → K v w1) : DoV Tryd.prog (Instr.buildSlice 23 0 #[]) w K X := by
  obtain ⟨i, hi, hz, hs, hby⟩ := Ty.info_parts Ty.SBeacon_info
  exact lit0_e (sz := 3) Ty.SBeacon_row hi hk
theorem SBeacon.row_of_trod {H : Type} {enc : TypeId × Value → H} {W : World} {fuel : Nat} {v : Value} {x : DataW H × List MemPlace} (h : DataW.trod enc Tryd.prog W 0 (fun _ => true) true fuel 23 [v] = some x) : ∃ l : List SBeacon, SBeacon.Row W v l ∧ ∀ a ∈ l, a.Ok :=
  trod_list Ty.SBeacon_row Ty.SBeacon_cells (by decide) h fun _ _ _ hx => SBeacon.of_trod hx
theorem Ty.SLine_row : Tryd.prog.underlying 24 = some (.slice 39) := by kernel_rfl
abbrev SLine.Row (w : World) (v : Value) (l : List SLine) : Prop := Sl w 2 v l.length (fl SLine.cells l)
abbrev SLine.Owns (base : Nat) (w : World) (v : Value) (l : List SLine) : Prop := w.ownsRow base 39 2 v l.length (fl SLine.cells l)
theorem SLine.row_nil (w : World) : SLine.Row w (.slice none 0 0) [] := Sl.nil _ _
theorem SLine.row_len {w : World} {K : Value → World → Prop} {X : List PanicEntry → World → Prop} {cs : Array Bool} {v : Value} {l : List SLine} (h : SLine.Row w v l) : CallB Tryd.prog .len #[24] 3 cs #[v] w K X = K (.int .i64 l.length) w := h.len Ty.SLine_row
theorem SLine.row_at {w : World} {v : Value} {l : List SLine} (h : SLine.Row w v l) {j : Nat} (hj : j < l.length) : ∃ b o, (∀ w1, Ext w w1 → Has w1 b o l[j].cells) ∧ b < w.heap.size ∧
    ∀ (w1 : World) (K : Value → World → Prop) (X : List PanicEntry → World → Prop), DoV Tryd.prog (Instr.indexAt 24 v (.int .i64 j)) w1 K X = K (.pointer (some ⟨b, o, none⟩)) w1 := by
  obtain ⟨i, hi, hz, hs, hby⟩ := Ty.info_parts Ty.SLine_info
  obtain ⟨b, o, h1, h2, h3⟩ := Sl.el (c := SLine.cells) (sz := 2) SLine.len h Ty.SLine_row hi hs (k := .i64) hj (by decide)
  have h1 : Has w b o l[j].cells := h1
  exact ⟨b, o, fun w1 x1 => h1.ext h2 x1, h2, h3⟩
theorem SLine.row_apps {w : World} {K : Value → World → Prop} {X : List PanicEntry → World → Prop} {base : Nat} {cs : Array Bool} {v x : Value} {l m : List SLine} (hown : SLine.Owns base w v l) (hx : SLine.Row w x m) (hl : l.length + m.length < 100000000000) (hb : base ≤ w.heap.size) (hk : ∀ v' w1, SLine.Owns base w1 v' (l ++ m) → Mod (fun k => v.ownBlock = some k) w w1 → K v' w1) :
    CallB Tryd.prog .append #[24, 24] 24 cs #[v, x] w K X := by
  obtain ⟨i, hi, hz, hs, hby⟩ := Ty.info_parts Ty.SLine_info
  exact app_els (c := SLine.cells) Ty.SLine_row hi hz hs hby rfl (by decide) SLine.one hown hx (by omega) (by omega) hb hk
theorem SLine.row_lit {w : World} {K : Value → World → Prop} {X : List PanicEntry → World → Prop} {m : Nat} {parts : Array (Nat × Value)} (els : List SLine) (hn : els.length = m) (hn0 : 0 < m) (hsm : m * 2 ≤ 16777216) (hp : parts.toList = ((els.map fun a => Value.agg a.cells.toArray).zipIdx 0).map fun y => (y.2, y.1))
    (hk : ∀ v w1, Ext w w1 → SLine.Owns w.heap.size w1 v els → w1.heap.size = w.heap.size + 1 → K v w1) : DoV Tryd.prog (Instr.buildSlice 24 m parts) w K X := by
  obtain ⟨i, hi, hz, hs, hby⟩ := Ty.info_parts Ty.SLine_info
  exact lit_els (c := SLine.cells) (fun a => Value.agg a.cells.toArray) els Ty.SLine_row hi hz hs (by decide) SLine.len (fun _ => rfl) hn hn0 hsm hp hk
theorem SLine.row_lit0 {w : World} {K : Value → World → Prop} {X : List PanicEntry → World → Prop} (hk : ∀ v w1, Ext w w1 → SLine.Owns w.heap.size w1 v [] → w1.heap.size = w.heap.size + 1 → K v w1) : DoV Tryd.prog (Instr.buildSlice 24 0 #[]) w K X := by
  obtain ⟨i, hi, hz, hs, hby⟩ := Ty.info_parts Ty.SLine_info
  exact lit0_e (sz := 2) Ty.SLine_row hi hk
end Go.Proofs.YtdfpdfahcbflpabDoor
