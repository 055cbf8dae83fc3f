/- WRITTEN BY structs.py: flat structs of the program: SPoint, SLog, SReport. -/
import Derived.Test.YtjinhojlnaplaaaDoorEqs
import Derived.Test.YtjinhojlnaplaaaDoorStr1
import Derived.Test.YtjinhojlnaplaaaDoorStrS
namespace Go.Proofs.YtjinhojlnaplaaaDoor
open Sh Go.RowKit Go.WideShapes Go.ChangeShapes
set_option maxRecDepth 100000
structure SPoint where
  x : Int
  y : Int
deriving DecidableEq
instance : Inhabited SPoint := ⟨⟨0, 0⟩⟩
def SPoint.cells (s : SPoint) : List Value := [.int .i64 s.x] ++ [.int .i64 s.y]
theorem SPoint.cells_eq (s : SPoint) : s.cells = [.int .i64 s.x, .int .i64 s.y] := rfl
theorem SPoint.len (s : SPoint) : s.cells.length = 2 := rfl
theorem SPoint.one (s : SPoint) : ∀ u ∈ s.cells, u.oneCell' = true := by
  intro u hu
  rw [SPoint.cells_eq] at hu
  simp only [List.mem_cons, List.not_mem_nil, or_false] at hu
  rcases hu with rfl | rfl <;> rfl
theorem SPoint.inj (a b : SPoint) (h : a.cells = b.cells) : a = b := by
  rw [SPoint.cells_eq, SPoint.cells_eq] at h
  simp only [List.cons.injEq, and_true, Value.int.injEq, Value.bool.injEq, u64v, true_and] at h
  obtain ⟨h0, h1⟩ := h
  obtain ⟨_, _⟩ := a
  obtain ⟨_, _⟩ := b
  simp only at h0 h1
  subst h0 h1
  rfl
def SPoint.Ok (s : SPoint) : Prop := I64 s.x ∧ I64 s.y
def SPoint.zero : SPoint := ⟨0, 0⟩
namespace Ty
theorem SPoint_und : Tryd.prog.underlying 109 = some (.struct (Tryd.prog.fieldsOf 109)) := by kernel_rfl
theorem SPoint_agg (w : World) : (isAgg 109).run Tryd.prog w = .ok true w := by kernel_rfl
theorem SPoint_size (w : World) : (sizeOf 109).run Tryd.prog w = .ok 2 w := by kernel_rfl
theorem SPoint_zero (w : World) : (zeroValue 109).run Tryd.prog w = .ok (.agg SPoint.zero.cells.toArray) w := by kernel_rfl
theorem SPoint_cells : Tryd.prog.cellsOf 109 = 2 := by kernel_rfl
theorem SPoint_info : (Tryd.prog.info? 109).map (fun i => (i.zero, i.size, i.bytes)) = some (some (.agg SPoint.zero.cells.toArray), 2, 16) := by kernel_rfl
theorem SPoint_f0_run (w : World) (b o : Nat) : (Instr.fieldAt 109 (.pointer (some ⟨b, o, none⟩)) 0).run Tryd.prog w = .ok (.pointer (some ⟨b, o, none⟩)) w := by kernel_rfl
theorem SPoint_f0 {b o : Nat} {w : World} {K : Value → World → Prop} {X : List PanicEntry → World → Prop} : DoV Tryd.prog (Instr.fieldAt 109 (.pointer (some ⟨b, o, none⟩)) 0) w K X = K (.pointer (some ⟨b, o, none⟩)) w := DoV_ok (SPoint_f0_run w b o)
theorem SPoint_f1_run (w : World) (b o : Nat) : (Instr.fieldAt 109 (.pointer (some ⟨b, o, none⟩)) 1).run Tryd.prog w = .ok (.pointer (some ⟨b, o + 1, none⟩)) w := by kernel_rfl
theorem SPoint_f1 {b o : Nat} {w : World} {K : Value → World → Prop} {X : List PanicEntry → World → Prop} : DoV Tryd.prog (Instr.fieldAt 109 (.pointer (some ⟨b, o, none⟩)) 1) w K X = K (.pointer (some ⟨b, o + 1, none⟩)) w := DoV_ok (SPoint_f1_run w b o)
theorem SPoint_flds : (Tryd.prog.fieldsOf 109).toList.map (fun f => (f.type, f.offset, f.name == "_")) = [(3, 0, false), (3, 1, false)] := by kernel_rfl
theorem SPoint_stood : Tryd.prog.stoodInHeld 109 = false := by kernel_rfl
theorem SPoint_guard (w : World) (op : BinOp) (ox oy : Operand) (x y : Array Value) : (eqGuard op 109 ox oy (.agg x) (.agg y)).run Tryd.prog w = .ok () w := run_eqGuard_agg w op 109 ox oy x y (by kernel_rfl)
end Ty
theorem SPoint.eq_run (d : Nat) (w : World) (a b : SPoint) : (Op.equalIn (d + 3) 109 (.agg a.cells.toArray) (.agg b.cells.toArray)).run Tryd.prog w = .ok (decide (a = b)) w := by
  rw [show d + 3 = (d + 2) + 1 from rfl, run_equalIn_agg w (d + 2) _ _ _ Ty.SPoint_und Ty.SPoint_stood]
  rw [eqFlds Ty.SPoint_flds (by decide)]
  have p0 : ∀ (c : SPoint) (w : World), (part 3 c.cells.toArray 0).run Tryd.prog w = .ok (.int .i64 c.x) w := fun c w => part_one Ty.int_agg rfl
  have q0 : ∀ (w : World), (Op.equalIn (d + 2) 3 (.int .i64 a.x) (.int .i64 b.x)).run Tryd.prog w = .ok (decide (a.x = b.x)) w := fun w => eq_int Ty.int
  have p1 : ∀ (c : SPoint) (w : World), (part 3 c.cells.toArray 1).run Tryd.prog w = .ok (.int .i64 c.y) w := fun c w => part_one Ty.int_agg rfl
  have q1 : ∀ (w : World), (Op.equalIn (d + 2) 3 (.int .i64 a.y) (.int .i64 b.y)).run Tryd.prog w = .ok (decide (a.y = b.y)) w := fun w => eq_int Ty.int
  have e : (a = b) ↔ (a.x = b.x ∧ a.y = b.y) := by
    constructor
    · rintro rfl; simp
    · rintro ⟨h0, h1⟩
      cases a; cases b; simp only at h0 h1; subst h0 h1; rfl
  rw [eqList_cons (p0 a) (p0 b) q0 (eqList_cons (p1 a) (p1 b) q1 eqList_nil) w]
  congr 1
  rw [Bool.eq_iff_iff]
  simp only [Bool.and_eq_true, decide_eq_true_eq, and_true, e]
theorem SPoint.eql {w : World} {K : Value → World → Prop} {X : List PanicEntry → World → Prop} {ox oy : Operand} {a b : SPoint} : DoV Tryd.prog (binS .eql 109 ox oy (.agg a.cells.toArray) (.agg b.cells.toArray)) w K X = K (.bool (decide (a = b))) w := by
  refine DoV_ok ?_
  have e := SPoint.eq_run 9997 w a b
  simp only [binS, Sem.run_bind, Ty.SPoint_guard, Result.andThen_ok, run_eql_struct]
  rw [e]; rfl
theorem SPoint.neq {w : World} {K : Value → World → Prop} {X : List PanicEntry → World → Prop} {ox oy : Operand} {a b : SPoint} : DoV Tryd.prog (binS .neq 109 ox oy (.agg a.cells.toArray) (.agg b.cells.toArray)) w K X = K (.bool (!decide (a = b))) w := by
  refine DoV_ok ?_
  have e := SPoint.eq_run 9997 w a b
  simp only [binS, Sem.run_bind, Ty.SPoint_guard, Result.andThen_ok, run_neq_struct]
  rw [e]; rfl
theorem SPoint.of_trod {H : Type} {enc : TypeId × Value → H} {W : World} {fuel : Nat} {cs : List Value} {x : DataW H × List MemPlace} (h : DataW.trod enc Tryd.prog W 0 (fun _ => true) true fuel 109 cs = some x) : ∃ a : SPoint, cs = a.cells ∧ a.Ok := by
  have hcs : cs.length = 2 := by
    obtain ⟨_, _, _, _, hl, _⟩ := DataW.trod_struct Ty.SPoint_und h
    rw [hl]; exact Ty.SPoint_cells
  obtain ⟨m0, y0, g0⟩ := trod_fld Ty.SPoint_und Ty.SPoint_flds h (i := 0) rfl
  rw [Ty.int_cells] at g0
  obtain ⟨m1, y1, g1⟩ := trod_fld Ty.SPoint_und Ty.SPoint_flds h (i := 1) rfl
  rw [Ty.int_cells] at g1
  match cs, hcs with
  | [u0, u1], _ =>
    have g0 : DataW.trod enc Tryd.prog W 0 (fun _ => true) true m0 3 [u0] = some y0 := g0
    obtain ⟨a0, c0, k0⟩ := leaf_int Ty.int g0
    have g1 : DataW.trod enc Tryd.prog W 0 (fun _ => true) true m1 3 [u1] = some y1 := g1
    obtain ⟨a1, c1, k1⟩ := leaf_int Ty.int g1
    refine ⟨⟨a0, a1⟩, ?_, k0, k1⟩
    show [u0] ++ [u1] = [.int .i64 a0] ++ [.int .i64 a1]
    rw [c0, c1]
theorem SPoint.g_x {s : SPoint} {b o : Nat} {w : World} {K : Value → World → Prop} {X0 X1 : List PanicEntry → World → Prop} (h : Has w b o s.cells) : DoV Tryd.prog (Instr.fieldAt 109 (.pointer (some ⟨b, o, none⟩)) 0) w (fun a1 w1 => DoV Tryd.prog (Instr.loadAt 3 a1) w1 K X0) X1 = K (.int .i64 s.x) w := by
  rw [Ty.SPoint_f0, load_cell Ty.int_agg (has_at h (d := 0) (by omega) rfl)]
theorem SPoint.g_y {s : SPoint} {b o : Nat} {w : World} {K : Value → World → Prop} {X0 X1 : List PanicEntry → World → Prop} (h : Has w b o s.cells) : DoV Tryd.prog (Instr.fieldAt 109 (.pointer (some ⟨b, o, none⟩)) 1) w (fun a1 w1 => DoV Tryd.prog (Instr.loadAt 3 a1) w1 K X0) X1 = K (.int .i64 s.y) w := by
  rw [Ty.SPoint_f1, load_cell Ty.int_agg (has_at h (d := 1) (by omega) rfl)]
theorem SPoint.s_x {s : SPoint} {x : Int} {b : Nat} {e : TypeId} {w : World} {K : Value → World → Prop} {X0 X1 : List PanicEntry → World → Prop} (h : At w b (.cells s.cells.toArray e (0, 0))) (hk : ∀ w1, Mod (· = b) w w1 → At w1 b (.cells ({ s with x := x } : SPoint).cells.toArray e (0, 0)) → w1.heap.size = w.heap.size → K undef w1) : DoV Tryd.prog (Instr.fieldAt 109 (.pointer (some ⟨b, 0, none⟩)) 0) w (fun a w1 => DoU Tryd.prog (Instr.storeAt 3 a (.int .i64 x)) w1 K X0) X1 := by
  rw [Ty.SPoint_f0]
  exact store_i (o := 0) Ty.int_size h (by show 0 < 2; omega) rfl hk
theorem SPoint.s_y {s : SPoint} {x : Int} {b : Nat} {e : TypeId} {w : World} {K : Value → World → Prop} {X0 X1 : List PanicEntry → World → Prop} (h : At w b (.cells s.cells.toArray e (0, 0))) (hk : ∀ w1, Mod (· = b) w w1 → At w1 b (.cells ({ s with y := x } : SPoint).cells.toArray e (0, 0)) → w1.heap.size = w.heap.size → K undef w1) : DoV Tryd.prog (Instr.fieldAt 109 (.pointer (some ⟨b, 0, none⟩)) 1) w (fun a w1 => DoU Tryd.prog (Instr.storeAt 3 a (.int .i64 x)) w1 K X0) X1 := by
  rw [Ty.SPoint_f1]
  exact store_i (o := 1) Ty.int_size h (by show 1 < 2; omega) rfl hk
theorem SPoint.g_all {s : SPoint} {b o : Nat} {w : World} {K : Value → World → Prop} {X : List PanicEntry → World → Prop} (h : Has w b o s.cells) : DoV Tryd.prog (Instr.loadAt 109 (.pointer (some ⟨b, o, none⟩))) w K X = K (.agg s.cells.toArray) w := load_arr (n := 2) (xs := s.cells) Ty.SPoint_agg Ty.SPoint_size rfl h
theorem SPoint.set {s r : SPoint} {b : Nat} {e : TypeId} {w : World} {K : Value → World → Prop} {X : List PanicEntry → World → Prop} (h : At w b (.cells r.cells.toArray e (0, 0))) (hk : ∀ w1, Mod (· = b) w w1 → At w1 b (.cells s.cells.toArray e (0, 0)) → w1.heap.size = w.heap.size → K undef w1) : DoU Tryd.prog (Instr.storeAt 109 (.pointer (some ⟨b, 0, none⟩)) (.agg s.cells.toArray)) w K X := store_all (n := 2) Ty.SPoint_size h rfl rfl (by intro u hu; exact SPoint.one s u hu) hk
structure SLog where
  veh : Int
  start : Hdr
  ents : Hdr
instance : Inhabited SLog := ⟨⟨0, ⟨none, 0, 0⟩, ⟨none, 0, 0⟩⟩⟩
def SLog.cells (s : SLog) : List Value := [.int .i64 s.veh] ++ [s.start.val] ++ [s.ents.val]
theorem SLog.cells_eq (s : SLog) : s.cells = [.int .i64 s.veh, s.start.val, s.ents.val] := rfl
theorem SLog.len (s : SLog) : s.cells.length = 3 := rfl
theorem SLog.one (s : SLog) : ∀ u ∈ s.cells, u.oneCell' = true := by
  intro u hu
  rw [SLog.cells_eq] at hu
  simp only [List.mem_cons, List.not_mem_nil, or_false] at hu
  rcases hu with rfl | rfl | rfl <;> rfl
theorem SLog.inj (a b : SLog) (h : a.cells = b.cells) : a = b := by
  rw [SLog.cells_eq, SLog.cells_eq] at h
  simp only [List.cons.injEq, and_true, Value.int.injEq, Value.bool.injEq, u64v, true_and, Hdr.val_inj] at h
  obtain ⟨h0, h1, h2⟩ := h
  obtain ⟨_, _, _⟩ := a
  obtain ⟨_, _, _⟩ := b
  simp only at h0 h1 h2
  subst h0 h1 h2
  rfl
def SLog.Ok (s : SLog) : Prop := I64 s.veh ∧ True ∧ True
def SLog.zero : SLog := ⟨0, ⟨none, 0, 0⟩, ⟨none, 0, 0⟩⟩
namespace Ty
theorem SLog_und : Tryd.prog.underlying 49 = some (.struct (Tryd.prog.fieldsOf 49)) := by kernel_rfl
theorem SLog_agg (w : World) : (isAgg 49).run Tryd.prog w = .ok true w := by kernel_rfl
theorem SLog_size (w : World) : (sizeOf 49).run Tryd.prog w = .ok 3 w := by kernel_rfl
theorem SLog_zero (w : World) : (zeroValue 49).run Tryd.prog w = .ok (.agg SLog.zero.cells.toArray) w := by kernel_rfl
theorem SLog_cells : Tryd.prog.cellsOf 49 = 3 := by kernel_rfl
theorem SLog_info : (Tryd.prog.info? 49).map (fun i => (i.zero, i.size, i.bytes)) = some (some (.agg SLog.zero.cells.toArray), 3, 56) := by kernel_rfl
theorem SLog_f0_run (w : World) (b o : Nat) : (Instr.fieldAt 49 (.pointer (some ⟨b, o, none⟩)) 0).run Tryd.prog w = .ok (.pointer (some ⟨b, o, none⟩)) w := by kernel_rfl
theorem SLog_f0 {b o : Nat} {w : World} {K : Value → World → Prop} {X : List PanicEntry → World → Prop} : DoV Tryd.prog (Instr.fieldAt 49 (.pointer (some ⟨b, o, none⟩)) 0) w K X = K (.pointer (some ⟨b, o, none⟩)) w := DoV_ok (SLog_f0_run w b o)
theorem SLog_f1_run (w : World) (b o : Nat) : (Instr.fieldAt 49 (.pointer (some ⟨b, o, none⟩)) 1).run Tryd.prog w = .ok (.pointer (some ⟨b, o + 1, none⟩)) w := by kernel_rfl
theorem SLog_f1 {b o : Nat} {w : World} {K : Value → World → Prop} {X : List PanicEntry → World → Prop} : DoV Tryd.prog (Instr.fieldAt 49 (.pointer (some ⟨b, o, none⟩)) 1) w K X = K (.pointer (some ⟨b, o + 1, none⟩)) w := DoV_ok (SLog_f1_run w b o)
theorem SLog_f2_run (w : World) (b o : Nat) : (Instr.fieldAt 49 (.pointer (some ⟨b, o, none⟩)) 2).run Tryd.prog w = .ok (.pointer (some ⟨b, o + 2, none⟩)) w := by kernel_rfl
theorem SLog_f2 {b o : Nat} {w : World} {K : Value → World → Prop} {X : List PanicEntry → World → Prop} : DoV Tryd.prog (Instr.fieldAt 49 (.pointer (some ⟨b, o, none⟩)) 2) w K X = K (.pointer (some ⟨b, o + 2, none⟩)) w := DoV_ok (SLog_f2_run w b o)
theorem SLog_flds : (Tryd.prog.fieldsOf 49).toList.map (fun f => (f.type, f.offset, f.name == "_")) = [(3, 0, false), (46, 1, false), (47, 2, false)] := by kernel_rfl
end Ty
theorem SLog.g_veh {s : SLog} {b o : Nat} {w : World} {K : Value → World → Prop} {X0 X1 : List PanicEntry → World → Prop} (h : Has w b o s.cells) : DoV Tryd.prog (Instr.fieldAt 49 (.pointer (some ⟨b, o, none⟩)) 0) w (fun a1 w1 => DoV Tryd.prog (Instr.loadAt 3 a1) w1 K X0) X1 = K (.int .i64 s.veh) w := by
  rw [Ty.SLog_f0, load_cell Ty.int_agg (has_at h (d := 0) (by omega) rfl)]
theorem SLog.g_start {s : SLog} {b o : Nat} {w : World} {K : Value → World → Prop} {X0 X1 : List PanicEntry → World → Prop} (h : Has w b o s.cells) : DoV Tryd.prog (Instr.fieldAt 49 (.pointer (some ⟨b, o, none⟩)) 1) w (fun a1 w1 => DoV Tryd.prog (Instr.loadAt 46 a1) w1 K X0) X1 = K (s.start.val) w := by
  rw [Ty.SLog_f1, load_cell (fun w => show (isAgg 46).run Tryd.prog w = .ok false w by kernel_rfl) (has_at h (d := 1) (by omega) rfl)]
theorem SLog.g_ents {s : SLog} {b o : Nat} {w : World} {K : Value → World → Prop} {X0 X1 : List PanicEntry → World → Prop} (h : Has w b o s.cells) : DoV Tryd.prog (Instr.fieldAt 49 (.pointer (some ⟨b, o, none⟩)) 2) w (fun a1 w1 => DoV Tryd.prog (Instr.loadAt 47 a1) w1 K X0) X1 = K (s.ents.val) w := by
  rw [Ty.SLog_f2, load_cell (fun w => show (isAgg 47).run Tryd.prog w = .ok false w by kernel_rfl) (has_at h (d := 2) (by omega) rfl)]
theorem SLog.s_veh {s : SLog} {x : Int} {b : Nat} {e : TypeId} {w : World} {K : Value → World → Prop} {X0 X1 : List PanicEntry → World → Prop} (h : At w b (.cells s.cells.toArray e (0, 0))) (hk : ∀ w1, Mod (· = b) w w1 → At w1 b (.cells ({ s with veh := x } : SLog).cells.toArray e (0, 0)) → w1.heap.size = w.heap.size → K undef w1) : DoV Tryd.prog (Instr.fieldAt 49 (.pointer (some ⟨b, 0, none⟩)) 0) w (fun a w1 => DoU Tryd.prog (Instr.storeAt 3 a (.int .i64 x)) w1 K X0) X1 := by
  rw [Ty.SLog_f0]
  exact store_i (o := 0) Ty.int_size h (by show 0 < 3; omega) rfl hk
theorem SLog.s_start {s : SLog} {x : Hdr} {b : Nat} {e : TypeId} {w : World} {K : Value → World → Prop} {X0 X1 : List PanicEntry → World → Prop} (h : At w b (.cells s.cells.toArray e (0, 0))) (hk : ∀ w1, Mod (· = b) w w1 → At w1 b (.cells ({ s with start := x } : SLog).cells.toArray e (0, 0)) → w1.heap.size = w.heap.size → K undef w1) : DoV Tryd.prog (Instr.fieldAt 49 (.pointer (some ⟨b, 0, none⟩)) 1) w (fun a w1 => DoU Tryd.prog (Instr.storeAt 46 a (x.val)) w1 K X0) X1 := by
  rw [Ty.SLog_f1]
  exact store_i (o := 1) (fun w => show (sizeOf 46).run Tryd.prog w = .ok 1 w by kernel_rfl) h (by show 1 < 3; omega) rfl hk
theorem SLog.s_ents {s : SLog} {x : Hdr} {b : Nat} {e : TypeId} {w : World} {K : Value → World → Prop} {X0 X1 : List PanicEntry → World → Prop} (h : At w b (.cells s.cells.toArray e (0, 0))) (hk : ∀ w1, Mod (· = b) w w1 → At w1 b (.cells ({ s with ents := x } : SLog).cells.toArray e (0, 0)) → w1.heap.size = w.heap.size → K undef w1) : DoV Tryd.prog (Instr.fieldAt 49 (.pointer (some ⟨b, 0, none⟩)) 2) w (fun a w1 => DoU Tryd.prog (Instr.storeAt 47 a (x.val)) w1 K X0) X1 := by
  rw [Ty.SLog_f2]
  exact store_i (o := 2) (fun w => show (sizeOf 47).run Tryd.prog w = .ok 1 w by kernel_rfl) h (by show 2 < 3; omega) rfl hk
theorem SLog.g_all {s : SLog} {b o : Nat} {w : World} {K : Value → World → Prop} {X : List PanicEntry → World → Prop} (h : Has w b o s.cells) : DoV Tryd.prog (Instr.loadAt 49 (.pointer (some ⟨b, o, none⟩))) w K X = K (.agg s.cells.toArray) w := load_arr (n := 3) (xs := s.cells) Ty.SLog_agg Ty.SLog_size rfl h
theorem SLog.set {s r : SLog} {b : Nat} {e : TypeId} {w : World} {K : Value → World → Prop} {X : List PanicEntry → World → Prop} (h : At w b (.cells r.cells.toArray e (0, 0))) (hk : ∀ w1, Mod (· = b) w w1 → At w1 b (.cells s.cells.toArray e (0, 0)) → w1.heap.size = w.heap.size → K undef w1) : DoU Tryd.prog (Instr.storeAt 49 (.pointer (some ⟨b, 0, none⟩)) (.agg s.cells.toArray)) w K X := store_all (n := 3) Ty.SLog_size h rfl rfl (by intro u hu; exact SLog.one s u hu) hk
structure SReport where
  veh : Int
  first : Int
  ents : Hdr
  before : BitVec 64
  chain : BitVec 64
  sig : SSig
instance : Inhabited SReport := ⟨⟨0, 0, ⟨none, 0, 0⟩, 0, 0, ⟨0, 0⟩⟩⟩
def SReport.cells (s : SReport) : List Value := [.int .i64 s.veh] ++ [.int .i64 s.first] ++ [s.ents.val] ++ [u64v s.before] ++ [u64v s.chain] ++ s.sig.cells
theorem SReport.cells_eq (s : SReport) : s.cells = [.int .i64 s.veh, .int .i64 s.first, s.ents.val, u64v s.before, u64v s.chain, .int .i64 s.sig.e, .int .i64 s.sig.s] := rfl
theorem SReport.len (s : SReport) : s.cells.length = 7 := rfl
theorem SReport.one (s : SReport) : ∀ u ∈ s.cells, u.oneCell' = true := by
  intro u hu
  rw [SReport.cells_eq] at hu
  simp only [List.mem_cons, List.not_mem_nil, or_false] at hu
  rcases hu with rfl | rfl | rfl | rfl | rfl | rfl | rfl <;> rfl
theorem SReport.inj (a b : SReport) (h : a.cells = b.cells) : a = b := by
  rw [SReport.cells_eq, SReport.cells_eq] at h
  simp only [List.cons.injEq, and_true, Value.int.injEq, Value.bool.injEq, u64v, true_and, Hdr.val_inj] at h
  obtain ⟨h0, h1, h2, h3, h4, h5, h6⟩ := h
  replace h3 : a.before = b.before := BitVec.eq_of_toNat_eq (by omega)
  replace h4 : a.chain = b.chain := BitVec.eq_of_toNat_eq (by omega)
  obtain ⟨_, _, _, _, _, ⟨_, _⟩⟩ := a
  obtain ⟨_, _, _, _, _, ⟨_, _⟩⟩ := b
  simp only at h0 h1 h2 h3 h4 h5 h6
  subst h0 h1 h2 h3 h4 h5 h6
  rfl
def SReport.Ok (s : SReport) : Prop := I64 s.veh ∧ I64 s.first ∧ True ∧ True ∧ True ∧ s.sig.Ok
def SReport.zero : SReport := ⟨0, 0, ⟨none, 0, 0⟩, 0, 0, ⟨0, 0⟩⟩
namespace Ty
theorem SReport_und : Tryd.prog.underlying 51 = some (.struct (Tryd.prog.fieldsOf 51)) := by kernel_rfl
theorem SReport_agg (w : World) : (isAgg 51).run Tryd.prog w = .ok true w := by kernel_rfl
theorem SReport_size (w : World) : (sizeOf 51).run Tryd.prog w = .ok 7 w := by kernel_rfl
theorem SReport_zero (w : World) : (zeroValue 51).run Tryd.prog w = .ok (.agg SReport.zero.cells.toArray) w := by kernel_rfl
theorem SReport_cells : Tryd.prog.cellsOf 51 = 7 := by kernel_rfl
theorem SReport_info : (Tryd.prog.info? 51).map (fun i => (i.zero, i.size, i.bytes)) = some (some (.agg SReport.zero.cells.toArray), 7, 72) := by kernel_rfl
theorem SReport_f0_run (w : World) (b o : Nat) : (Instr.fieldAt 51 (.pointer (some ⟨b, o, none⟩)) 0).run Tryd.prog w = .ok (.pointer (some ⟨b, o, none⟩)) w := by kernel_rfl
theorem SReport_f0 {b o : Nat} {w : World} {K : Value → World → Prop} {X : List PanicEntry → World → Prop} : DoV Tryd.prog (Instr.fieldAt 51 (.pointer (some ⟨b, o, none⟩)) 0) w K X = K (.pointer (some ⟨b, o, none⟩)) w := DoV_ok (SReport_f0_run w b o)
theorem SReport_f1_run (w : World) (b o : Nat) : (Instr.fieldAt 51 (.pointer (some ⟨b, o, none⟩)) 1).run Tryd.prog w = .ok (.pointer (some ⟨b, o + 1, none⟩)) w := by kernel_rfl
theorem SReport_f1 {b o : Nat} {w : World} {K : Value → World → Prop} {X : List PanicEntry → World → Prop} : DoV Tryd.prog (Instr.fieldAt 51 (.pointer (some ⟨b, o, none⟩)) 1) w K X = K (.pointer (some ⟨b, o + 1, none⟩)) w := DoV_ok (SReport_f1_run w b o)
theorem SReport_f2_run (w : World) (b o : Nat) : (Instr.fieldAt 51 (.pointer (some ⟨b, o, none⟩)) 2).run Tryd.prog w = .ok (.pointer (some ⟨b, o + 2, none⟩)) w := by kernel_rfl
theorem SReport_f2 {b o : Nat} {w : World} {K : Value → World → Prop} {X : List PanicEntry → World → Prop} : DoV Tryd.prog (Instr.fieldAt 51 (.pointer (some ⟨b, o, none⟩)) 2) w K X = K (.pointer (some ⟨b, o + 2, none⟩)) w := DoV_ok (SReport_f2_run w b o)
theorem SReport_f3_run (w : World) (b o : Nat) : (Instr.fieldAt 51 (.pointer (some ⟨b, o, none⟩)) 3).run Tryd.prog w = .ok (.pointer (some ⟨b, o + 3, none⟩)) w := by kernel_rfl
theorem SReport_f3 {b o : Nat} {w : World} {K : Value → World → Prop} {X : List PanicEntry → World → Prop} : DoV Tryd.prog (Instr.fieldAt 51 (.pointer (some ⟨b, o, none⟩)) 3) w K X = K (.pointer (some ⟨b, o + 3, none⟩)) w := DoV_ok (SReport_f3_run w b o)
theorem SReport_f4_run (w : World) (b o : Nat) : (Instr.fieldAt 51 (.pointer (some ⟨b, o, none⟩)) 4).run Tryd.prog w = .ok (.pointer (some ⟨b, o + 4, none⟩)) w := by kernel_rfl
theorem SReport_f4 {b o : Nat} {w : World} {K : Value → World → Prop} {X : List PanicEntry → World → Prop} : DoV Tryd.prog (Instr.fieldAt 51 (.pointer (some ⟨b, o, none⟩)) 4) w K X = K (.pointer (some ⟨b, o + 4, none⟩)) w := DoV_ok (SReport_f4_run w b o)
theorem SReport_f5_run (w : World) (b o : Nat) : (Instr.fieldAt 51 (.pointer (some ⟨b, o, none⟩)) 5).run Tryd.prog w = .ok (.pointer (some ⟨b, o + 5, none⟩)) w := by kernel_rfl
theorem SReport_f5 {b o : Nat} {w : World} {K : Value → World → Prop} {X : List PanicEntry → World → Prop} : DoV Tryd.prog (Instr.fieldAt 51 (.pointer (some ⟨b, o, none⟩)) 5) w K X = K (.pointer (some ⟨b, o + 5, none⟩)) w := DoV_ok (SReport_f5_run w b o)
theorem SReport_flds : (Tryd.prog.fieldsOf 51).toList.map (fun f => (f.type, f.offset, f.name == "_")) = [(3, 0, false), (3, 1, false), (47, 2, false), (39, 3, false), (39, 4, false), (23, 5, false)] := by kernel_rfl
end Ty
theorem SReport.g_veh {s : SReport} {b o : Nat} {w : World} {K : Value → World → Prop} {X0 X1 : List PanicEntry → World → Prop} (h : Has w b o s.cells) : DoV Tryd.prog (Instr.fieldAt 51 (.pointer (some ⟨b, o, none⟩)) 0) w (fun a1 w1 => DoV Tryd.prog (Instr.loadAt 3 a1) w1 K X0) X1 = K (.int .i64 s.veh) w := by
  rw [Ty.SReport_f0, load_cell Ty.int_agg (has_at h (d := 0) (by omega) rfl)]
theorem SReport.g_first {s : SReport} {b o : Nat} {w : World} {K : Value → World → Prop} {X0 X1 : List PanicEntry → World → Prop} (h : Has w b o s.cells) : DoV Tryd.prog (Instr.fieldAt 51 (.pointer (some ⟨b, o, none⟩)) 1) w (fun a1 w1 => DoV Tryd.prog (Instr.loadAt 3 a1) w1 K X0) X1 = K (.int .i64 s.first) w := by
  rw [Ty.SReport_f1, load_cell Ty.int_agg (has_at h (d := 1) (by omega) rfl)]
theorem SReport.g_ents {s : SReport} {b o : Nat} {w : World} {K : Value → World → Prop} {X0 X1 : List PanicEntry → World → Prop} (h : Has w b o s.cells) : DoV Tryd.prog (Instr.fieldAt 51 (.pointer (some ⟨b, o, none⟩)) 2) w (fun a1 w1 => DoV Tryd.prog (Instr.loadAt 47 a1) w1 K X0) X1 = K (s.ents.val) w := by
  rw [Ty.SReport_f2, load_cell (fun w => show (isAgg 47).run Tryd.prog w = .ok false w by kernel_rfl) (has_at h (d := 2) (by omega) rfl)]
theorem SReport.g_before {s : SReport} {b o : Nat} {w : World} {K : Value → World → Prop} {X0 X1 : List PanicEntry → World → Prop} (h : Has w b o s.cells) : DoV Tryd.prog (Instr.fieldAt 51 (.pointer (some ⟨b, o, none⟩)) 3) w (fun a1 w1 => DoV Tryd.prog (Instr.loadAt 39 a1) w1 K X0) X1 = K (u64v s.before) w := by
  rw [Ty.SReport_f3, load_cell Ty.u64_agg (has_at h (d := 3) (by omega) rfl)]
theorem SReport.g_chain {s : SReport} {b o : Nat} {w : World} {K : Value → World → Prop} {X0 X1 : List PanicEntry → World → Prop} (h : Has w b o s.cells) : DoV Tryd.prog (Instr.fieldAt 51 (.pointer (some ⟨b, o, none⟩)) 4) w (fun a1 w1 => DoV Tryd.prog (Instr.loadAt 39 a1) w1 K X0) X1 = K (u64v s.chain) w := by
  rw [Ty.SReport_f4, load_cell Ty.u64_agg (has_at h (d := 4) (by omega) rfl)]
theorem SReport.g_sig {s : SReport} {b o : Nat} {w : World} {K : Value → World → Prop} {X0 X1 : List PanicEntry → World → Prop} (h : Has w b o s.cells) : DoV Tryd.prog (Instr.fieldAt 51 (.pointer (some ⟨b, o, none⟩)) 5) w (fun a1 w1 => DoV Tryd.prog (Instr.loadAt 23 a1) w1 K X0) X1 = K (.agg s.sig.cells.toArray) w := by
  rw [Ty.SReport_f5, load_arr (n := 2) (xs := s.sig.cells) Ty.SSig_agg Ty.SSig_size rfl (fun j u hu => has_part h (d := 5) (n := 2) (xs := s.sig.cells) (by omega) rfl hu)]
theorem SReport.g_sig_e {s : SReport} {b o : Nat} {w : World} {K : Value → World → Prop} {X0 X1 X2 : List PanicEntry → World → Prop} (h : Has w b o s.cells) : DoV Tryd.prog (Instr.fieldAt 51 (.pointer (some ⟨b, o, none⟩)) 5) w (fun a1 w1 => DoV Tryd.prog (Instr.fieldAt 23 a1 0) w1 (fun a2 w2 => DoV Tryd.prog (Instr.loadAt 3 a2) w2 K X0) X2) X1 = K (.int .i64 s.sig.e) w := by
  rw [Ty.SReport_f5, Ty.SSig_f0, load_cell Ty.int_agg (has_at h (d := 5) (by omega) rfl)]
theorem SReport.g_sig_s {s : SReport} {b o : Nat} {w : World} {K : Value → World → Prop} {X0 X1 X2 : List PanicEntry → World → Prop} (h : Has w b o s.cells) : DoV Tryd.prog (Instr.fieldAt 51 (.pointer (some ⟨b, o, none⟩)) 5) w (fun a1 w1 => DoV Tryd.prog (Instr.fieldAt 23 a1 1) w1 (fun a2 w2 => DoV Tryd.prog (Instr.loadAt 3 a2) w2 K X0) X2) X1 = K (.int .i64 s.sig.s) w := by
  rw [Ty.SReport_f5, Ty.SSig_f1, load_cell Ty.int_agg (has_at h (d := 6) (by omega) rfl)]
theorem SReport.s_veh {s : SReport} {x : Int} {b : Nat} {e : TypeId} {w : World} {K : Value → World → Prop} {X0 X1 : List PanicEntry → World → Prop} (h : At w b (.cells s.cells.toArray e (0, 0))) (hk : ∀ w1, Mod (· = b) w w1 → At w1 b (.cells ({ s with veh := x } : SReport).cells.toArray e (0, 0)) → w1.heap.size = w.heap.size → K undef w1) : DoV Tryd.prog (Instr.fieldAt 51 (.pointer (some ⟨b, 0, none⟩)) 0) w (fun a w1 => DoU Tryd.prog (Instr.storeAt 3 a (.int .i64 x)) w1 K X0) X1 := by
  rw [Ty.SReport_f0]
  exact store_i (o := 0) Ty.int_size h (by show 0 < 7; omega) rfl hk
theorem SReport.s_first {s : SReport} {x : Int} {b : Nat} {e : TypeId} {w : World} {K : Value → World → Prop} {X0 X1 : List PanicEntry → World → Prop} (h : At w b (.cells s.cells.toArray e (0, 0))) (hk : ∀ w1, Mod (· = b) w w1 → At w1 b (.cells ({ s with first := x } : SReport).cells.toArray e (0, 0)) → w1.heap.size = w.heap.size → K undef w1) : DoV Tryd.prog (Instr.fieldAt 51 (.pointer (some ⟨b, 0, none⟩)) 1) w (fun a w1 => DoU Tryd.prog (Instr.storeAt 3 a (.int .i64 x)) w1 K X0) X1 := by
  rw [Ty.SReport_f1]
  exact store_i (o := 1) Ty.int_size h (by show 1 < 7; omega) rfl hk
theorem SReport.s_ents {s : SReport} {x : Hdr} {b : Nat} {e : TypeId} {w : World} {K : Value → World → Prop} {X0 X1 : List PanicEntry → World → Prop} (h : At w b (.cells s.cells.toArray e (0, 0))) (hk : ∀ w1, Mod (· = b) w w1 → At w1 b (.cells ({ s with ents := x } : SReport).cells.toArray e (0, 0)) → w1.heap.size = w.heap.size → K undef w1) : DoV Tryd.prog (Instr.fieldAt 51 (.pointer (some ⟨b, 0, none⟩)) 2) w (fun a w1 => DoU Tryd.prog (Instr.storeAt 47 a (x.val)) w1 K X0) X1 := by
  rw [Ty.SReport_f2]
  exact store_i (o := 2) (fun w => show (sizeOf 47).run Tryd.prog w = .ok 1 w by kernel_rfl) h (by show 2 < 7; omega) rfl hk
theorem SReport.s_before {s : SReport} {x : BitVec 64} {b : Nat} {e : TypeId} {w : World} {K : Value → World → Prop} {X0 X1 : List PanicEntry → World → Prop} (h : At w b (.cells s.cells.toArray e (0, 0))) (hk : ∀ w1, Mod (· = b) w w1 → At w1 b (.cells ({ s with before := x } : SReport).cells.toArray e (0, 0)) → w1.heap.size = w.heap.size → K undef w1) : DoV Tryd.prog (Instr.fieldAt 51 (.pointer (some ⟨b, 0, none⟩)) 3) w (fun a w1 => DoU Tryd.prog (Instr.storeAt 39 a (u64v x)) w1 K X0) X1 := by
  rw [Ty.SReport_f3]
  exact store_i (o := 3) Ty.u64_size h (by show 3 < 7; omega) rfl hk
theorem SReport.s_chain {s : SReport} {x : BitVec 64} {b : Nat} {e : TypeId} {w : World} {K : Value → World → Prop} {X0 X1 : List PanicEntry → World → Prop} (h : At w b (.cells s.cells.toArray e (0, 0))) (hk : ∀ w1, Mod (· = b) w w1 → At w1 b (.cells ({ s with chain := x } : SReport).cells.toArray e (0, 0)) → w1.heap.size = w.heap.size → K undef w1) : DoV Tryd.prog (Instr.fieldAt 51 (.pointer (some ⟨b, 0, none⟩)) 4) w (fun a w1 => DoU Tryd.prog (Instr.storeAt 39 a (u64v x)) w1 K X0) X1 := by
  rw [Ty.SReport_f4]
  exact store_i (o := 4) Ty.u64_size h (by show 4 < 7; omega) rfl hk
theorem SReport.s_sig {s : SReport} {x : SSig} {b : Nat} {e : TypeId} {w : World} {K : Value → World → Prop} {X0 X1 : List PanicEntry → World → Prop} (h : At w b (.cells s.cells.toArray e (0, 0))) (hk : ∀ w1, Mod (· = b) w w1 → At w1 b (.cells ({ s with sig := x } : SReport).cells.toArray e (0, 0)) → w1.heap.size = w.heap.size → K undef w1) : DoV Tryd.prog (Instr.fieldAt 51 (.pointer (some ⟨b, 0, none⟩)) 5) w (fun a w1 => DoU Tryd.prog (Instr.storeAt 23 a (.agg x.cells.toArray)) w1 K X0) X1 := by
  rw [Ty.SReport_f5]
  exact store_part (o := 5) (n := 2) Ty.SSig_size h (by show 5 + 2 ≤ 7; omega) rfl (by intro u hu; exact SSig.one x u hu) hk
theorem SReport.g_all {s : SReport} {b o : Nat} {w : World} {K : Value → World → Prop} {X : List PanicEntry → World → Prop} (h : Has w b o s.cells) : DoV Tryd.prog (Instr.loadAt 51 (.pointer (some ⟨b, o, none⟩))) w K X = K (.agg s.cells.toArray) w := load_arr (n := 7) (xs := s.cells) Ty.SReport_agg Ty.SReport_size rfl h
theorem SReport.set {s r : SReport} {b : Nat} {e : TypeId} {w : World} {K : Value → World → Prop} {X : List PanicEntry → World → Prop} (h : At w b (.cells r.cells.toArray e (0, 0))) (hk : ∀ w1, Mod (· = b) w w1 → At w1 b (.cells s.cells.toArray e (0, 0)) → w1.heap.size = w.heap.size → K undef w1) : DoU Tryd.prog (Instr.storeAt 51 (.pointer (some ⟨b, 0, none⟩)) (.agg s.cells.toArray)) w K X := store_all (n := 7) Ty.SReport_size h rfl rfl (by intro u hu; exact SReport.one s u hu) hk
end Go.Proofs.YtjinhojlnaplaaaDoor
