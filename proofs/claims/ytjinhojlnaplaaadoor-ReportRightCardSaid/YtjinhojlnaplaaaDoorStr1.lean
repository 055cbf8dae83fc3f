/- WRITTEN BY structs.py: flat structs of the program: SSpan, SEntry, SRecord. -/
import Derived.Test.YtjinhojlnaplaaaDoorEqs
namespace Go.Proofs.YtjinhojlnaplaaaDoor
open Sh Go.RowKit Go.WideShapes Go.ChangeShapes
set_option maxRecDepth 100000
structure SSpan where
  lo : Int
  hi : Int
deriving DecidableEq
instance : Inhabited SSpan := ⟨⟨0, 0⟩⟩
def SSpan.cells (s : SSpan) : List Value := [.int .i64 s.lo] ++ [.int .i64 s.hi]
theorem SSpan.cells_eq (s : SSpan) : s.cells = [.int .i64 s.lo, .int .i64 s.hi] := rfl
theorem SSpan.len (s : SSpan) : s.cells.length = 2 := rfl
theorem SSpan.one (s : SSpan) : ∀ u ∈ s.cells, u.oneCell' = true := by
  intro u hu
  rw [SSpan.cells_eq] at hu
  simp only [List.mem_cons, List.not_mem_nil, or_false] at hu
  rcases hu with rfl | rfl <;> rfl
theorem SSpan.inj (a b : SSpan) (h : a.cells = b.cells) : a = b := by
  rw [SSpan.cells_eq, SSpan.cells_eq] at h
  simp only [List.cons.injEq, and_true, Value.int.injEq, Value.bool.injEq, u64v, true_and] at h
  obtain ⟨h0, h1⟩ := h
  obtain ⟨_, _⟩ := a
  obtain ⟨_, _⟩ := b
  simp only at h0 h1
  subst h0 h1
  rfl
def SSpan.Ok (s : SSpan) : Prop := I64 s.lo ∧ I64 s.hi
def SSpan.zero : SSpan := ⟨0, 0⟩
namespace Ty
theorem SSpan_und : Tryd.prog.underlying 62 = some (.struct (Tryd.prog.fieldsOf 62)) := by kernel_rfl
theorem SSpan_agg (w : World) : (isAgg 62).run Tryd.prog w = .ok true w := by kernel_rfl
theorem SSpan_size (w : World) : (sizeOf 62).run Tryd.prog w = .ok 2 w := by kernel_rfl
theorem SSpan_zero (w : World) : (zeroValue 62).run Tryd.prog w = .ok (.agg SSpan.zero.cells.toArray) w := by kernel_rfl
theorem SSpan_cells : Tryd.prog.cellsOf 62 = 2 := by kernel_rfl
theorem SSpan_info : (Tryd.prog.info? 62).map (fun i => (i.zero, i.size, i.bytes)) = some (some (.agg SSpan.zero.cells.toArray), 2, 16) := by kernel_rfl
theorem SSpan_f0_run (w : World) (b o : Nat) : (Instr.fieldAt 62 (.pointer (some ⟨b, o, none⟩)) 0).run Tryd.prog w = .ok (.pointer (some ⟨b, o, none⟩)) w := by kernel_rfl
theorem SSpan_f0 {b o : Nat} {w : World} {K : Value → World → Prop} {X : List PanicEntry → World → Prop} : DoV Tryd.prog (Instr.fieldAt 62 (.pointer (some ⟨b, o, none⟩)) 0) w K X = K (.pointer (some ⟨b, o, none⟩)) w := DoV_ok (SSpan_f0_run w b o)
theorem SSpan_f1_run (w : World) (b o : Nat) : (Instr.fieldAt 62 (.pointer (some ⟨b, o, none⟩)) 1).run Tryd.prog w = .ok (.pointer (some ⟨b, o + 1, none⟩)) w := by kernel_rfl
theorem SSpan_f1 {b o : Nat} {w : World} {K : Value → World → Prop} {X : List PanicEntry → World → Prop} : DoV Tryd.prog (Instr.fieldAt 62 (.pointer (some ⟨b, o, none⟩)) 1) w K X = K (.pointer (some ⟨b, o + 1, none⟩)) w := DoV_ok (SSpan_f1_run w b o)
theorem SSpan_flds : (Tryd.prog.fieldsOf 62).toList.map (fun f => (f.type, f.offset, f.name == "_")) = [(3, 0, false), (3, 1, false)] := by kernel_rfl
theorem SSpan_stood : Tryd.prog.stoodInHeld 62 = false := by kernel_rfl
theorem SSpan_guard (w : World) (op : BinOp) (ox oy : Operand) (x y : Array Value) : (eqGuard op 62 ox oy (.agg x) (.agg y)).run Tryd.prog w = .ok () w := run_eqGuard_agg w op 62 ox oy x y (by kernel_rfl)
end Ty
theorem SSpan.eq_run (d : Nat) (w : World) (a b : SSpan) : (Op.equalIn (d + 3) 62 (.agg a.cells.toArray) (.agg b.cells.toArray)).run Tryd.prog w = .ok (decide (a = b)) w := by
  rw [show d + 3 = (d + 2) + 1 from rfl, run_equalIn_agg w (d + 2) _ _ _ Ty.SSpan_und Ty.SSpan_stood]
  rw [eqFlds Ty.SSpan_flds (by decide)]
  have p0 : ∀ (c : SSpan) (w : World), (part 3 c.cells.toArray 0).run Tryd.prog w = .ok (.int .i64 c.lo) w := fun c w => part_one Ty.int_agg rfl
  have q0 : ∀ (w : World), (Op.equalIn (d + 2) 3 (.int .i64 a.lo) (.int .i64 b.lo)).run Tryd.prog w = .ok (decide (a.lo = b.lo)) w := fun w => eq_int Ty.int
  have p1 : ∀ (c : SSpan) (w : World), (part 3 c.cells.toArray 1).run Tryd.prog w = .ok (.int .i64 c.hi) w := fun c w => part_one Ty.int_agg rfl
  have q1 : ∀ (w : World), (Op.equalIn (d + 2) 3 (.int .i64 a.hi) (.int .i64 b.hi)).run Tryd.prog w = .ok (decide (a.hi = b.hi)) w := fun w => eq_int Ty.int
  have e : (a = b) ↔ (a.lo = b.lo ∧ a.hi = b.hi) := by
    constructor
    · rintro rfl; simp
    · rintro ⟨h0, h1⟩
      cases a; cases b; simp only at h0 h1; subst h0 h1; rfl
  rw [eqList_cons (p0 a) (p0 b) q0 (eqList_cons (p1 a) (p1 b) q1 eqList_nil) w]
  congr 1
  rw [Bool.eq_iff_iff]
  simp only [Bool.and_eq_true, decide_eq_true_eq, and_true, e]
theorem SSpan.eql {w : World} {K : Value → World → Prop} {X : List PanicEntry → World → Prop} {ox oy : Operand} {a b : SSpan} : DoV Tryd.prog (binS .eql 62 ox oy (.agg a.cells.toArray) (.agg b.cells.toArray)) w K X = K (.bool (decide (a = b))) w := by
  refine DoV_ok ?_
  have e := SSpan.eq_run 9997 w a b
  simp only [binS, Sem.run_bind, Ty.SSpan_guard, Result.andThen_ok, run_eql_struct]
  rw [e]; rfl
theorem SSpan.neq {w : World} {K : Value → World → Prop} {X : List PanicEntry → World → Prop} {ox oy : Operand} {a b : SSpan} : DoV Tryd.prog (binS .neq 62 ox oy (.agg a.cells.toArray) (.agg b.cells.toArray)) w K X = K (.bool (!decide (a = b))) w := by
  refine DoV_ok ?_
  have e := SSpan.eq_run 9997 w a b
  simp only [binS, Sem.run_bind, Ty.SSpan_guard, Result.andThen_ok, run_neq_struct]
  rw [e]; rfl
theorem SSpan.of_trod {H : Type} {enc : TypeId × Value → H} {W : World} {fuel : Nat} {cs : List Value} {x : DataW H × List MemPlace} (h : DataW.trod enc Tryd.prog W 0 (fun _ => true) true fuel 62 cs = some x) : ∃ a : SSpan, cs = a.cells ∧ a.Ok := by
  have hcs : cs.length = 2 := by
    obtain ⟨_, _, _, _, hl, _⟩ := DataW.trod_struct Ty.SSpan_und h
    rw [hl]; exact Ty.SSpan_cells
  obtain ⟨m0, y0, g0⟩ := trod_fld Ty.SSpan_und Ty.SSpan_flds h (i := 0) rfl
  rw [Ty.int_cells] at g0
  obtain ⟨m1, y1, g1⟩ := trod_fld Ty.SSpan_und Ty.SSpan_flds h (i := 1) rfl
  rw [Ty.int_cells] at g1
  match cs, hcs with
  | [u0, u1], _ =>
    have g0 : DataW.trod enc Tryd.prog W 0 (fun _ => true) true m0 3 [u0] = some y0 := g0
    obtain ⟨a0, c0, k0⟩ := leaf_int Ty.int g0
    have g1 : DataW.trod enc Tryd.prog W 0 (fun _ => true) true m1 3 [u1] = some y1 := g1
    obtain ⟨a1, c1, k1⟩ := leaf_int Ty.int g1
    refine ⟨⟨a0, a1⟩, ?_, k0, k1⟩
    show [u0] ++ [u1] = [.int .i64 a0] ++ [.int .i64 a1]
    rw [c0, c1]
theorem SSpan.g_lo {s : SSpan} {b o : Nat} {w : World} {K : Value → World → Prop} {X0 X1 : List PanicEntry → World → Prop} (h : Has w b o s.cells) : DoV Tryd.prog (Instr.fieldAt 62 (.pointer (some ⟨b, o, none⟩)) 0) w (fun a1 w1 => DoV Tryd.prog (Instr.loadAt 3 a1) w1 K X0) X1 = K (.int .i64 s.lo) w := by
  rw [Ty.SSpan_f0, load_cell Ty.int_agg (has_at h (d := 0) (by omega) rfl)]
theorem SSpan.g_hi {s : SSpan} {b o : Nat} {w : World} {K : Value → World → Prop} {X0 X1 : List PanicEntry → World → Prop} (h : Has w b o s.cells) : DoV Tryd.prog (Instr.fieldAt 62 (.pointer (some ⟨b, o, none⟩)) 1) w (fun a1 w1 => DoV Tryd.prog (Instr.loadAt 3 a1) w1 K X0) X1 = K (.int .i64 s.hi) w := by
  rw [Ty.SSpan_f1, load_cell Ty.int_agg (has_at h (d := 1) (by omega) rfl)]
theorem SSpan.g_all {s : SSpan} {b o : Nat} {w : World} {K : Value → World → Prop} {X : List PanicEntry → World → Prop} (h : Has w b o s.cells) : DoV Tryd.prog (Instr.loadAt 62 (.pointer (some ⟨b, o, none⟩))) w K X = K (.agg s.cells.toArray) w := load_arr (n := 2) (xs := s.cells) Ty.SSpan_agg Ty.SSpan_size rfl h
theorem SSpan.set {s r : SSpan} {b : Nat} {e : TypeId} {w : World} {K : Value → World → Prop} {X : List PanicEntry → World → Prop} (h : At w b (.cells r.cells.toArray e (0, 0))) (hk : ∀ w1, Mod (· = b) w w1 → At w1 b (.cells s.cells.toArray e (0, 0)) → w1.heap.size = w.heap.size → K undef w1) : DoU Tryd.prog (Instr.storeAt 62 (.pointer (some ⟨b, 0, none⟩)) (.agg s.cells.toArray)) w K X := store_all (n := 2) Ty.SSpan_size h rfl rfl (by intro u hu; exact SSpan.one s u hu) hk
structure SEntry where
  seq : Int
  time : Int
  kind : Int
  sensor : Int
  ref : Int
  a : Int
  n : Int
  value : SSpan
  temp : Int
  age : Int
  since : Int
deriving DecidableEq
instance : Inhabited SEntry := ⟨⟨0, 0, 0, 0, 0, 0, 0, ⟨0, 0⟩, 0, 0, 0⟩⟩
def SEntry.cells (s : SEntry) : List Value := [.int .i64 s.seq] ++ [.int .i64 s.time] ++ [.int .i64 s.kind] ++ [.int .i64 s.sensor] ++ [.int .i64 s.ref] ++ [.int .i64 s.a] ++ [.int .i64 s.n] ++ s.value.cells ++ [.int .i64 s.temp] ++ [.int .i64 s.age] ++ [.int .i64 s.since]
theorem SEntry.cells_eq (s : SEntry) : s.cells = [.int .i64 s.seq, .int .i64 s.time, .int .i64 s.kind, .int .i64 s.sensor, .int .i64 s.ref, .int .i64 s.a, .int .i64 s.n, .int .i64 s.value.lo, .int .i64 s.value.hi, .int .i64 s.temp, .int .i64 s.age, .int .i64 s.since] := rfl
theorem SEntry.len (s : SEntry) : s.cells.length = 12 := rfl
theorem SEntry.one (s : SEntry) : ∀ u ∈ s.cells, u.oneCell' = true := by
  intro u hu
  rw [SEntry.cells_eq] at hu
  simp only [List.mem_cons, List.not_mem_nil, or_false] at hu
  rcases hu with rfl | rfl | rfl | rfl | rfl | rfl | rfl | rfl | rfl | rfl | rfl | rfl <;> rfl
theorem SEntry.inj (a b : SEntry) (h : a.cells = b.cells) : a = b := by
  rw [SEntry.cells_eq, SEntry.cells_eq] at h
  simp only [List.cons.injEq, and_true, Value.int.injEq, Value.bool.injEq, u64v, true_and] at h
  obtain ⟨h0, h1, h2, h3, h4, h5, h6, h7, h8, h9, h10, h11⟩ := h
  obtain ⟨_, _, _, _, _, _, _, ⟨_, _⟩, _, _, _⟩ := a
  obtain ⟨_, _, _, _, _, _, _, ⟨_, _⟩, _, _, _⟩ := b
  simp only at h0 h1 h2 h3 h4 h5 h6 h7 h8 h9 h10 h11
  subst h0 h1 h2 h3 h4 h5 h6 h7 h8 h9 h10 h11
  rfl
def SEntry.Ok (s : SEntry) : Prop := I64 s.seq ∧ I64 s.time ∧ I64 s.kind ∧ I64 s.sensor ∧ I64 s.ref ∧ I64 s.a ∧ I64 s.n ∧ s.value.Ok ∧ I64 s.temp ∧ I64 s.age ∧ I64 s.since
def SEntry.zero : SEntry := ⟨0, 0, 0, 0, 0, 0, 0, ⟨0, 0⟩, 0, 0, 0⟩
namespace Ty
theorem SEntry_und : Tryd.prog.underlying 64 = some (.struct (Tryd.prog.fieldsOf 64)) := by kernel_rfl
theorem SEntry_agg (w : World) : (isAgg 64).run Tryd.prog w = .ok true w := by kernel_rfl
theorem SEntry_size (w : World) : (sizeOf 64).run Tryd.prog w = .ok 12 w := by kernel_rfl
theorem SEntry_zero (w : World) : (zeroValue 64).run Tryd.prog w = .ok (.agg SEntry.zero.cells.toArray) w := by kernel_rfl
theorem SEntry_cells : Tryd.prog.cellsOf 64 = 12 := by kernel_rfl
theorem SEntry_info : (Tryd.prog.info? 64).map (fun i => (i.zero, i.size, i.bytes)) = some (some (.agg SEntry.zero.cells.toArray), 12, 96) := by kernel_rfl
theorem SEntry_f0_run (w : World) (b o : Nat) : (Instr.fieldAt 64 (.pointer (some ⟨b, o, none⟩)) 0).run Tryd.prog w = .ok (.pointer (some ⟨b, o, none⟩)) w := by kernel_rfl
theorem SEntry_f0 {b o : Nat} {w : World} {K : Value → World → Prop} {X : List PanicEntry → World → Prop} : DoV Tryd.prog (Instr.fieldAt 64 (.pointer (some ⟨b, o, none⟩)) 0) w K X = K (.pointer (some ⟨b, o, none⟩)) w := DoV_ok (SEntry_f0_run w b o)
theorem SEntry_f1_run (w : World) (b o : Nat) : (Instr.fieldAt 64 (.pointer (some ⟨b, o, none⟩)) 1).run Tryd.prog w = .ok (.pointer (some ⟨b, o + 1, none⟩)) w := by kernel_rfl
theorem SEntry_f1 {b o : Nat} {w : World} {K : Value → World → Prop} {X : List PanicEntry → World → Prop} : DoV Tryd.prog (Instr.fieldAt 64 (.pointer (some ⟨b, o, none⟩)) 1) w K X = K (.pointer (some ⟨b, o + 1, none⟩)) w := DoV_ok (SEntry_f1_run w b o)
theorem SEntry_f2_run (w : World) (b o : Nat) : (Instr.fieldAt 64 (.pointer (some ⟨b, o, none⟩)) 2).run Tryd.prog w = .ok (.pointer (some ⟨b, o + 2, none⟩)) w := by kernel_rfl
theorem SEntry_f2 {b o : Nat} {w : World} {K : Value → World → Prop} {X : List PanicEntry → World → Prop} : DoV Tryd.prog (Instr.fieldAt 64 (.pointer (some ⟨b, o, none⟩)) 2) w K X = K (.pointer (some ⟨b, o + 2, none⟩)) w := DoV_ok (SEntry_f2_run w b o)
theorem SEntry_f3_run (w : World) (b o : Nat) : (Instr.fieldAt 64 (.pointer (some ⟨b, o, none⟩)) 3).run Tryd.prog w = .ok (.pointer (some ⟨b, o + 3, none⟩)) w := by kernel_rfl
theorem SEntry_f3 {b o : Nat} {w : World} {K : Value → World → Prop} {X : List PanicEntry → World → Prop} : DoV Tryd.prog (Instr.fieldAt 64 (.pointer (some ⟨b, o, none⟩)) 3) w K X = K (.pointer (some ⟨b, o + 3, none⟩)) w := DoV_ok (SEntry_f3_run w b o)
theorem SEntry_f4_run (w : World) (b o : Nat) : (Instr.fieldAt 64 (.pointer (some ⟨b, o, none⟩)) 4).run Tryd.prog w = .ok (.pointer (some ⟨b, o + 4, none⟩)) w := by kernel_rfl
theorem SEntry_f4 {b o : Nat} {w : World} {K : Value → World → Prop} {X : List PanicEntry → World → Prop} : DoV Tryd.prog (Instr.fieldAt 64 (.pointer (some ⟨b, o, none⟩)) 4) w K X = K (.pointer (some ⟨b, o + 4, none⟩)) w := DoV_ok (SEntry_f4_run w b o)
theorem SEntry_f5_run (w : World) (b o : Nat) : (Instr.fieldAt 64 (.pointer (some ⟨b, o, none⟩)) 5).run Tryd.prog w = .ok (.pointer (some ⟨b, o + 5, none⟩)) w := by kernel_rfl
theorem SEntry_f5 {b o : Nat} {w : World} {K : Value → World → Prop} {X : List PanicEntry → World → Prop} : DoV Tryd.prog (Instr.fieldAt 64 (.pointer (some ⟨b, o, none⟩)) 5) w K X = K (.pointer (some ⟨b, o + 5, none⟩)) w := DoV_ok (SEntry_f5_run w b o)
theorem SEntry_f6_run (w : World) (b o : Nat) : (Instr.fieldAt 64 (.pointer (some ⟨b, o, none⟩)) 6).run Tryd.prog w = .ok (.pointer (some ⟨b, o + 6, none⟩)) w := by kernel_rfl
theorem SEntry_f6 {b o : Nat} {w : World} {K : Value → World → Prop} {X : List PanicEntry → World → Prop} : DoV Tryd.prog (Instr.fieldAt 64 (.pointer (some ⟨b, o, none⟩)) 6) w K X = K (.pointer (some ⟨b, o + 6, none⟩)) w := DoV_ok (SEntry_f6_run w b o)
theorem SEntry_f7_run (w : World) (b o : Nat) : (Instr.fieldAt 64 (.pointer (some ⟨b, o, none⟩)) 7).run Tryd.prog w = .ok (.pointer (some ⟨b, o + 7, none⟩)) w := by kernel_rfl
theorem SEntry_f7 {b o : Nat} {w : World} {K : Value → World → Prop} {X : List PanicEntry → World → Prop} : DoV Tryd.prog (Instr.fieldAt 64 (.pointer (some ⟨b, o, none⟩)) 7) w K X = K (.pointer (some ⟨b, o + 7, none⟩)) w := DoV_ok (SEntry_f7_run w b o)
theorem SEntry_f8_run (w : World) (b o : Nat) : (Instr.fieldAt 64 (.pointer (some ⟨b, o, none⟩)) 8).run Tryd.prog w = .ok (.pointer (some ⟨b, o + 9, none⟩)) w := by kernel_rfl
theorem SEntry_f8 {b o : Nat} {w : World} {K : Value → World → Prop} {X : List PanicEntry → World → Prop} : DoV Tryd.prog (Instr.fieldAt 64 (.pointer (some ⟨b, o, none⟩)) 8) w K X = K (.pointer (some ⟨b, o + 9, none⟩)) w := DoV_ok (SEntry_f8_run w b o)
theorem SEntry_f9_run (w : World) (b o : Nat) : (Instr.fieldAt 64 (.pointer (some ⟨b, o, none⟩)) 9).run Tryd.prog w = .ok (.pointer (some ⟨b, o + 10, none⟩)) w := by kernel_rfl
theorem SEntry_f9 {b o : Nat} {w : World} {K : Value → World → Prop} {X : List PanicEntry → World → Prop} : DoV Tryd.prog (Instr.fieldAt 64 (.pointer (some ⟨b, o, none⟩)) 9) w K X = K (.pointer (some ⟨b, o + 10, none⟩)) w := DoV_ok (SEntry_f9_run w b o)
theorem SEntry_f10_run (w : World) (b o : Nat) : (Instr.fieldAt 64 (.pointer (some ⟨b, o, none⟩)) 10).run Tryd.prog w = .ok (.pointer (some ⟨b, o + 11, none⟩)) w := by kernel_rfl
theorem SEntry_f10 {b o : Nat} {w : World} {K : Value → World → Prop} {X : List PanicEntry → World → Prop} : DoV Tryd.prog (Instr.fieldAt 64 (.pointer (some ⟨b, o, none⟩)) 10) w K X = K (.pointer (some ⟨b, o + 11, none⟩)) w := DoV_ok (SEntry_f10_run w b o)
theorem SEntry_flds : (Tryd.prog.fieldsOf 64).toList.map (fun f => (f.type, f.offset, f.name == "_")) = [(3, 0, false), (3, 1, false), (3, 2, false), (3, 3, false), (3, 4, false), (3, 5, false), (3, 6, false), (62, 7, false), (3, 9, false), (3, 10, false), (3, 11, false)] := by kernel_rfl
theorem SEntry_stood : Tryd.prog.stoodInHeld 64 = false := by kernel_rfl
theorem SEntry_guard (w : World) (op : BinOp) (ox oy : Operand) (x y : Array Value) : (eqGuard op 64 ox oy (.agg x) (.agg y)).run Tryd.prog w = .ok () w := run_eqGuard_agg w op 64 ox oy x y (by kernel_rfl)
end Ty
theorem SEntry.eq_run (d : Nat) (w : World) (a b : SEntry) : (Op.equalIn (d + 4) 64 (.agg a.cells.toArray) (.agg b.cells.toArray)).run Tryd.prog w = .ok (decide (a = b)) w := by
  rw [show d + 4 = (d + 3) + 1 from rfl, run_equalIn_agg w (d + 3) _ _ _ Ty.SEntry_und Ty.SEntry_stood]
  rw [eqFlds Ty.SEntry_flds (by decide)]
  have p0 : ∀ (c : SEntry) (w : World), (part 3 c.cells.toArray 0).run Tryd.prog w = .ok (.int .i64 c.seq) w := fun c w => part_one Ty.int_agg rfl
  have q0 : ∀ (w : World), (Op.equalIn (d + 3) 3 (.int .i64 a.seq) (.int .i64 b.seq)).run Tryd.prog w = .ok (decide (a.seq = b.seq)) w := fun w => eq_int Ty.int
  have p1 : ∀ (c : SEntry) (w : World), (part 3 c.cells.toArray 1).run Tryd.prog w = .ok (.int .i64 c.time) w := fun c w => part_one Ty.int_agg rfl
  have q1 : ∀ (w : World), (Op.equalIn (d + 3) 3 (.int .i64 a.time) (.int .i64 b.time)).run Tryd.prog w = .ok (decide (a.time = b.time)) w := fun w => eq_int Ty.int
  have p2 : ∀ (c : SEntry) (w : World), (part 3 c.cells.toArray 2).run Tryd.prog w = .ok (.int .i64 c.kind) w := fun c w => part_one Ty.int_agg rfl
  have q2 : ∀ (w : World), (Op.equalIn (d + 3) 3 (.int .i64 a.kind) (.int .i64 b.kind)).run Tryd.prog w = .ok (decide (a.kind = b.kind)) w := fun w => eq_int Ty.int
  have p3 : ∀ (c : SEntry) (w : World), (part 3 c.cells.toArray 3).run Tryd.prog w = .ok (.int .i64 c.sensor) w := fun c w => part_one Ty.int_agg rfl
  have q3 : ∀ (w : World), (Op.equalIn (d + 3) 3 (.int .i64 a.sensor) (.int .i64 b.sensor)).run Tryd.prog w = .ok (decide (a.sensor = b.sensor)) w := fun w => eq_int Ty.int
  have p4 : ∀ (c : SEntry) (w : World), (part 3 c.cells.toArray 4).run Tryd.prog w = .ok (.int .i64 c.ref) w := fun c w => part_one Ty.int_agg rfl
  have q4 : ∀ (w : World), (Op.equalIn (d + 3) 3 (.int .i64 a.ref) (.int .i64 b.ref)).run Tryd.prog w = .ok (decide (a.ref = b.ref)) w := fun w => eq_int Ty.int
  have p5 : ∀ (c : SEntry) (w : World), (part 3 c.cells.toArray 5).run Tryd.prog w = .ok (.int .i64 c.a) w := fun c w => part_one Ty.int_agg rfl
  have q5 : ∀ (w : World), (Op.equalIn (d + 3) 3 (.int .i64 a.a) (.int .i64 b.a)).run Tryd.prog w = .ok (decide (a.a = b.a)) w := fun w => eq_int Ty.int
  have p6 : ∀ (c : SEntry) (w : World), (part 3 c.cells.toArray 6).run Tryd.prog w = .ok (.int .i64 c.n) w := fun c w => part_one Ty.int_agg rfl
  have q6 : ∀ (w : World), (Op.equalIn (d + 3) 3 (.int .i64 a.n) (.int .i64 b.n)).run Tryd.prog w = .ok (decide (a.n = b.n)) w := fun w => eq_int Ty.int
  have p7 : ∀ (c : SEntry) (w : World), (part 62 c.cells.toArray 7).run Tryd.prog w = .ok (.agg c.value.cells.toArray) w := fun c w => part_agg Ty.SSpan_agg Ty.SSpan_size rfl
  have q7 : ∀ (w : World), (Op.equalIn (d + 3) 62 (.agg a.value.cells.toArray) (.agg b.value.cells.toArray)).run Tryd.prog w = .ok (decide (a.value = b.value)) w := fun w => SSpan.eq_run (d + 0) w a.value b.value
  have p8 : ∀ (c : SEntry) (w : World), (part 3 c.cells.toArray 9).run Tryd.prog w = .ok (.int .i64 c.temp) w := fun c w => part_one Ty.int_agg rfl
  have q8 : ∀ (w : World), (Op.equalIn (d + 3) 3 (.int .i64 a.temp) (.int .i64 b.temp)).run Tryd.prog w = .ok (decide (a.temp = b.temp)) w := fun w => eq_int Ty.int
  have p9 : ∀ (c : SEntry) (w : World), (part 3 c.cells.toArray 10).run Tryd.prog w = .ok (.int .i64 c.age) w := fun c w => part_one Ty.int_agg rfl
  have q9 : ∀ (w : World), (Op.equalIn (d + 3) 3 (.int .i64 a.age) (.int .i64 b.age)).run Tryd.prog w = .ok (decide (a.age = b.age)) w := fun w => eq_int Ty.int
  have p10 : ∀ (c : SEntry) (w : World), (part 3 c.cells.toArray 11).run Tryd.prog w = .ok (.int .i64 c.since) w := fun c w => part_one Ty.int_agg rfl
  have q10 : ∀ (w : World), (Op.equalIn (d + 3) 3 (.int .i64 a.since) (.int .i64 b.since)).run Tryd.prog w = .ok (decide (a.since = b.since)) w := fun w => eq_int Ty.int
  have e : (a = b) ↔ (a.seq = b.seq ∧ a.time = b.time ∧ a.kind = b.kind ∧ a.sensor = b.sensor ∧ a.ref = b.ref ∧ a.a = b.a ∧ a.n = b.n ∧ a.value = b.value ∧ a.temp = b.temp ∧ a.age = b.age ∧ a.since = b.since) := by
    constructor
    · rintro rfl; simp
    · rintro ⟨h0, h1, h2, h3, h4, h5, h6, h7, h8, h9, h10⟩
      cases a; cases b; simp only at h0 h1 h2 h3 h4 h5 h6 h7 h8 h9 h10; subst h0 h1 h2 h3 h4 h5 h6 h7 h8 h9 h10; rfl
  rw [eqList_cons (p0 a) (p0 b) q0 (eqList_cons (p1 a) (p1 b) q1 (eqList_cons (p2 a) (p2 b) q2 (eqList_cons (p3 a) (p3 b) q3 (eqList_cons (p4 a) (p4 b) q4 (eqList_cons (p5 a) (p5 b) q5 (eqList_cons (p6 a) (p6 b) q6 (eqList_cons (p7 a) (p7 b) q7 (eqList_cons (p8 a) (p8 b) q8 (eqList_cons (p9 a) (p9 b) q9 (eqList_cons (p10 a) (p10 b) q10 eqList_nil)))))))))) w]
  congr 1
  rw [Bool.eq_iff_iff]
  simp only [Bool.and_eq_true, decide_eq_true_eq, and_true, e]
theorem SEntry.eql {w : World} {K : Value → World → Prop} {X : List PanicEntry → World → Prop} {ox oy : Operand} {a b : SEntry} : DoV Tryd.prog (binS .eql 64 ox oy (.agg a.cells.toArray) (.agg b.cells.toArray)) w K X = K (.bool (decide (a = b))) w := by
  refine DoV_ok ?_
  have e := SEntry.eq_run 9996 w a b
  simp only [binS, Sem.run_bind, Ty.SEntry_guard, Result.andThen_ok, run_eql_struct]
  rw [e]; rfl
theorem SEntry.neq {w : World} {K : Value → World → Prop} {X : List PanicEntry → World → Prop} {ox oy : Operand} {a b : SEntry} : DoV Tryd.prog (binS .neq 64 ox oy (.agg a.cells.toArray) (.agg b.cells.toArray)) w K X = K (.bool (!decide (a = b))) w := by
  refine DoV_ok ?_
  have e := SEntry.eq_run 9996 w a b
  simp only [binS, Sem.run_bind, Ty.SEntry_guard, Result.andThen_ok, run_neq_struct]
  rw [e]; rfl
theorem SEntry.of_trod {H : Type} {enc : TypeId × Value → H} {W : World} {fuel : Nat} {cs : List Value} {x : DataW H × List MemPlace} (h : DataW.trod enc Tryd.prog W 0 (fun _ => true) true fuel 64 cs = some x) : ∃ a : SEntry, cs = a.cells ∧ a.Ok := by
  have hcs : cs.length = 12 := by
    obtain ⟨_, _, _, _, hl, _⟩ := DataW.trod_struct Ty.SEntry_und h
    rw [hl]; exact Ty.SEntry_cells
  obtain ⟨m0, y0, g0⟩ := trod_fld Ty.SEntry_und Ty.SEntry_flds h (i := 0) rfl
  rw [Ty.int_cells] at g0
  obtain ⟨m1, y1, g1⟩ := trod_fld Ty.SEntry_und Ty.SEntry_flds h (i := 1) rfl
  rw [Ty.int_cells] at g1
  obtain ⟨m2, y2, g2⟩ := trod_fld Ty.SEntry_und Ty.SEntry_flds h (i := 2) rfl
  rw [Ty.int_cells] at g2
  obtain ⟨m3, y3, g3⟩ := trod_fld Ty.SEntry_und Ty.SEntry_flds h (i := 3) rfl
  rw [Ty.int_cells] at g3
  obtain ⟨m4, y4, g4⟩ := trod_fld Ty.SEntry_und Ty.SEntry_flds h (i := 4) rfl
  rw [Ty.int_cells] at g4
  obtain ⟨m5, y5, g5⟩ := trod_fld Ty.SEntry_und Ty.SEntry_flds h (i := 5) rfl
  rw [Ty.int_cells] at g5
  obtain ⟨m6, y6, g6⟩ := trod_fld Ty.SEntry_und Ty.SEntry_flds h (i := 6) rfl
  rw [Ty.int_cells] at g6
  obtain ⟨m7, y7, g7⟩ := trod_fld Ty.SEntry_und Ty.SEntry_flds h (i := 7) rfl
  rw [Ty.SSpan_cells] at g7
  obtain ⟨m8, y8, g8⟩ := trod_fld Ty.SEntry_und Ty.SEntry_flds h (i := 8) rfl
  rw [Ty.int_cells] at g8
  obtain ⟨m9, y9, g9⟩ := trod_fld Ty.SEntry_und Ty.SEntry_flds h (i := 9) rfl
  rw [Ty.int_cells] at g9
  obtain ⟨m10, y10, g10⟩ := trod_fld Ty.SEntry_und Ty.SEntry_flds h (i := 10) rfl
  rw [Ty.int_cells] at g10
  match cs, hcs with
  | [u0, u1, u2, u3, u4, u5, u6, u7, u8, u9, u10, u11], _ =>
    have g0 : DataW.trod enc Tryd.prog W 0 (fun _ => true) true m0 3 [u0] = some y0 := g0
    obtain ⟨a0, c0, k0⟩ := leaf_int Ty.int g0
    have g1 : DataW.trod enc Tryd.prog W 0 (fun _ => true) true m1 3 [u1] = some y1 := g1
    obtain ⟨a1, c1, k1⟩ := leaf_int Ty.int g1
    have g2 : DataW.trod enc Tryd.prog W 0 (fun _ => true) true m2 3 [u2] = some y2 := g2
    obtain ⟨a2, c2, k2⟩ := leaf_int Ty.int g2
    have g3 : DataW.trod enc Tryd.prog W 0 (fun _ => true) true m3 3 [u3] = some y3 := g3
    obtain ⟨a3, c3, k3⟩ := leaf_int Ty.int g3
    have g4 : DataW.trod enc Tryd.prog W 0 (fun _ => true) true m4 3 [u4] = some y4 := g4
    obtain ⟨a4, c4, k4⟩ := leaf_int Ty.int g4
    have g5 : DataW.trod enc Tryd.prog W 0 (fun _ => true) true m5 3 [u5] = some y5 := g5
    obtain ⟨a5, c5, k5⟩ := leaf_int Ty.int g5
    have g6 : DataW.trod enc Tryd.prog W 0 (fun _ => true) true m6 3 [u6] = some y6 := g6
    obtain ⟨a6, c6, k6⟩ := leaf_int Ty.int g6
    have g7 : DataW.trod enc Tryd.prog W 0 (fun _ => true) true m7 62 [u7, u8] = some y7 := g7
    obtain ⟨a7, c7, k7⟩ := SSpan.of_trod g7
    have g8 : DataW.trod enc Tryd.prog W 0 (fun _ => true) true m8 3 [u9] = some y8 := g8
    obtain ⟨a8, c8, k8⟩ := leaf_int Ty.int g8
    have g9 : DataW.trod enc Tryd.prog W 0 (fun _ => true) true m9 3 [u10] = some y9 := g9
    obtain ⟨a9, c9, k9⟩ := leaf_int Ty.int g9
    have g10 : DataW.trod enc Tryd.prog W 0 (fun _ => true) true m10 3 [u11] = some y10 := g10
    obtain ⟨a10, c10, k10⟩ := leaf_int Ty.int g10
    refine ⟨⟨a0, a1, a2, a3, a4, a5, a6, a7, a8, a9, a10⟩, ?_, k0, k1, k2, k3, k4, k5, k6, k7, k8, k9, k10⟩
    show [u0] ++ [u1] ++ [u2] ++ [u3] ++ [u4] ++ [u5] ++ [u6] ++ [u7, u8] ++ [u9] ++ [u10] ++ [u11] = [.int .i64 a0] ++ [.int .i64 a1] ++ [.int .i64 a2] ++ [.int .i64 a3] ++ [.int .i64 a4] ++ [.int .i64 a5] ++ [.int .i64 a6] ++ a7.cells ++ [.int .i64 a8] ++ [.int .i64 a9] ++ [.int .i64 a10]
    rw [c0, c1, c2, c3, c4, c5, c6, c7, c8, c9, c10]
theorem SEntry.g_seq {s : SEntry} {b o : Nat} {w : World} {K : Value → World → Prop} {X0 X1 : List PanicEntry → World → Prop} (h : Has w b o s.cells) : DoV Tryd.prog (Instr.fieldAt 64 (.pointer (some ⟨b, o, none⟩)) 0) w (fun a1 w1 => DoV Tryd.prog (Instr.loadAt 3 a1) w1 K X0) X1 = K (.int .i64 s.seq) w := by
  rw [Ty.SEntry_f0, load_cell Ty.int_agg (has_at h (d := 0) (by omega) rfl)]
theorem SEntry.g_time {s : SEntry} {b o : Nat} {w : World} {K : Value → World → Prop} {X0 X1 : List PanicEntry → World → Prop} (h : Has w b o s.cells) : DoV Tryd.prog (Instr.fieldAt 64 (.pointer (some ⟨b, o, none⟩)) 1) w (fun a1 w1 => DoV Tryd.prog (Instr.loadAt 3 a1) w1 K X0) X1 = K (.int .i64 s.time) w := by
  rw [Ty.SEntry_f1, load_cell Ty.int_agg (has_at h (d := 1) (by omega) rfl)]
theorem SEntry.g_kind {s : SEntry} {b o : Nat} {w : World} {K : Value → World → Prop} {X0 X1 : List PanicEntry → World → Prop} (h : Has w b o s.cells) : DoV Tryd.prog (Instr.fieldAt 64 (.pointer (some ⟨b, o, none⟩)) 2) w (fun a1 w1 => DoV Tryd.prog (Instr.loadAt 3 a1) w1 K X0) X1 = K (.int .i64 s.kind) w := by
  rw [Ty.SEntry_f2, load_cell Ty.int_agg (has_at h (d := 2) (by omega) rfl)]
theorem SEntry.g_sensor {s : SEntry} {b o : Nat} {w : World} {K : Value → World → Prop} {X0 X1 : List PanicEntry → World → Prop} (h : Has w b o s.cells) : DoV Tryd.prog (Instr.fieldAt 64 (.pointer (some ⟨b, o, none⟩)) 3) w (fun a1 w1 => DoV Tryd.prog (Instr.loadAt 3 a1) w1 K X0) X1 = K (.int .i64 s.sensor) w := by
  rw [Ty.SEntry_f3, load_cell Ty.int_agg (has_at h (d := 3) (by omega) rfl)]
theorem SEntry.g_ref {s : SEntry} {b o : Nat} {w : World} {K : Value → World → Prop} {X0 X1 : List PanicEntry → World → Prop} (h : Has w b o s.cells) : DoV Tryd.prog (Instr.fieldAt 64 (.pointer (some ⟨b, o, none⟩)) 4) w (fun a1 w1 => DoV Tryd.prog (Instr.loadAt 3 a1) w1 K X0) X1 = K (.int .i64 s.ref) w := by
  rw [Ty.SEntry_f4, load_cell Ty.int_agg (has_at h (d := 4) (by omega) rfl)]
theorem SEntry.g_a {s : SEntry} {b o : Nat} {w : World} {K : Value → World → Prop} {X0 X1 : List PanicEntry → World → Prop} (h : Has w b o s.cells) : DoV Tryd.prog (Instr.fieldAt 64 (.pointer (some ⟨b, o, none⟩)) 5) w (fun a1 w1 => DoV Tryd.prog (Instr.loadAt 3 a1) w1 K X0) X1 = K (.int .i64 s.a) w := by
  rw [Ty.SEntry_f5, load_cell Ty.int_agg (has_at h (d := 5) (by omega) rfl)]
theorem SEntry.g_n {s : SEntry} {b o : Nat} {w : World} {K : Value → World → Prop} {X0 X1 : List PanicEntry → World → Prop} (h : Has w b o s.cells) : DoV Tryd.prog (Instr.fieldAt 64 (.pointer (some ⟨b, o, none⟩)) 6) w (fun a1 w1 => DoV Tryd.prog (Instr.loadAt 3 a1) w1 K X0) X1 = K (.int .i64 s.n) w := by
  rw [Ty.SEntry_f6, load_cell Ty.int_agg (has_at h (d := 6) (by omega) rfl)]
theorem SEntry.g_value {s : SEntry} {b o : Nat} {w : World} {K : Value → World → Prop} {X0 X1 : List PanicEntry → World → Prop} (h : Has w b o s.cells) : DoV Tryd.prog (Instr.fieldAt 64 (.pointer (some ⟨b, o, none⟩)) 7) w (fun a1 w1 => DoV Tryd.prog (Instr.loadAt 62 a1) w1 K X0) X1 = K (.agg s.value.cells.toArray) w := by
  rw [Ty.SEntry_f7, load_arr (n := 2) (xs := s.value.cells) Ty.SSpan_agg Ty.SSpan_size rfl (fun j u hu => has_part h (d := 7) (n := 2) (xs := s.value.cells) (by omega) rfl hu)]
theorem SEntry.g_value_lo {s : SEntry} {b o : Nat} {w : World} {K : Value → World → Prop} {X0 X1 X2 : List PanicEntry → World → Prop} (h : Has w b o s.cells) : DoV Tryd.prog (Instr.fieldAt 64 (.pointer (some ⟨b, o, none⟩)) 7) w (fun a1 w1 => DoV Tryd.prog (Instr.fieldAt 62 a1 0) w1 (fun a2 w2 => DoV Tryd.prog (Instr.loadAt 3 a2) w2 K X0) X2) X1 = K (.int .i64 s.value.lo) w := by
  rw [Ty.SEntry_f7, Ty.SSpan_f0, load_cell Ty.int_agg (has_at h (d := 7) (by omega) rfl)]
theorem SEntry.g_value_hi {s : SEntry} {b o : Nat} {w : World} {K : Value → World → Prop} {X0 X1 X2 : List PanicEntry → World → Prop} (h : Has w b o s.cells) : DoV Tryd.prog (Instr.fieldAt 64 (.pointer (some ⟨b, o, none⟩)) 7) w (fun a1 w1 => DoV Tryd.prog (Instr.fieldAt 62 a1 1) w1 (fun a2 w2 => DoV Tryd.prog (Instr.loadAt 3 a2) w2 K X0) X2) X1 = K (.int .i64 s.value.hi) w := by
  rw [Ty.SEntry_f7, Ty.SSpan_f1, load_cell Ty.int_agg (has_at h (d := 8) (by omega) rfl)]
theorem SEntry.g_temp {s : SEntry} {b o : Nat} {w : World} {K : Value → World → Prop} {X0 X1 : List PanicEntry → World → Prop} (h : Has w b o s.cells) : DoV Tryd.prog (Instr.fieldAt 64 (.pointer (some ⟨b, o, none⟩)) 8) w (fun a1 w1 => DoV Tryd.prog (Instr.loadAt 3 a1) w1 K X0) X1 = K (.int .i64 s.temp) w := by
  rw [Ty.SEntry_f8, load_cell Ty.int_agg (has_at h (d := 9) (by omega) rfl)]
theorem SEntry.g_age {s : SEntry} {b o : Nat} {w : World} {K : Value → World → Prop} {X0 X1 : List PanicEntry → World → Prop} (h : Has w b o s.cells) : DoV Tryd.prog (Instr.fieldAt 64 (.pointer (some ⟨b, o, none⟩)) 9) w (fun a1 w1 => DoV Tryd.prog (Instr.loadAt 3 a1) w1 K X0) X1 = K (.int .i64 s.age) w := by
  rw [Ty.SEntry_f9, load_cell Ty.int_agg (has_at h (d := 10) (by omega) rfl)]
theorem SEntry.g_since {s : SEntry} {b o : Nat} {w : World} {K : Value → World → Prop} {X0 X1 : List PanicEntry → World → Prop} (h : Has w b o s.cells) : DoV Tryd.prog (Instr.fieldAt 64 (.pointer (some ⟨b, o, none⟩)) 10) w (fun a1 w1 => DoV Tryd.prog (Instr.loadAt 3 a1) w1 K X0) X1 = K (.int .i64 s.since) w := by
  rw [Ty.SEntry_f10, load_cell Ty.int_agg (has_at h (d := 11) (by omega) rfl)]
theorem SEntry.g_all {s : SEntry} {b o : Nat} {w : World} {K : Value → World → Prop} {X : List PanicEntry → World → Prop} (h : Has w b o s.cells) : DoV Tryd.prog (Instr.loadAt 64 (.pointer (some ⟨b, o, none⟩))) w K X = K (.agg s.cells.toArray) w := load_arr (n := 12) (xs := s.cells) Ty.SEntry_agg Ty.SEntry_size rfl h
theorem SEntry.set {s r : SEntry} {b : Nat} {e : TypeId} {w : World} {K : Value → World → Prop} {X : List PanicEntry → World → Prop} (h : At w b (.cells r.cells.toArray e (0, 0))) (hk : ∀ w1, Mod (· = b) w w1 → At w1 b (.cells s.cells.toArray e (0, 0)) → w1.heap.size = w.heap.size → K undef w1) : DoU Tryd.prog (Instr.storeAt 64 (.pointer (some ⟨b, 0, none⟩)) (.agg s.cells.toArray)) w K X := store_all (n := 12) Ty.SEntry_size h rfl rfl (by intro u hu; exact SEntry.one s u hu) hk
structure SRecord where
  kind : Int
  entry : SEntry
  seq : Int
  chain : BitVec 64
deriving DecidableEq
instance : Inhabited SRecord := ⟨⟨0, ⟨0, 0, 0, 0, 0, 0, 0, ⟨0, 0⟩, 0, 0, 0⟩, 0, 0⟩⟩
def SRecord.cells (s : SRecord) : List Value := [.int .i64 s.kind] ++ s.entry.cells ++ [.int .i64 s.seq] ++ [u64v s.chain]
theorem SRecord.cells_eq (s : SRecord) : s.cells = [.int .i64 s.kind, .int .i64 s.entry.seq, .int .i64 s.entry.time, .int .i64 s.entry.kind, .int .i64 s.entry.sensor, .int .i64 s.entry.ref, .int .i64 s.entry.a, .int .i64 s.entry.n, .int .i64 s.entry.value.lo, .int .i64 s.entry.value.hi, .int .i64 s.entry.temp, .int .i64 s.entry.age, .int .i64 s.entry.since, .int .i64 s.seq, u64v s.chain] := rfl
theorem SRecord.len (s : SRecord) : s.cells.length = 15 := rfl
theorem SRecord.one (s : SRecord) : ∀ u ∈ s.cells, u.oneCell' = true := by
  intro u hu
  rw [SRecord.cells_eq] at hu
  simp only [List.mem_cons, List.not_mem_nil, or_false] at hu
  rcases hu with rfl | rfl | rfl | rfl | rfl | rfl | rfl | rfl | rfl | rfl | rfl | rfl | rfl | rfl | rfl <;> rfl
theorem SRecord.inj (a b : SRecord) (h : a.cells = b.cells) : a = b := by
  rw [SRecord.cells_eq, SRecord.cells_eq] at h
  simp only [List.cons.injEq, and_true, Value.int.injEq, Value.bool.injEq, u64v, true_and] at h
  obtain ⟨h0, h1, h2, h3, h4, h5, h6, h7, h8, h9, h10, h11, h12, h13, h14⟩ := h
  replace h14 : a.chain = b.chain := BitVec.eq_of_toNat_eq (by omega)
  obtain ⟨_, ⟨_, _, _, _, _, _, _, ⟨_, _⟩, _, _, _⟩, _, _⟩ := a
  obtain ⟨_, ⟨_, _, _, _, _, _, _, ⟨_, _⟩, _, _, _⟩, _, _⟩ := b
  simp only at h0 h1 h2 h3 h4 h5 h6 h7 h8 h9 h10 h11 h12 h13 h14
  subst h0 h1 h2 h3 h4 h5 h6 h7 h8 h9 h10 h11 h12 h13 h14
  rfl
def SRecord.Ok (s : SRecord) : Prop := I64 s.kind ∧ s.entry.Ok ∧ I64 s.seq ∧ True
def SRecord.zero : SRecord := ⟨0, ⟨0, 0, 0, 0, 0, 0, 0, ⟨0, 0⟩, 0, 0, 0⟩, 0, 0⟩
namespace Ty
end Ty
end Go.Proofs.YtjinhojlnaplaaaDoor
