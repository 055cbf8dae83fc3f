/- WRITTEN BY structs.py: flat structs of the program: SSig. -/
import Derived.Test.YtjinhojlnaplaaaDoorEqs
namespace Go.Proofs.YtjinhojlnaplaaaDoor
open Sh Go.RowKit Go.WideShapes Go.ChangeShapes
set_option maxRecDepth 100000
structure SSig where
  e : Int
  s : Int
deriving DecidableEq
instance : Inhabited SSig := ⟨⟨0, 0⟩⟩
def SSig.cells (s : SSig) : List Value := [.int .i64 s.e] ++ [.int .i64 s.s]
theorem SSig.cells_eq (s : SSig) : s.cells = [.int .i64 s.e, .int .i64 s.s] := rfl
theorem SSig.len (s : SSig) : s.cells.length = 2 := rfl
theorem SSig.one (s : SSig) : ∀ u ∈ s.cells, u.oneCell' = true := by
  intro u hu
  rw [SSig.cells_eq] at hu
  simp only [List.mem_cons, List.not_mem_nil, or_false] at hu
  rcases hu with rfl | rfl <;> rfl
theorem SSig.inj (a b : SSig) (h : a.cells = b.cells) : a = b := by
  rw [SSig.cells_eq, SSig.cells_eq] at h
  simp only [List.cons.injEq, and_true, Value.int.injEq, Value.bool.injEq, u64v, true_and] at h
  obtain ⟨h0, h1⟩ := h
  obtain ⟨_, _⟩ := a
  obtain ⟨_, _⟩ := b
  simp only at h0 h1
  subst h0 h1
  rfl
def SSig.Ok (s : SSig) : Prop := I64 s.e ∧ I64 s.s
def SSig.zero : SSig := ⟨0, 0⟩
namespace Ty
theorem SSig_und : Tryd.prog.underlying 23 = some (.struct (Tryd.prog.fieldsOf 23)) := by kernel_rfl
theorem SSig_agg (w : World) : (isAgg 23).run Tryd.prog w = .ok true w := by kernel_rfl
theorem SSig_size (w : World) : (sizeOf 23).run Tryd.prog w = .ok 2 w := by kernel_rfl
theorem SSig_zero (w : World) : (zeroValue 23).run Tryd.prog w = .ok (.agg SSig.zero.cells.toArray) w := by kernel_rfl
theorem SSig_cells : Tryd.prog.cellsOf 23 = 2 := by kernel_rfl
theorem SSig_info : (Tryd.prog.info? 23).map (fun i => (i.zero, i.size, i.bytes)) = some (some (.agg SSig.zero.cells.toArray), 2, 16) := by kernel_rfl
theorem SSig_f0_run (w : World) (b o : Nat) : (Instr.fieldAt 23 (.pointer (some ⟨b, o, none⟩)) 0).run Tryd.prog w = .ok (.pointer (some ⟨b, o, none⟩)) w := by kernel_rfl
theorem SSig_f0 {b o : Nat} {w : World} {K : Value → World → Prop} {X : List PanicEntry → World → Prop} : DoV Tryd.prog (Instr.fieldAt 23 (.pointer (some ⟨b, o, none⟩)) 0) w K X = K (.pointer (some ⟨b, o, none⟩)) w := DoV_ok (SSig_f0_run w b o)
theorem SSig_f1_run (w : World) (b o : Nat) : (Instr.fieldAt 23 (.pointer (some ⟨b, o, none⟩)) 1).run Tryd.prog w = .ok (.pointer (some ⟨b, o + 1, none⟩)) w := by kernel_rfl
theorem SSig_f1 {b o : Nat} {w : World} {K : Value → World → Prop} {X : List PanicEntry → World → Prop} : DoV Tryd.prog (Instr.fieldAt 23 (.pointer (some ⟨b, o, none⟩)) 1) w K X = K (.pointer (some ⟨b, o + 1, none⟩)) w := DoV_ok (SSig_f1_run w b o)
theorem SSig_flds : (Tryd.prog.fieldsOf 23).toList.map (fun f => (f.type, f.offset, f.name == "_")) = [(3, 0, false), (3, 1, false)] := by kernel_rfl
theorem SSig_stood : Tryd.prog.stoodInHeld 23 = false := by kernel_rfl
theorem SSig_guard (w : World) (op : BinOp) (ox oy : Operand) (x y : Array Value) : (eqGuard op 23 ox oy (.agg x) (.agg y)).run Tryd.prog w = .ok () w := run_eqGuard_agg w op 23 ox oy x y (by kernel_rfl)
end Ty
theorem SSig.eq_run (d : Nat) (w : World) (a b : SSig) : (Op.equalIn (d + 3) 23 (.agg a.cells.toArray) (.agg b.cells.toArray)).run Tryd.prog w = .ok (decide (a = b)) w := by
  rw [show d + 3 = (d + 2) + 1 from rfl, run_equalIn_agg w (d + 2) _ _ _ Ty.SSig_und Ty.SSig_stood]
  rw [eqFlds Ty.SSig_flds (by decide)]
  have p0 : ∀ (c : SSig) (w : World), (part 3 c.cells.toArray 0).run Tryd.prog w = .ok (.int .i64 c.e) w := fun c w => part_one Ty.int_agg rfl
  have q0 : ∀ (w : World), (Op.equalIn (d + 2) 3 (.int .i64 a.e) (.int .i64 b.e)).run Tryd.prog w = .ok (decide (a.e = b.e)) w := fun w => eq_int Ty.int
  have p1 : ∀ (c : SSig) (w : World), (part 3 c.cells.toArray 1).run Tryd.prog w = .ok (.int .i64 c.s) w := fun c w => part_one Ty.int_agg rfl
  have q1 : ∀ (w : World), (Op.equalIn (d + 2) 3 (.int .i64 a.s) (.int .i64 b.s)).run Tryd.prog w = .ok (decide (a.s = b.s)) w := fun w => eq_int Ty.int
  have e : (a = b) ↔ (a.e = b.e ∧ a.s = b.s) := by
    constructor
    · rintro rfl; simp
    · rintro ⟨h0, h1⟩
      cases a; cases b; simp only at h0 h1; subst h0 h1; rfl
  rw [eqList_cons (p0 a) (p0 b) q0 (eqList_cons (p1 a) (p1 b) q1 eqList_nil) w]
  congr 1
  rw [Bool.eq_iff_iff]
  simp only [Bool.and_eq_true, decide_eq_true_eq, and_true, e]
theorem SSig.eql {w : World} {K : Value → World → Prop} {X : List PanicEntry → World → Prop} {ox oy : Operand} {a b : SSig} : DoV Tryd.prog (binS .eql 23 ox oy (.agg a.cells.toArray) (.agg b.cells.toArray)) w K X = K (.bool (decide (a = b))) w := by
  refine DoV_ok ?_
  have e := SSig.eq_run 9997 w a b
  simp only [binS, Sem.run_bind, Ty.SSig_guard, Result.andThen_ok, run_eql_struct]
  rw [e]; rfl
theorem SSig.neq {w : World} {K : Value → World → Prop} {X : List PanicEntry → World → Prop} {ox oy : Operand} {a b : SSig} : DoV Tryd.prog (binS .neq 23 ox oy (.agg a.cells.toArray) (.agg b.cells.toArray)) w K X = K (.bool (!decide (a = b))) w := by
  refine DoV_ok ?_
  have e := SSig.eq_run 9997 w a b
  simp only [binS, Sem.run_bind, Ty.SSig_guard, Result.andThen_ok, run_neq_struct]
  rw [e]; rfl
theorem SSig.of_trod {H : Type} {enc : TypeId × Value → H} {W : World} {fuel : Nat} {cs : List Value} {x : DataW H × List MemPlace} (h : DataW.trod enc Tryd.prog W 0 (fun _ => true) true fuel 23 cs = some x) : ∃ a : SSig, cs = a.cells ∧ a.Ok := by
  have hcs : cs.length = 2 := by
    obtain ⟨_, _, _, _, hl, _⟩ := DataW.trod_struct Ty.SSig_und h
    rw [hl]; exact Ty.SSig_cells
  obtain ⟨m0, y0, g0⟩ := trod_fld Ty.SSig_und Ty.SSig_flds h (i := 0) rfl
  rw [Ty.int_cells] at g0
  obtain ⟨m1, y1, g1⟩ := trod_fld Ty.SSig_und Ty.SSig_flds h (i := 1) rfl
  rw [Ty.int_cells] at g1
  match cs, hcs with
  | [u0, u1], _ =>
    have g0 : DataW.trod enc Tryd.prog W 0 (fun _ => true) true m0 3 [u0] = some y0 := g0
    obtain ⟨a0, c0, k0⟩ := leaf_int Ty.int g0
    have g1 : DataW.trod enc Tryd.prog W 0 (fun _ => true) true m1 3 [u1] = some y1 := g1
    obtain ⟨a1, c1, k1⟩ := leaf_int Ty.int g1
    refine ⟨⟨a0, a1⟩, ?_, k0, k1⟩
    show [u0] ++ [u1] = [.int .i64 a0] ++ [.int .i64 a1]
    rw [c0, c1]
theorem SSig.g_e {s : SSig} {b o : Nat} {w : World} {K : Value → World → Prop} {X0 X1 : List PanicEntry → World → Prop} (h : Has w b o s.cells) : DoV Tryd.prog (Instr.fieldAt 23 (.pointer (some ⟨b, o, none⟩)) 0) w (fun a1 w1 => DoV Tryd.prog (Instr.loadAt 3 a1) w1 K X0) X1 = K (.int .i64 s.e) w := by
  rw [Ty.SSig_f0, load_cell Ty.int_agg (has_at h (d := 0) (by omega) rfl)]
theorem SSig.g_s {s : SSig} {b o : Nat} {w : World} {K : Value → World → Prop} {X0 X1 : List PanicEntry → World → Prop} (h : Has w b o s.cells) : DoV Tryd.prog (Instr.fieldAt 23 (.pointer (some ⟨b, o, none⟩)) 1) w (fun a1 w1 => DoV Tryd.prog (Instr.loadAt 3 a1) w1 K X0) X1 = K (.int .i64 s.s) w := by
  rw [Ty.SSig_f1, load_cell Ty.int_agg (has_at h (d := 1) (by omega) rfl)]
theorem SSig.g_all {s : SSig} {b o : Nat} {w : World} {K : Value → World → Prop} {X : List PanicEntry → World → Prop} (h : Has w b o s.cells) : DoV Tryd.prog (Instr.loadAt 23 (.pointer (some ⟨b, o, none⟩))) w K X = K (.agg s.cells.toArray) w := load_arr (n := 2) (xs := s.cells) Ty.SSig_agg Ty.SSig_size rfl h
theorem SSig.set {s r : SSig} {b : Nat} {e : TypeId} {w : World} {K : Value → World → Prop} {X : List PanicEntry → World → Prop} (h : At w b (.cells r.cells.toArray e (0, 0))) (hk : ∀ w1, Mod (· = b) w w1 → At w1 b (.cells s.cells.toArray e (0, 0)) → w1.heap.size = w.heap.size → K undef w1) : DoU Tryd.prog (Instr.storeAt 23 (.pointer (some ⟨b, 0, none⟩)) (.agg s.cells.toArray)) w K X := store_all (n := 2) Ty.SSig_size h rfl rfl (by intro u hu; exact SSig.one s u hu) hk
end Go.Proofs.YtjinhojlnaplaaaDoor
