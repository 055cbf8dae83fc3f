/- What the laws' arguments are: vehicles. -/
import Derived.Test.YtoeblipchoglaaaGreatDoorZArgR
import Derived.Test.YtoeblipchoglaaaGreatDoorZVehW
namespace Go.Proofs.YtoeblipchoglaaaGreatDoor
set_option maxRecDepth 100000
open Sh Go.RowKit Go.WideShapes Go.ChangeShapes
section
variable {H : Type} {enc : TypeId × Value → H} {W : World}
theorem Ty.bytes_cells : Tryz.prog.cellsOf 26 = 1 := by kernel_rfl
theorem trod_veh {fuel : Nat} {cs : List Value} {x : DataW H × List MemPlace} (h : DataW.trod enc Tryz.prog W 0 (fun _ => true) true fuel 28 cs = some x) : ∃ (s : SVeh) (v : Veh.V), cs = s.cells ∧ VehIs W s v ∧ VehOk v := by
  have hcs : cs.length = 10 := by
    obtain ⟨_, _, _, _, hl, _⟩ := DataW.trod_struct Ty.SVeh_und h
    rw [hl]; exact Ty.SVeh_cells
  obtain ⟨m0, y0, g0⟩ := trod_fld Ty.SVeh_und Ty.SVeh_flds h (i := 0) rfl
  rw [Ty.int_cells] at g0
  obtain ⟨m1, y1, g1⟩ := trod_fld Ty.SVeh_und Ty.SVeh_flds h (i := 1) rfl
  rw [Ty.int_cells] at g1
  obtain ⟨m2, y2, g2⟩ := trod_fld Ty.SVeh_und Ty.SVeh_flds h (i := 2) rfl
  rw [Ty.SLog_cells] at g2
  obtain ⟨m3, y3, g3⟩ := trod_fld Ty.SVeh_und Ty.SVeh_flds h (i := 3) rfl
  rw [Ty.bytes_cells] at g3
  obtain ⟨m4, y4, g4⟩ := trod_fld Ty.SVeh_und Ty.SVeh_flds h (i := 4) rfl
  rw [Ty.int_cells] at g4
  obtain ⟨m5, y5, g5⟩ := trod_fld Ty.SVeh_und Ty.SVeh_flds h (i := 5) rfl
  rw [Ty.bool_cells] at g5
  obtain ⟨m6, y6, g6⟩ := trod_fld Ty.SVeh_und Ty.SVeh_flds h (i := 6) rfl
  rw [Ty.int_cells] at g6
  obtain ⟨m7, y7, g7⟩ := trod_fld Ty.SVeh_und Ty.SVeh_flds h (i := 7) rfl
  rw [Ty.int_cells] at g7
  match cs, hcs with
  | [u0, u1, u2, u3, u4, u5, u6, u7, u8, u9], _ =>
    have g0 : DataW.trod enc Tryz.prog W 0 (fun _ => true) true m0 3 [u0] = some y0 := g0
    obtain ⟨a0, c0, k0⟩ := leaf_int Ty.int g0
    have g1 : DataW.trod enc Tryz.prog W 0 (fun _ => true) true m1 3 [u1] = some y1 := g1
    obtain ⟨a1, c1, k1⟩ := leaf_int Ty.int g1
    have g2 : DataW.trod enc Tryz.prog W 0 (fun _ => true) true m2 25 [u2, u3, u4] = some y2 := g2
    obtain ⟨sl, L, c2, k2, k2'⟩ := trod_log g2
    have g3 : DataW.trod enc Tryz.prog W 0 (fun _ => true) true m3 26 [u5] = some y3 := g3
    obtain ⟨bs, h3⟩ := trod_bytes g3
    have g4 : DataW.trod enc Tryz.prog W 0 (fun _ => true) true m4 3 [u6] = some y4 := g4
    obtain ⟨a4, c4, k4⟩ := leaf_int Ty.int g4
    have g5 : DataW.trod enc Tryz.prog W 0 (fun _ => true) true m5 4 [u7] = some y5 := g5
    obtain ⟨a5, c5, k5⟩ := leaf_bool Ty.bool g5
    have g6 : DataW.trod enc Tryz.prog W 0 (fun _ => true) true m6 3 [u8] = some y6 := g6
    obtain ⟨a6, c6, k6⟩ := leaf_int Ty.int g6
    have g7 : DataW.trod enc Tryz.prog W 0 (fun _ => true) true m7 3 [u9] = some y7 := g7
    obtain ⟨a7, c7, k7⟩ := leaf_int Ty.int g7
    obtain ⟨d3, rfl⟩ := Hdr.of_sl h3
    refine ⟨⟨a0, a1, sl, d3, a4, a5, a6, a7⟩, ⟨a0, a1, L, bs, a4, a5, a6, a7⟩, ?_, ⟨rfl, rfl, k2, h3, rfl, rfl, rfl, rfl⟩, k0, k1, k2', k4, k6, k7⟩
    show [u0] ++ [u1] ++ [u2, u3, u4] ++ [d3.val] ++ [u6] ++ [u7] ++ [u8] ++ [u9] = [.int .i64 a0] ++ [.int .i64 a1] ++ sl.cells ++ [d3.val] ++ [.int .i64 a4] ++ [.bool a5] ++ [.int .i64 a6] ++ [.int .i64 a7]
    rw [c0, c1, c2, c4, c5, c6, c7]
theorem arg_veh {base : Nat} {v : Value} {d : DataW H} {ps : List MemPlace} (hval : Value.okWide Tryz.prog W .any base 28 v) (h : DataW.Trod enc Tryz.prog W 0 (fun _ => true) true 28 v d ps) : ∃ (s : SVeh) (x : Veh.V), v = .agg s.cells.toArray ∧ VehIs W s x ∧ VehOk x := by
  unfold Value.okWide at hval
  rw [Ty.SVeh_und] at hval
  obtain ⟨cs, rfl, _⟩ := hval
  obtain ⟨fuel, hf⟩ := h
  obtain ⟨s, x, hc, ho⟩ := trod_veh hf
  exact ⟨s, x, by rw [← hc]; rfl, ho⟩
theorem arg_entrow {base : Nat} {v : Value} {d : DataW H} {ps : List MemPlace} (hval : Value.okWide Tryz.prog W .any base 23 v) (h : DataW.Trod enc Tryz.prog W 0 (fun _ => true) true 23 v d ps) : ∃ l : List SEntry, SEntry.Row W v l ∧ ∀ e ∈ l, e.Ok := by
  obtain ⟨fuel, x, hf⟩ := arg_sl Ty.SEntry_row hval h
  exact SEntry.row_of_trod hf
end
end Go.Proofs.YtoeblipchoglaaaGreatDoor
