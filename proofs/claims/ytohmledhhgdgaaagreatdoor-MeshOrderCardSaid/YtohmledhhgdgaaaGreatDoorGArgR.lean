/- What the laws' arguments are: logs, reports, entries, polygons. -/
import Derived.Test.YtohmledhhgdgaaaGreatDoorGArgS
import Derived.Test.YtohmledhhgdgaaaGreatDoorGRepJ
set_option linter.unusedVariables false
set_option linter.unusedSimpArgs false
namespace Go.Proofs.YtohmledhhgdgaaaGreatDoor
set_option maxRecDepth 100000
open Sh Go.RowKit Go.WideShapes Go.ChangeShapes
section
variable {H : Type} {enc : TypeId × Value → H} {W : World}
theorem Ty.ents_cells : Tryz.prog.cellsOf 25 = 1 := by kernel_rfl
theorem trod_report {fuel : Nat} {cs : List Value} {x : DataW H × List MemPlace} (h : DataW.trod enc Tryz.prog W 0 (fun _ => true) true fuel 30 cs = some x) : ∃ (s : SReport) (r : Rep.Rpt), cs = s.cells ∧ RepIs W s r ∧ RepOk r := by
  have hcs : cs.length = 7 := by
    obtain ⟨_, _, _, _, hl, _⟩ := DataW.trod_struct Ty.SReport_und h
    rw [hl]; exact Ty.SReport_cells
  obtain ⟨m0, y0, g0⟩ := trod_fld Ty.SReport_und Ty.SReport_flds h (i := 0) rfl
  rw [Ty.int_cells] at g0
  obtain ⟨m1, y1, g1⟩ := trod_fld Ty.SReport_und Ty.SReport_flds h (i := 1) rfl
  rw [Ty.int_cells] at g1
  obtain ⟨m2, y2, g2⟩ := trod_fld Ty.SReport_und Ty.SReport_flds h (i := 2) rfl
  rw [Ty.ents_cells] at g2
  obtain ⟨m3, y3, g3⟩ := trod_fld Ty.SReport_und Ty.SReport_flds h (i := 3) rfl
  rw [Ty.u64_cells] at g3
  obtain ⟨m4, y4, g4⟩ := trod_fld Ty.SReport_und Ty.SReport_flds h (i := 4) rfl
  rw [Ty.u64_cells] at g4
  obtain ⟨m5, y5, g5⟩ := trod_fld Ty.SReport_und Ty.SReport_flds h (i := 5) rfl
  rw [Ty.SSig_cells] at g5
  match cs, hcs with
  | [u0, u1, u2, u3, u4, u5, u6], _ =>
    have g0 : DataW.trod enc Tryz.prog W 0 (fun _ => true) true m0 3 [u0] = some y0 := g0
    obtain ⟨a0, c0, k0⟩ := leaf_int Ty.int g0
    have g1 : DataW.trod enc Tryz.prog W 0 (fun _ => true) true m1 3 [u1] = some y1 := g1
    obtain ⟨a1, c1, k1⟩ := leaf_int Ty.int g1
    have g2 : DataW.trod enc Tryz.prog W 0 (fun _ => true) true m2 25 [u2] = some y2 := g2
    obtain ⟨l, h2, k2⟩ := SEntry.row_of_trod g2
    have g3 : DataW.trod enc Tryz.prog W 0 (fun _ => true) true m3 26 [u3] = some y3 := g3
    obtain ⟨a3, c3, k3⟩ := leaf_u64 Ty.u64 g3
    have g4 : DataW.trod enc Tryz.prog W 0 (fun _ => true) true m4 26 [u4] = some y4 := g4
    obtain ⟨a4, c4, k4⟩ := leaf_u64 Ty.u64 g4
    have g5 : DataW.trod enc Tryz.prog W 0 (fun _ => true) true m5 28 [u5, u6] = some y5 := g5
    obtain ⟨a5, c5, k5⟩ := SSig.of_trod g5
    obtain ⟨d2, rfl⟩ := Hdr.of_sl h2
    refine ⟨⟨a0, a1, d2, a3, a4, a5⟩, ⟨a0, a1, l, a3, a4, a5⟩, ?_, ⟨rfl, rfl, h2, rfl, rfl, rfl⟩, k0, k1, k2, k5, Sl.le h2⟩
    show [u0] ++ [u1] ++ [d2.val] ++ [u3] ++ [u4] ++ [u5, u6] = [.int .i64 a0] ++ [.int .i64 a1] ++ [d2.val] ++ [u64v a3] ++ [u64v a4] ++ a5.cells
    rw [c0, c1, c3, c4, c5]
end
end Go.Proofs.YtohmledhhgdgaaaGreatDoor
