/- What the laws' arguments are: logs, reports, entries, polygons. -/
import Derived.Test.YtoeblipchoglaaaGreatDoorZArgS
import Derived.Test.YtoeblipchoglaaaGreatDoorZRepJ
namespace Go.Proofs.YtoeblipchoglaaaGreatDoor
set_option maxRecDepth 100000
open Sh Go.RowKit Go.WideShapes Go.ChangeShapes
section
variable {H : Type} {enc : TypeId × Value → H} {W : World}
theorem Ty.ents_cells : Tryz.prog.cellsOf 23 = 1 := by kernel_rfl
theorem Ty.polys_cells : Tryz.prog.cellsOf 22 = 1 := by kernel_rfl
theorem trod_log {fuel : Nat} {cs : List Value} {x : DataW H × List MemPlace} (h : DataW.trod enc Tryz.prog W 0 (fun _ => true) true fuel 25 cs = some x) : ∃ (s : SLog) (L : Rep.Lg), cs = s.cells ∧ LogIs W s L ∧ LogOk L := by
  have hcs : cs.length = 3 := by
    obtain ⟨_, _, _, _, hl, _⟩ := DataW.trod_struct Ty.SLog_und h
    rw [hl]; exact Ty.SLog_cells
  obtain ⟨m0, y0, g0⟩ := trod_fld Ty.SLog_und Ty.SLog_flds h (i := 0) rfl
  rw [Ty.int_cells] at g0
  obtain ⟨m1, y1, g1⟩ := trod_fld Ty.SLog_und Ty.SLog_flds h (i := 1) rfl
  rw [Ty.polys_cells] at g1
  obtain ⟨m2, y2, g2⟩ := trod_fld Ty.SLog_und Ty.SLog_flds h (i := 2) rfl
  rw [Ty.ents_cells] at g2
  match cs, hcs with
  | [u0, u1, u2], _ =>
    have g0 : DataW.trod enc Tryz.prog W 0 (fun _ => true) true m0 3 [u0] = some y0 := g0
    obtain ⟨a0, c0, k0⟩ := leaf_int Ty.int g0
    have g1 : DataW.trod enc Tryz.prog W 0 (fun _ => true) true m1 22 [u1] = some y1 := g1
    obtain ⟨rs, h1, k1⟩ := RL.of_trod g1
    have g2 : DataW.trod enc Tryz.prog W 0 (fun _ => true) true m2 23 [u2] = some y2 := g2
    obtain ⟨l, h2, k2⟩ := SEntry.row_of_trod g2
    obtain ⟨d1, rfl⟩ := h1.hdr
    obtain ⟨d2, rfl⟩ := Hdr.of_sl h2
    refine ⟨⟨a0, d1, d2⟩, ⟨a0, rs, l⟩, ?_, ⟨rfl, h1, h2⟩, k0, k1, k2⟩
    show [u0] ++ [d1.val] ++ [d2.val] = [.int .i64 a0] ++ [d1.val] ++ [d2.val]
    rw [c0]
theorem arg_ent {base : Nat} {v : Value} {d : DataW H} {ps : List MemPlace} (hval : Value.okWide Tryz.prog W .any base 38 v) (h : DataW.Trod enc Tryz.prog W 0 (fun _ => true) true 38 v d ps) : ∃ r : SEntry, v = .agg r.cells.toArray ∧ r.Ok := by
  unfold Value.okWide at hval
  rw [Ty.SEntry_und] at hval
  obtain ⟨cs, rfl, _⟩ := hval
  obtain ⟨fuel, hf⟩ := h
  obtain ⟨r, hc, ho⟩ := SEntry.of_trod hf
  exact ⟨r, by rw [← hc]; rfl, ho⟩
theorem arg_polys {base : Nat} {v : Value} {d : DataW H} {ps : List MemPlace} (hval : Value.okWide Tryz.prog W .any base 22 v) (h : DataW.Trod enc Tryz.prog W 0 (fun _ => true) true 22 v d ps) : ∃ l : List (List SPoint), RL W v l ∧ ∀ x ∈ l, ∀ p ∈ x, p.Ok := by
  obtain ⟨fuel, x, hf⟩ := arg_sl Ty.polys hval h
  exact RL.of_trod hf
end
end Go.Proofs.YtoeblipchoglaaaGreatDoor
