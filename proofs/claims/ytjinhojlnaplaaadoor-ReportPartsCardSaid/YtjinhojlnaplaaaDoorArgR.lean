/- What the laws' arguments are: logs, reports, entries, polygons. -/
import Derived.Test.YtjinhojlnaplaaaDoorArgS
import Derived.Test.YtjinhojlnaplaaaDoorRepJ
namespace Go.Proofs.YtjinhojlnaplaaaDoor
set_option maxRecDepth 100000
open Sh Go.RowKit Go.WideShapes Go.ChangeShapes
section
variable {H : Type} {enc : TypeId × Value → H} {W : World}
theorem Ty.ents_cells : Tryd.prog.cellsOf 47 = 1 := by kernel_rfl
theorem Ty.polys_cells : Tryd.prog.cellsOf 46 = 1 := by kernel_rfl
theorem trod_log {fuel : Nat} {cs : List Value} {x : DataW H × List MemPlace} (h : DataW.trod enc Tryd.prog W 0 (fun _ => true) true fuel 49 cs = some x) : ∃ (s : SLog) (L : Rep.Lg), cs = s.cells ∧ LogIs W s L ∧ LogOk L := by
  have hcs : cs.length = 3 := by
    obtain ⟨_, _, _, _, hl, _⟩ := DataW.trod_struct Ty.SLog_und h
    rw [hl]; exact Ty.SLog_cells
  obtain ⟨m0, y0, g0⟩ := trod_fld Ty.SLog_und Ty.SLog_flds h (i := 0) rfl
  rw [Ty.int_cells] at g0
  obtain ⟨m1, y1, g1⟩ := trod_fld Ty.SLog_und Ty.SLog_flds h (i := 1) rfl
  rw [Ty.polys_cells] at g1
  obtain ⟨m2, y2, g2⟩ := trod_fld Ty.SLog_und Ty.SLog_flds h (i := 2) rfl
  rw [Ty.ents_cells] at g2
  match cs, hcs with
  | [u0, u1, u2], _ =>
    have g0 : DataW.trod enc Tryd.prog W 0 (fun _ => true) true m0 3 [u0] = some y0 := g0
    obtain ⟨a0, c0, k0⟩ := leaf_int Ty.int g0
    have g1 : DataW.trod enc Tryd.prog W 0 (fun _ => true) true m1 46 [u1] = some y1 := g1
    obtain ⟨rs, h1, k1⟩ := RL.of_trod g1
    have g2 : DataW.trod enc Tryd.prog W 0 (fun _ => true) true m2 47 [u2] = some y2 := g2
    obtain ⟨l, h2, k2⟩ := SEntry.row_of_trod g2
    obtain ⟨d1, rfl⟩ := h1.hdr
    obtain ⟨d2, rfl⟩ := Hdr.of_sl h2
    refine ⟨⟨a0, d1, d2⟩, ⟨a0, rs, l⟩, ?_, ⟨rfl, h1, h2⟩, k0, k1, k2⟩
    show [u0] ++ [d1.val] ++ [d2.val] = [.int .i64 a0] ++ [d1.val] ++ [d2.val]
    rw [c0]
theorem trod_report {fuel : Nat} {cs : List Value} {x : DataW H × List MemPlace} (h : DataW.trod enc Tryd.prog W 0 (fun _ => true) true fuel 51 cs = some x) : ∃ (s : SReport) (r : Rep.Rpt), cs = s.cells ∧ RepIs W s r ∧ RepOk r := by
  have hcs : cs.length = 7 := by
    obtain ⟨_, _, _, _, hl, _⟩ := DataW.trod_struct Ty.SReport_und h
    rw [hl]; exact Ty.SReport_cells
  obtain ⟨m0, y0, g0⟩ := trod_fld Ty.SReport_und Ty.SReport_flds h (i := 0) rfl
  rw [Ty.int_cells] at g0
  obtain ⟨m1, y1, g1⟩ := trod_fld Ty.SReport_und Ty.SReport_flds h (i := 1) rfl
  rw [Ty.int_cells] at g1
  obtain ⟨m2, y2, g2⟩ := trod_fld Ty.SReport_und Ty.SReport_flds h (i := 2) rfl
  rw [Ty.ents_cells] at g2
  obtain ⟨m3, y3, g3⟩ := trod_fld Ty.SReport_und Ty.SReport_flds h (i := 3) rfl
  rw [Ty.u64_cells] at g3
  obtain ⟨m4, y4, g4⟩ := trod_fld Ty.SReport_und Ty.SReport_flds h (i := 4) rfl
  rw [Ty.u64_cells] at g4
  obtain ⟨m5, y5, g5⟩ := trod_fld Ty.SReport_und Ty.SReport_flds h (i := 5) rfl
  rw [Ty.SSig_cells] at g5
  match cs, hcs with
  | [u0, u1, u2, u3, u4, u5, u6], _ =>
    have g0 : DataW.trod enc Tryd.prog W 0 (fun _ => true) true m0 3 [u0] = some y0 := g0
    obtain ⟨a0, c0, k0⟩ := leaf_int Ty.int g0
    have g1 : DataW.trod enc Tryd.prog W 0 (fun _ => true) true m1 3 [u1] = some y1 := g1
    obtain ⟨a1, c1, k1⟩ := leaf_int Ty.int g1
    have g2 : DataW.trod enc Tryd.prog W 0 (fun _ => true) true m2 47 [u2] = some y2 := g2
    obtain ⟨l, h2, k2⟩ := SEntry.row_of_trod g2
    have g3 : DataW.trod enc Tryd.prog W 0 (fun _ => true) true m3 39 [u3] = some y3 := g3
    obtain ⟨a3, c3, k3⟩ := leaf_u64 Ty.u64 g3
    have g4 : DataW.trod enc Tryd.prog W 0 (fun _ => true) true m4 39 [u4] = some y4 := g4
    obtain ⟨a4, c4, k4⟩ := leaf_u64 Ty.u64 g4
    have g5 : DataW.trod enc Tryd.prog W 0 (fun _ => true) true m5 23 [u5, u6] = some y5 := g5
    obtain ⟨a5, c5, k5⟩ := SSig.of_trod g5
    obtain ⟨d2, rfl⟩ := Hdr.of_sl h2
    refine ⟨⟨a0, a1, d2, a3, a4, a5⟩, ⟨a0, a1, l, a3, a4, a5⟩, ?_, ⟨rfl, rfl, h2, rfl, rfl, rfl⟩, k0, k1, k2, k5, Sl.le h2⟩
    show [u0] ++ [u1] ++ [d2.val] ++ [u3] ++ [u4] ++ [u5, u6] = [.int .i64 a0] ++ [.int .i64 a1] ++ [d2.val] ++ [u64v a3] ++ [u64v a4] ++ a5.cells
    rw [c0, c1, c3, c4, c5]
theorem arg_log {base : Nat} {v : Value} {d : DataW H} {ps : List MemPlace} (hval : Value.okWide Tryd.prog W .any base 49 v) (h : DataW.Trod enc Tryd.prog W 0 (fun _ => true) true 49 v d ps) : ∃ (s : SLog) (L : Rep.Lg), v = .agg s.cells.toArray ∧ LogIs W s L ∧ LogOk L := by
  unfold Value.okWide at hval
  rw [Ty.SLog_und] at hval
  obtain ⟨cs, rfl, _⟩ := hval
  obtain ⟨fuel, hf⟩ := h
  obtain ⟨s, L, hc, ho⟩ := trod_log hf
  exact ⟨s, L, by rw [← hc]; rfl, ho⟩
theorem arg_report {base : Nat} {v : Value} {d : DataW H} {ps : List MemPlace} (hval : Value.okWide Tryd.prog W .any base 51 v) (h : DataW.Trod enc Tryd.prog W 0 (fun _ => true) true 51 v d ps) : ∃ (s : SReport) (r : Rep.Rpt), v = .agg s.cells.toArray ∧ RepIs W s r ∧ RepOk r := by
  unfold Value.okWide at hval
  rw [Ty.SReport_und] at hval
  obtain ⟨cs, rfl, _⟩ := hval
  obtain ⟨fuel, hf⟩ := h
  obtain ⟨s, r, hc, ho⟩ := trod_report hf
  exact ⟨s, r, by rw [← hc]; rfl, ho⟩
theorem arg_ent {base : Nat} {v : Value} {d : DataW H} {ps : List MemPlace} (hval : Value.okWide Tryd.prog W .any base 64 v) (h : DataW.Trod enc Tryd.prog W 0 (fun _ => true) true 64 v d ps) : ∃ r : SEntry, v = .agg r.cells.toArray ∧ r.Ok := by
  unfold Value.okWide at hval
  rw [Ty.SEntry_und] at hval
  obtain ⟨cs, rfl, _⟩ := hval
  obtain ⟨fuel, hf⟩ := h
  obtain ⟨r, hc, ho⟩ := SEntry.of_trod hf
  exact ⟨r, by rw [← hc]; rfl, ho⟩
theorem arg_polys {base : Nat} {v : Value} {d : DataW H} {ps : List MemPlace} (hval : Value.okWide Tryd.prog W .any base 46 v) (h : DataW.Trod enc Tryd.prog W 0 (fun _ => true) true 46 v d ps) : ∃ l : List (List SPoint), RL W v l ∧ ∀ x ∈ l, ∀ p ∈ x, p.Ok := by
  obtain ⟨fuel, x, hf⟩ := arg_sl Ty.polys hval h
  exact RL.of_trod hf
theorem arg_n16 {base : Nat} {v : Value} {d : DataW H} {ps : List MemPlace} (hval : Value.okWide Tryd.prog W .any base 71 v) (h : DataW.Trod enc Tryd.prog W 0 (fun _ => true) true 71 v d ps) : ∃ n : Nat, v = .int .u16 n ∧ n < 65536 := by
  obtain ⟨z, h1, h2⟩ := arg_u16 hval h
  exact ⟨z.toNat, by rw [h1, Int.toNat_of_nonneg h2.1], by omega⟩
end
end Go.Proofs.YtjinhojlnaplaaaDoor
