/- What the laws' arguments are: issues. -/
import Derived.Test.YtnbcdaonkdffkaaGreatDoorEArgD
import Derived.Test.YtnbcdaonkdffkaaGreatDoorEEdnA
set_option linter.unusedVariables false
set_option linter.unusedSimpArgs false
namespace Go.Proofs.YtnbcdaonkdffkaaGreatDoor
set_option maxRecDepth 100000
open Sh Go.RowKit Go.WideShapes Go.ChangeShapes
section
variable {H : Type} {enc : TypeId × Value → H} {W : World}
theorem Ty.ints_cells15 : Tryz.prog.cellsOf 36 = 1 := by kernel_rfl
theorem trod_issue {fuel : Nat} {cs : List Value} {x : DataW H × List MemPlace} (h : DataW.trod enc Tryz.prog W 0 (fun _ => true) true fuel 55 cs = some x) : ∃ (s : SIssue) (I : Edi.Iss), cs = s.cells ∧ IssueIs W s I ∧ IssueOk I := by
  have hcs : cs.length = 6 := by
    obtain ⟨_, _, _, _, hl, _⟩ := DataW.trod_struct Ty.SIssue_und h
    rw [hl]; exact Ty.SIssue_cells
  obtain ⟨m0, y0, g0⟩ := trod_fld Ty.SIssue_und Ty.SIssue_flds h (i := 0) rfl
  rw [Ty.int_cells] at g0
  obtain ⟨m1, y1, g1⟩ := trod_fld Ty.SIssue_und Ty.SIssue_flds h (i := 1) rfl
  rw [Ty.u64_cells] at g1
  obtain ⟨m2, y2, g2⟩ := trod_fld Ty.SIssue_und Ty.SIssue_flds h (i := 2) rfl
  rw [Ty.u64_cells] at g2
  obtain ⟨m3, y3, g3⟩ := trod_fld Ty.SIssue_und Ty.SIssue_flds h (i := 3) rfl
  rw [Ty.ints_cells15] at g3
  obtain ⟨m4, y4, g4⟩ := trod_fld Ty.SIssue_und Ty.SIssue_flds h (i := 4) rfl
  rw [Ty.SSig_cells] at g4
  match cs, hcs with
  | [u0, u1, u2, u3, u4, u5], _ =>
    have g0 : DataW.trod enc Tryz.prog W 0 (fun _ => true) true m0 3 [u0] = some y0 := g0
    obtain ⟨a0, c0, k0⟩ := leaf_int Ty.int g0
    have g1 : DataW.trod enc Tryz.prog W 0 (fun _ => true) true m1 48 [u1] = some y1 := g1
    obtain ⟨a1, c1, k1⟩ := leaf_u64 Ty.u64 g1
    have g2 : DataW.trod enc Tryz.prog W 0 (fun _ => true) true m2 48 [u2] = some y2 := g2
    obtain ⟨a2, c2, k2⟩ := leaf_u64 Ty.u64 g2
    have g3 : DataW.trod enc Tryz.prog W 0 (fun _ => true) true m3 36 [u3] = some y3 := g3
    obtain ⟨l, h3, k3⟩ := trod_ints g3
    have g4 : DataW.trod enc Tryz.prog W 0 (fun _ => true) true m4 53 [u4, u5] = some y4 := g4
    obtain ⟨a4, c4, k4⟩ := SSig.of_trod g4
    obtain ⟨d3, rfl⟩ := Hdr.of_sl h3
    refine ⟨⟨a0, a1, a2, d3, a4⟩, ⟨a0, a1, a2, l, a4⟩, ?_, ⟨rfl, rfl, rfl, h3, rfl⟩, ⟨k0, k3, k4⟩⟩
    show [u0] ++ [u1] ++ [u2] ++ [d3.val] ++ [u4, u5] = [.int .i64 a0] ++ [u64v a1] ++ [u64v a2] ++ [d3.val] ++ a4.cells
    rw [c0, c1, c2, c4]
theorem arg_issue {base : Nat} {v : Value} {d : DataW H} {ps : List MemPlace} (hval : Value.okWide Tryz.prog W .any base 55 v) (h : DataW.Trod enc Tryz.prog W 0 (fun _ => true) true 55 v d ps) : ∃ (s : SIssue) (I : Edi.Iss), v = .agg s.cells.toArray ∧ IssueIs W s I ∧ IssueOk I := by
  unfold Value.okWide at hval
  rw [Ty.SIssue_und] at hval
  obtain ⟨cs, rfl, _⟩ := hval
  obtain ⟨fuel, hf⟩ := h
  obtain ⟨s, I, hc, ho⟩ := trod_issue hf
  exact ⟨s, I, by rw [← hc]; rfl, ho⟩
end
end Go.Proofs.YtnbcdaonkdffkaaGreatDoor
