/- What the laws' arguments are: charts, points. -/
import Derived.Test.YtdfpdfahcbflpabDoorHArgB
import Derived.Test.YtdfpdfahcbflpabDoorHChaT
set_option linter.unusedVariables false
set_option linter.unusedSimpArgs false
namespace Go.Proofs.YtdfpdfahcbflpabDoor
set_option maxRecDepth 100000
open Sh Go.RowKit Go.WideShapes Go.ChangeShapes
section
variable {H : Type} {enc : TypeId × Value → H} {W : World}
theorem Ty.pts_cells15 : Tryd.prog.cellsOf 37 = 1 := by kernel_rfl
theorem Ty.cs_cells15 : Tryd.prog.cellsOf 22 = 1 := by kernel_rfl
theorem Ty.bs_cells15 : Tryd.prog.cellsOf 23 = 1 := by kernel_rfl
theorem Ty.ls_cells15 : Tryd.prog.cellsOf 24 = 1 := by kernel_rfl
def LineOk (l : Line) : Prop := I64 l.1 ∧ ∀ p ∈ l.2, p.Ok
theorem trod_line {fuel : Nat} {cs : List Value} {x : DataW H × List MemPlace} (h : DataW.trod enc Tryd.prog W 0 (fun _ => true) true fuel 39 cs = some x) : ∃ (s : SLine) (l : Line), cs = s.cells ∧ LineIs W s l ∧ LineOk l := by
  have hcs : cs.length = 2 := by
    obtain ⟨_, _, _, _, hl, _⟩ := DataW.trod_struct Ty.SLine_und h
    rw [hl]; exact Ty.SLine_cells
  obtain ⟨m0, y0, g0⟩ := trod_fld Ty.SLine_und Ty.SLine_flds h (i := 0) rfl
  rw [Ty.int_cells] at g0
  obtain ⟨m1, y1, g1⟩ := trod_fld Ty.SLine_und Ty.SLine_flds h (i := 1) rfl
  rw [Ty.pts_cells15] at g1
  match cs, hcs with
  | [u0, u1], _ =>
    have g0 : DataW.trod enc Tryd.prog W 0 (fun _ => true) true m0 3 [u0] = some y0 := g0
    obtain ⟨a0, c0, k0⟩ := leaf_int Ty.int g0
    have g1 : DataW.trod enc Tryd.prog W 0 (fun _ => true) true m1 37 [u1] = some y1 := g1
    obtain ⟨l, h1, k1⟩ := SPoint.row_of_trod g1
    obtain ⟨d1, rfl⟩ := Hdr.of_sl h1
    refine ⟨⟨a0, d1⟩, (a0, l), ?_, ⟨rfl, h1⟩, k0, k1⟩
    show [u0] ++ [d1.val] = [.int .i64 a0] ++ [d1.val]
    rw [c0]
instance : Inhabited (SLine × Line) := ⟨(SLine.zero, (0, []))⟩
theorem fl_fst15 (l : List (SLine × Line)) : fl (fun p : SLine × Line => p.1.cells) l = fl SLine.cells (l.map Prod.fst) := by
  induction l with
  | nil => rfl
  | cons p l ih => rw [List.map_cons, fl_cons, fl_cons, ih]
theorem trod_lines {fuel : Nat} {v : Value} {x : DataW H × List MemPlace} (h : DataW.trod enc Tryd.prog W 0 (fun _ => true) true fuel 24 [v] = some x) : ∃ l : List Line, LinesIs W v l ∧ ∀ r ∈ l, LineOk r := by
  obtain ⟨l, h1, h2⟩ := trod_list (α := SLine × Line) (c := fun p => p.1.cells) (Q := fun p => LineIs W p.1 p.2 ∧ LineOk p.2) Ty.SLine_row Ty.SLine_cells (by decide) h fun _ _ _ hx => by
    obtain ⟨s, r, e, k1, k2⟩ := trod_line hx
    exact ⟨(s, r), e, k1, k2⟩
  refine ⟨l.map Prod.snd, ⟨l.map Prod.fst, ?_, by simp, fun i s r e1 e2 => ?_⟩, fun r hr => ?_⟩
  · have h1 := h1
    rw [fl_fst15] at h1
    show Sl W 2 v (l.map Prod.fst).length (fl SLine.cells (l.map Prod.fst))
    rw [List.length_map]
    exact h1
  · rw [List.getElem?_map] at e1 e2
    cases hp : l[i]? with
    | none => rw [hp] at e1; cases e1
    | some p =>
      rw [hp] at e1 e2
      cases e1; cases e2
      exact (h2 p (List.mem_of_getElem? hp)).1
  · obtain ⟨p, hp, rfl⟩ := List.mem_map.1 hr
    exact (h2 p hp).2
theorem trod_chart {fuel : Nat} {cs : List Value} {x : DataW H × List MemPlace} (h : DataW.trod enc Tryd.prog W 0 (fun _ => true) true fuel 26 cs = some x) : ∃ (s : SChart) (C : Cht), cs = s.cells ∧ ChartIs W s C ∧ ChartOk C := by
  have hcs : cs.length = 9 := by
    obtain ⟨_, _, _, _, hl, _⟩ := DataW.trod_struct Ty.SChart_und h
    rw [hl]; exact Ty.SChart_cells
  obtain ⟨m0, y0, g0⟩ := trod_fld Ty.SChart_und Ty.SChart_flds h (i := 0) rfl
  obtain ⟨m1, y1, g1⟩ := trod_fld Ty.SChart_und Ty.SChart_flds h (i := 1) rfl
  obtain ⟨m2, y2, g2⟩ := trod_fld Ty.SChart_und Ty.SChart_flds h (i := 2) rfl
  obtain ⟨m3, y3, g3⟩ := trod_fld Ty.SChart_und Ty.SChart_flds h (i := 3) rfl
  obtain ⟨m4, y4, g4⟩ := trod_fld Ty.SChart_und Ty.SChart_flds h (i := 4) rfl
  obtain ⟨m5, y5, g5⟩ := trod_fld Ty.SChart_und Ty.SChart_flds h (i := 5) rfl
  rw [Ty.int_cells] at g0 g1 g2 g3 g4 g5
  obtain ⟨m6, y6, g6⟩ := trod_fld Ty.SChart_und Ty.SChart_flds h (i := 6) rfl
  rw [Ty.cs_cells15] at g6
  obtain ⟨m7, y7, g7⟩ := trod_fld Ty.SChart_und Ty.SChart_flds h (i := 7) rfl
  rw [Ty.bs_cells15] at g7
  obtain ⟨m8, y8, g8⟩ := trod_fld Ty.SChart_und Ty.SChart_flds h (i := 8) rfl
  rw [Ty.ls_cells15] at g8
  match cs, hcs with
  | [u0, u1, u2, u3, u4, u5, u6, u7, u8], _ =>
    have g0 : DataW.trod enc Tryd.prog W 0 (fun _ => true) true m0 3 [u0] = some y0 := g0
    obtain ⟨a0, c0, k0⟩ := leaf_int Ty.int g0
    have g1 : DataW.trod enc Tryd.prog W 0 (fun _ => true) true m1 3 [u1] = some y1 := g1
    obtain ⟨a1, c1, k1⟩ := leaf_int Ty.int g1
    have g2 : DataW.trod enc Tryd.prog W 0 (fun _ => true) true m2 3 [u2] = some y2 := g2
    obtain ⟨a2, c2, k2⟩ := leaf_int Ty.int g2
    have g3 : DataW.trod enc Tryd.prog W 0 (fun _ => true) true m3 3 [u3] = some y3 := g3
    obtain ⟨a3, c3, k3⟩ := leaf_int Ty.int g3
    have g4 : DataW.trod enc Tryd.prog W 0 (fun _ => true) true m4 3 [u4] = some y4 := g4
    obtain ⟨a4, c4, k4⟩ := leaf_int Ty.int g4
    have g5 : DataW.trod enc Tryd.prog W 0 (fun _ => true) true m5 3 [u5] = some y5 := g5
    obtain ⟨a5, c5, k5⟩ := leaf_int Ty.int g5
    have g6 : DataW.trod enc Tryd.prog W 0 (fun _ => true) true m6 22 [u6] = some y6 := g6
    obtain ⟨cl, h6, k6⟩ := SCell.row_of_trod g6
    have g7 : DataW.trod enc Tryd.prog W 0 (fun _ => true) true m7 23 [u7] = some y7 := g7
    obtain ⟨bl, h7, k7⟩ := SBeacon.row_of_trod g7
    have g8 : DataW.trod enc Tryd.prog W 0 (fun _ => true) true m8 24 [u8] = some y8 := g8
    obtain ⟨ll, h8, k8⟩ := trod_lines g8
    obtain ⟨ss, h8', _⟩ := id h8
    obtain ⟨d6, rfl⟩ := Hdr.of_sl h6
    obtain ⟨d7, rfl⟩ := Hdr.of_sl h7
    obtain ⟨d8, rfl⟩ := Hdr.of_sl h8'
    refine ⟨⟨a0, a1, a2, a3, a4, a5, d6, d7, d8⟩, ⟨a0, a1, a2, a3, a4, a5, cl, bl, ll⟩, ?_, ⟨rfl, rfl, rfl, rfl, rfl, rfl, h6, h7, h8⟩, ⟨⟨k0, k1, k2, k3, k4, k5⟩, k6, k7, k8⟩⟩
    show [u0] ++ [u1] ++ [u2] ++ [u3] ++ [u4] ++ [u5] ++ [d6.val] ++ [d7.val] ++ [d8.val] = [.int .i64 a0] ++ [.int .i64 a1] ++ [.int .i64 a2] ++ [.int .i64 a3] ++ [.int .i64 a4] ++ [.int .i64 a5] ++ [d6.val] ++ [d7.val] ++ [d8.val]
    rw [c0, c1, c2, c3, c4, c5]
theorem arg_chart {base : Nat} {v : Value} {d : DataW H} {ps : List MemPlace} (hval : Value.okWide Tryd.prog W .any base 26 v) (h : DataW.Trod enc Tryd.prog W 0 (fun _ => true) true 26 v d ps) : ∃ (s : SChart) (C : Cht), v = .agg s.cells.toArray ∧ ChartIs W s C ∧ ChartOk C := by
  unfold Value.okWide at hval
  rw [Ty.SChart_und] at hval
  obtain ⟨cs, rfl, _⟩ := hval
  obtain ⟨fuel, hf⟩ := h
  obtain ⟨s, C, hc, ho⟩ := trod_chart hf
  exact ⟨s, C, by rw [← hc]; rfl, ho⟩
end
end Go.Proofs.YtdfpdfahcbflpabDoor
