/- What the laws' arguments are: reports, boxes. -/
import Derived.Test.YtohmledhhgdgaaaGreatDoorGArgR
import Derived.Test.YtohmledhhgdgaaaGreatDoorGMshW
set_option linter.unusedVariables false
set_option linter.unusedSimpArgs false
namespace Go.Proofs.YtohmledhhgdgaaaGreatDoor
set_option maxRecDepth 100000
open Sh Go.RowKit Go.WideShapes Go.ChangeShapes
section
variable {H : Type} {enc : TypeId × Value → H} {W : World}
theorem Ty.reports_cells : Tryz.prog.cellsOf 22 = 1 := by kernel_rfl
instance : Inhabited (SReport × Rep.Rpt) := ⟨(SReport.zero, Rep.Rpt.zero)⟩
theorem fl_fst (l : List (SReport × Rep.Rpt)) : fl (fun p : SReport × Rep.Rpt => p.1.cells) l = fl SReport.cells (l.map Prod.fst) := by
  induction l with
  | nil => rfl
  | cons p l ih => rw [List.map_cons, fl_cons, fl_cons, ih]
theorem trod_reports {fuel : Nat} {v : Value} {x : DataW H × List MemPlace} (h : DataW.trod enc Tryz.prog W 0 (fun _ => true) true fuel 22 [v] = some x) : ∃ l : List Rep.Rpt, RepsIs W v l ∧ ∀ r ∈ l, RepOk r := by
  obtain ⟨l, h1, h2⟩ := trod_list (α := SReport × Rep.Rpt) (c := fun p => p.1.cells) (Q := fun p => RepIs W p.1 p.2 ∧ RepOk p.2) Ty.SReport_row Ty.SReport_cells (by decide) h fun _ _ _ hx => by
    obtain ⟨s, r, e, k1, k2⟩ := trod_report hx
    exact ⟨(s, r), e, k1, k2⟩
  refine ⟨l.map Prod.snd, ⟨l.map Prod.fst, ?_, by simp, fun i s r e1 e2 => ?_⟩, fun r hr => ?_⟩
  · have h1 := h1
    rw [fl_fst] at h1
    show Sl W 7 v (l.map Prod.fst).length (fl SReport.cells (l.map Prod.fst))
    rw [List.length_map]
    exact h1
  · rw [List.getElem?_map] at e1 e2
    cases hp : l[i]? with
    | none => rw [hp] at e1; cases e1
    | some p =>
      rw [hp] at e1 e2
      cases e1; cases e2
      exact (h2 p (List.mem_of_getElem? hp)).1
  · obtain ⟨p, hp, rfl⟩ := List.mem_map.1 hr
    exact (h2 p hp).2
theorem trod_box {fuel : Nat} {cs : List Value} {x : DataW H × List MemPlace} (h : DataW.trod enc Tryz.prog W 0 (fun _ => true) true fuel 24 cs = some x) : ∃ (s : SBox) (b : Int × List Rep.Rpt), cs = s.cells ∧ BoxIs W s b ∧ ∀ r ∈ b.2, RepOk r := by
  have hcs : cs.length = 2 := by
    obtain ⟨_, _, _, _, hl, _⟩ := DataW.trod_struct Ty.SBox_und h
    rw [hl]; exact Ty.SBox_cells
  obtain ⟨m0, y0, g0⟩ := trod_fld Ty.SBox_und Ty.SBox_flds h (i := 0) rfl
  rw [Ty.int_cells] at g0
  obtain ⟨m1, y1, g1⟩ := trod_fld Ty.SBox_und Ty.SBox_flds h (i := 1) rfl
  rw [Ty.reports_cells] at g1
  match cs, hcs with
  | [u0, u1], _ =>
    have g0 : DataW.trod enc Tryz.prog W 0 (fun _ => true) true m0 3 [u0] = some y0 := g0
    obtain ⟨a0, c0, k0⟩ := leaf_int Ty.int g0
    have g1 : DataW.trod enc Tryz.prog W 0 (fun _ => true) true m1 22 [u1] = some y1 := g1
    obtain ⟨l, h1, k1⟩ := trod_reports g1
    obtain ⟨ss, h2, _⟩ := id h1
    obtain ⟨d1, rfl⟩ := Hdr.of_sl h2
    refine ⟨⟨a0, d1⟩, (a0, l), ?_, ⟨rfl, h1⟩, k1⟩
    show [u0] ++ [d1.val] = [.int .i64 a0] ++ [d1.val]
    rw [c0]
theorem arg_box {base : Nat} {v : Value} {d : DataW H} {ps : List MemPlace} (hval : Value.okWide Tryz.prog W .any base 24 v) (h : DataW.Trod enc Tryz.prog W 0 (fun _ => true) true 24 v d ps) : ∃ (s : SBox) (b : Int × List Rep.Rpt), v = .agg s.cells.toArray ∧ BoxIs W s b ∧ ∀ r ∈ b.2, RepOk r := by
  unfold Value.okWide at hval
  rw [Ty.SBox_und] at hval
  obtain ⟨cs, rfl, _⟩ := hval
  obtain ⟨fuel, hf⟩ := h
  obtain ⟨s, b, hc, ho⟩ := trod_box hf
  exact ⟨s, b, by rw [← hc]; rfl, ho⟩
theorem arg_reports {base : Nat} {v : Value} {d : DataW H} {ps : List MemPlace} (hval : Value.okWide Tryz.prog W .any base 22 v) (h : DataW.Trod enc Tryz.prog W 0 (fun _ => true) true 22 v d ps) : ∃ l : List Rep.Rpt, RepsIs W v l ∧ ∀ r ∈ l, RepOk r := by
  obtain ⟨fuel, x, hf⟩ := arg_sl Ty.SReport_row hval h
  exact trod_reports hf
end
end Go.Proofs.YtohmledhhgdgaaaGreatDoor
