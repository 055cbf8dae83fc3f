/- Boxes of reports: Add and Merge, the plain law; the reference's Add and Merge. -/
import Derived.Test.YtohmledhhgdgaaaGreatDoorGMshY
set_option linter.unusedVariables false
set_option linter.unusedSimpArgs false
namespace Go.Proofs.YtohmledhhgdgaaaGreatDoor
set_option maxRecDepth 100000
set_option maxHeartbeats 8000000
open Sh Go.RowKit
noncomputable def addV (b : Int × List Rep.Rpt) (r : Rep.Rpt) (p : Int) : (Int × List Rep.Rpt) × Bool × Int :=
  if bvalid b = false then ((0, []), false, 1) else if (Rep.checkV r p).2 ≠ 0 then ((0, []), false, (Rep.checkV r p).2) else if (Rep.checkV r p).1 = false then (b, false, 0)
  else if 500 < (Msh.put b.2 r).length then ((0, []), false, 2) else ((b.1, Msh.put b.2 r), true, 0)
noncomputable def mergeV (a b : Int × List Rep.Rpt) : (Int × List Rep.Rpt) × Int :=
  if bvalid a = false ∨ bvalid b = false then ((0, []), 1) else if 500 < (Msh.merge a.2 b.2).length then ((0, []), 2) else ((a.1, Msh.merge a.2 b.2), 0)
def LiveB (B : Nat → Prop) (w : World) (g : SBox) (b : Int × List Rep.Rpt) : Prop := g.veh = b.1 ∧ LiveR B w g.reps.val b.2
section live
variable {B B' : Nat → Prop} {w w0 W : World} {v : Value} {s : SReport} {g : SBox} {b : Int × List Rep.Rpt} {r : Rep.Rpt} {l : List Rep.Rpt}
theorem LiveB.is (h : LiveB B w g b) : BoxIs w g b := ⟨h.1, h.2.is⟩
theorem LiveB.mod (h : LiveB B w g b) (m : Mod B w W) : LiveB B W g b := ⟨h.1, h.2.mod m⟩
theorem LiveB.ext (h : LiveB B w g b) (x : Ext w W) : LiveB B W g b := ⟨h.1, h.2.ext x⟩
theorem wide_mod (x : Ext w W) (hB : ∀ k, B' k → B k ∨ w.heap.size ≤ k) {W' : World} (m : Mod B' W W') : Mod B w W' :=
  (Mod.of_ext x : Mod B w W).comp m (fun _ _ h => h) fun k hk h => (hB k h).elim id fun e => by omega
theorem LiveS.wide (h : LiveS B w s r) (x : Ext w W) (hB : ∀ k, B' k → B k ∨ w.heap.size ≤ k) : LiveS B' W s r := fun W' m => h W' (wide_mod x hB m)
theorem LiveR.wide (h : LiveR B w v l) (x : Ext w W) (hB : ∀ k, B' k → B k ∨ w.heap.size ≤ k) : LiveR B' W v l := by
  obtain ⟨ss, h1, h2, h3⟩ := h
  exact ⟨ss, fun W' m => h1 W' (wide_mod x hB m), h2, fun i s r e1 e2 => (h3 i s r e1 e2).wide x hB⟩
theorem LiveR.sub (h : LiveR B' w v l) (hB : ∀ k, B k → B' k) : LiveR B w v l := by
  obtain ⟨ss, h1, h2, h3⟩ := h
  exact ⟨ss, fun W' m => h1 W' (m.mono fun k _ => hB k), h2, fun i s r e1 e2 W' m => h3 i s r e1 e2 W' (m.mono fun k _ => hB k)⟩
theorem LiveR.nil (B : Nat → Prop) (w : World) : LiveR B w (.slice none 0 0) [] := ⟨[], fun W _ => SReport.row_nil W, RepsL.nil⟩
theorem LiveB.zero (B : Nat → Prop) (w : World) : LiveB B w SBox.zero (0, []) := ⟨rfl, LiveR.nil B w⟩
end live
theorem LiveR.hdr {B : Nat → Prop} {w : World} {v : Value} {l : List Rep.Rpt} (h : LiveR B w v l) : ∃ d : Hdr, v = d.val := by
  obtain ⟨ss, h1, _⟩ := h
  exact Hdr.of_sl (h1 w (Mod.refl _ _))
def AddQ (B : Nat → Prop) (b : Int × List Rep.Rpt) (r : Rep.Rpt) (p : Int) (w : World) (u : Value) (w' : World) : Prop := ∃ g : SBox, u = .tuple #[.agg g.cells.toArray, .bool (addV b r p).2.1, .int .i64 (addV b r p).2.2] ∧ LiveB B w' g (addV b r p).1 ∧ Ext w w'
def MergeQ (B : Nat → Prop) (a b : Int × List Rep.Rpt) (w : World) (u : Value) (w' : World) : Prop := ∃ g : SBox, u = .tuple #[.agg g.cells.toArray, .int .i64 (mergeV a b).2] ∧ LiveB B w' g (mergeV a b).1 ∧ Ext w w'
theorem new_nobox : Tryz.prog.built 24 [] = some SBox.zero.cells.toArray := by kernel_rfl
theorem box_out3 {g r : SBox} {b : Nat} {w : World} {x y : Value} {R : Ending → World → Prop} {X : List PanicEntry → World → Prop} (hat : At w b (.cells r.cells.toArray 24 (0, 0))) (hR : ∀ w', Mod (· = b) w w' → R (.returned (.tuple #[.agg g.cells.toArray, x, y])) w') :
    DoU Tryz.prog (Instr.storeAt 24 (.pointer (some ⟨b, 0, none⟩)) (.agg g.cells.toArray)) w (fun _ w8 => Res Tryz.prog [.cell (.pointer (some ⟨b, 0, none⟩)) 24, .tmp x, .tmp y] w8 R) X := by
  refine SBox.set (s := g) hat fun w2 m2 h2 _ => ?_
  have hvv : (loadVar 24 ⟨b, 0, none⟩).run Tryz.prog w2 = .ok (.agg g.cells.toArray) w2 := loadVar_agg Ty.SBox_agg Ty.SBox_size (xs := g.cells) rfl (has_of_at h2)
  exact res_i (rv_cell hvv (rv_tmp (rv_tmp (rv_nil w2)))) (hR _ m2)
theorem box_out2 {g r : SBox} {b : Nat} {w : World} {x : Value} {R : Ending → World → Prop} {X : List PanicEntry → World → Prop} (hat : At w b (.cells r.cells.toArray 24 (0, 0))) (hR : ∀ w', Mod (· = b) w w' → R (.returned (.tuple #[.agg g.cells.toArray, x])) w') :
    DoU Tryz.prog (Instr.storeAt 24 (.pointer (some ⟨b, 0, none⟩)) (.agg g.cells.toArray)) w (fun _ w8 => Res Tryz.prog [.cell (.pointer (some ⟨b, 0, none⟩)) 24, .tmp x] w8 R) X := by
  refine SBox.set (s := g) hat fun w2 m2 h2 _ => ?_
  have hvv : (loadVar 24 ⟨b, 0, none⟩).run Tryz.prog w2 = .ok (.agg g.cells.toArray) w2 := loadVar_agg Ty.SBox_agg Ty.SBox_size (xs := g.cells) rfl (has_of_at h2)
  exact res_i (rv_cell hvv (rv_tmp (rv_nil w2))) (hR _ m2)
end Go.Proofs.YtohmledhhgdgaaaGreatDoor
