/- Boxes of reports: the reference's Put. -/
import Derived.Test.YtohmledhhgdgaaaGreatDoorGMshX
set_option linter.unusedVariables false
set_option linter.unusedSimpArgs false
namespace Go.Proofs.YtohmledhhgdgaaaGreatDoor
set_option maxRecDepth 100000
set_option maxHeartbeats 8000000
open Sh Go.RowKit
def RowL (B : Nat → Prop) (w : World) (v : Value) (ss : List SReport) : Prop := ∀ W, Mod B w W → SReport.Row W v ss
def LiveS (B : Nat → Prop) (w : World) (s : SReport) (r : Rep.Rpt) : Prop := ∀ W, Mod B w W → RepIs W s r
def RepsL (B : Nat → Prop) (w : World) (ss : List SReport) (l : List Rep.Rpt) : Prop := ss.length = l.length ∧ ∀ (i : Nat) (s : SReport) (r : Rep.Rpt), ss[i]? = some s → l[i]? = some r → LiveS B w s r
def LiveR (B : Nat → Prop) (w : World) (v : Value) (l : List Rep.Rpt) : Prop := ∃ ss, RowL B w v ss ∧ RepsL B w ss l
section live
variable {B : Nat → Prop} {w w0 W : World} {v : Value} {s : SReport} {r : Rep.Rpt} {ss : List SReport} {l : List Rep.Rpt}
theorem RowL.mod (h : RowL B w v ss) (m : Mod B w W) : RowL B W v ss := fun W' m' => h W' (m.trans m')
theorem LiveS.mod (h : LiveS B w s r) (m : Mod B w W) : LiveS B W s r := fun W' m' => h W' (m.trans m')
theorem RepsL.mod (h : RepsL B w ss l) (m : Mod B w W) : RepsL B W ss l := ⟨h.1, fun i s r e1 e2 => (h.2 i s r e1 e2).mod m⟩
theorem LiveR.mod (h : LiveR B w v l) (m : Mod B w W) : LiveR B W v l := by obtain ⟨ss, h1, h2⟩ := h; exact ⟨ss, h1.mod m, h2.mod m⟩
theorem LiveS.ext (h : LiveS B w s r) (x : Ext w W) : LiveS B W s r := h.mod (.of_ext x)
theorem LiveR.ext (h : LiveR B w v l) (x : Ext w W) : LiveR B W v l := h.mod (.of_ext x)
theorem LiveS.is (h : LiveS B w s r) : RepIs w s r := h w (Mod.refl _ _)
theorem LiveR.is (h : LiveR B w v l) : RepsIs w v l := by
  obtain ⟨ss, h1, h2⟩ := h
  exact ⟨ss, h1 w (Mod.refl _ _), h2.1, fun i s r e1 e2 => (h2.2 i s r e1 e2).is⟩
theorem LiveS.of_ext (h : RepIs w0 s r) (x : Ext w0 w) (hB : ∀ k, B k → w0.heap.size ≤ k) : LiveS B w s r := fun W m =>
  h.ext ((Mod.of_ext x : Mod (w0.heap.size ≤ ·) w0 w).comp m (fun _ _ h => h) (fun k _ h => hB k h) : Mod (w0.heap.size ≤ ·) w0 W).new
theorem LiveR.of_ext (h : RepsIs w0 v l) (x : Ext w0 w) (hB : ∀ k, B k → w0.heap.size ≤ k) : LiveR B w v l := by
  obtain ⟨ss, h1, h2, h3⟩ := h
  exact ⟨ss, fun W m => Sl.ext h1 ((Mod.of_ext x : Mod (w0.heap.size ≤ ·) w0 w).comp m (fun _ _ h => h) (fun k _ h => hB k h) : Mod (w0.heap.size ≤ ·) w0 W).new, h2, fun i s r e1 e2 => LiveS.of_ext (h3 i s r e1 e2) x hB⟩
theorem RowL.of_own {base : Nat} (h : SReport.Owns base w v ss) (hB : ∀ k, B k → k < base) : RowL B w v ss := fun W m =>
  Sl.of_owns (Own.mod h m fun k hk hb => by have := (Own.block h hk).1; have := hB k hb; omega)
theorem RepsL.nil : RepsL B w [] [] := ⟨rfl, fun i s r h _ => by simp at h⟩
end live
end Go.Proofs.YtohmledhhgdgaaaGreatDoor
