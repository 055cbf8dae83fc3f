/- WRITTEN BY structs.py: rows of flat structs. -/
import Derived.Test.YtohmledhhgdgaaaGreatDoorGStrA
import Derived.Test.YtohmledhhgdgaaaGreatDoorGRepJ
set_option linter.unusedVariables false
set_option linter.unusedSimpArgs false
namespace Go.Proofs.YtohmledhhgdgaaaGreatDoor
open Sh Go.RowKit Go.WideShapes Go.ChangeShapes
set_option maxRecDepth 100000
set_option maxHeartbeats 2000000
theorem Ty.SReport_row : Tryz.prog.underlying 22 = some (.slice 30) := by kernel_rfl
abbrev SReport.Row (w : World) (v : Value) (l : List SReport) : Prop := Sl w 7 v l.length (fl SReport.cells l)
abbrev SReport.Owns (base : Nat) (w : World) (v : Value) (l : List SReport) : Prop := w.ownsRow base 30 7 v l.length (fl SReport.cells l)
theorem SReport.row_nil (w : World) : SReport.Row w (.slice none 0 0) [] := Sl.nil _ _
theorem SReport.owns_nil (base : Nat) (w : World) : SReport.Owns base w (.slice none 0 0) [] := Own.nil _ _ _ _
theorem SReport.row_len {w : World} {K : Value → World → Prop} {X : List PanicEntry → World → Prop} {cs : Array Bool} {v : Value} {l : List SReport} (h : SReport.Row w v l) : CallB Tryz.prog .len #[22] 3 cs #[v] w K X = K (.int .i64 l.length) w := h.len Ty.SReport_row
theorem SReport.row_at {w : World} {v : Value} {l : List SReport} (h : SReport.Row w v l) {j : Nat} (hj : j < l.length) : ∃ b o, (∀ w1, Ext w w1 → Has w1 b o l[j].cells) ∧ b < w.heap.size ∧
    ∀ (w1 : World) (K : Value → World → Prop) (X : List PanicEntry → World → Prop), DoV Tryz.prog (Instr.indexAt 22 v (.int .i64 j)) w1 K X = K (.pointer (some ⟨b, o, none⟩)) w1 := by
  obtain ⟨i, hi, hz, hs, hby⟩ := Ty.info_parts Ty.SReport_info
  obtain ⟨b, o, h1, h2, h3⟩ := Sl.el (c := SReport.cells) (sz := 7) SReport.len h Ty.SReport_row hi hs (k := .i64) hj (by decide)
  have h1 : Has w b o l[j].cells := h1
  exact ⟨b, o, fun w1 x1 => h1.ext h2 x1, h2, h3⟩
theorem SReport.row_apps {w : World} {K : Value → World → Prop} {X : List PanicEntry → World → Prop} {base : Nat} {cs : Array Bool} {v x : Value} {l m : List SReport} (hown : SReport.Owns base w v l) (hx : SReport.Row w x m) (hl : l.length + m.length < 100000000000) (hb : base ≤ w.heap.size) (hk : ∀ v' w1, SReport.Owns base w1 v' (l ++ m) → Mod (fun k => v.ownBlock = some k) w w1 → K v' w1) :
    CallB Tryz.prog .append #[22, 22] 22 cs #[v, x] w K X := by
  obtain ⟨i, hi, hz, hs, hby⟩ := Ty.info_parts Ty.SReport_info
  exact app_els (c := SReport.cells) Ty.SReport_row hi hz hs hby rfl (by decide) SReport.one hown hx (by omega) (by omega) hb hk
theorem SReport.row_lit0 {w : World} {K : Value → World → Prop} {X : List PanicEntry → World → Prop} (hk : ∀ v w1, Ext w w1 → SReport.Owns w.heap.size w1 v [] → w1.heap.size = w.heap.size + 1 → K v w1) : DoV Tryz.prog (Instr.buildSlice 22 0 #[]) w K X := by
  obtain ⟨i, hi, hz, hs, hby⟩ := Ty.info_parts Ty.SReport_info
  exact lit0_e (sz := 7) Ty.SReport_row hi hk
theorem SReport.row_from {w : World} {K : Value → World → Prop} {X : List PanicEntry → World → Prop} {v : Value} {l : List SReport} (h : SReport.Row w v l) {k : Nat} (hk : k ≤ l.length) (hK : ∀ v', SReport.Row w v' (l.drop k) → K v' w) : DoV Tryz.prog (Instr.sliceAt 22 v (some (.int .i64 k)) none none) w K X := by
  obtain ⟨i, hi, hz, hs, hby⟩ := Ty.info_parts Ty.SReport_info
  refine slice_from Ty.SReport_row hi hs (by decide) h hk fun v' hv' _ => hK v' ?_
  rw [fl_drop SReport.len] at hv'
  rw [SReport.Row, List.length_drop]; exact hv'
end Go.Proofs.YtohmledhhgdgaaaGreatDoor
namespace Go.Proofs.YtohmledhhgdgaaaGreatDoor
set_option maxRecDepth 100000
set_option maxHeartbeats 8000000
open Sh Go.RowKit
end Go.Proofs.YtohmledhhgdgaaaGreatDoor
namespace Go.Proofs.YtohmledhhgdgaaaGreatDoor
set_option maxRecDepth 100000
set_option maxHeartbeats 8000000
open Sh Go.RowKit
end Go.Proofs.YtohmledhhgdgaaaGreatDoor
namespace Go.Proofs.YtohmledhhgdgaaaGreatDoor
set_option maxRecDepth 100000
set_option maxHeartbeats 8000000
open Sh Go.RowKit
end Go.Proofs.YtohmledhhgdgaaaGreatDoor
namespace Go.Proofs.YtohmledhhgdgaaaGreatDoor
set_option maxRecDepth 100000
set_option maxHeartbeats 8000000
open Sh Go.RowKit
end Go.Proofs.YtohmledhhgdgaaaGreatDoor
namespace Go.Proofs.YtohmledhhgdgaaaGreatDoor
set_option maxRecDepth 100000
set_option maxHeartbeats 8000000
open Sh Go.RowKit
end Go.Proofs.YtohmledhhgdgaaaGreatDoor
namespace Go.Proofs.YtohmledhhgdgaaaGreatDoor
set_option maxRecDepth 100000
set_option maxHeartbeats 8000000
open Sh Go.RowKit
end Go.Proofs.YtohmledhhgdgaaaGreatDoor
