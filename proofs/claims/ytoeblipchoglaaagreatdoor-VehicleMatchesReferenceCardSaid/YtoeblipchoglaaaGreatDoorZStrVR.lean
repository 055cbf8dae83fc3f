/- WRITTEN BY structs.py: rows of flat structs. -/
import Derived.Test.YtoeblipchoglaaaGreatDoorZStrV
import Derived.Test.YtoeblipchoglaaaGreatDoorZStrA
namespace Go.Proofs.YtoeblipchoglaaaGreatDoor
open Sh Go.RowKit Go.WideShapes Go.ChangeShapes
set_option maxRecDepth 100000
set_option maxHeartbeats 2000000
theorem Ty.SVeh_row : Tryz.prog.underlying 44 = some (.slice 28) := by kernel_rfl
abbrev SVeh.Row (w : World) (v : Value) (l : List SVeh) : Prop := Sl w 10 v l.length (fl SVeh.cells l)
abbrev SVeh.Owns (base : Nat) (w : World) (v : Value) (l : List SVeh) : Prop := w.ownsRow base 28 10 v l.length (fl SVeh.cells l)
theorem SVeh.row_len {w : World} {K : Value → World → Prop} {X : List PanicEntry → World → Prop} {cs : Array Bool} {v : Value} {l : List SVeh} (h : SVeh.Row w v l) : CallB Tryz.prog .len #[44] 3 cs #[v] w K X = K (.int .i64 l.length) w := h.len Ty.SVeh_row
theorem SVeh.row_at {w : World} {v : Value} {l : List SVeh} (h : SVeh.Row w v l) {j : Nat} (hj : j < l.length) : ∃ b o, (∀ w1, Ext w w1 → Has w1 b o l[j].cells) ∧ b < w.heap.size ∧
    ∀ (w1 : World) (K : Value → World → Prop) (X : List PanicEntry → World → Prop), DoV Tryz.prog (Instr.indexAt 44 v (.int .i64 j)) w1 K X = K (.pointer (some ⟨b, o, none⟩)) w1 := by
  obtain ⟨i, hi, hz, hs, hby⟩ := Ty.info_parts Ty.SVeh_info
  obtain ⟨b, o, h1, h2, h3⟩ := Sl.el (c := SVeh.cells) (sz := 10) SVeh.len h Ty.SVeh_row hi hs (k := .i64) hj (by decide)
  have h1 : Has w b o l[j].cells := h1
  exact ⟨b, o, fun w1 x1 => h1.ext h2 x1, h2, h3⟩
theorem SVeh.row_lit {w : World} {K : Value → World → Prop} {X : List PanicEntry → World → Prop} {m : Nat} {parts : Array (Nat × Value)} (els : List SVeh) (hn : els.length = m) (hn0 : 0 < m) (hsm : m * 10 ≤ 16777216) (hp : parts.toList = ((els.map fun a => Value.agg a.cells.toArray).zipIdx 0).map fun y => (y.2, y.1))
    (hk : ∀ v w1, Ext w w1 → SVeh.Owns w.heap.size w1 v els → w1.heap.size = w.heap.size + 1 → K v w1) : DoV Tryz.prog (Instr.buildSlice 44 m parts) w K X := by
  obtain ⟨i, hi, hz, hs, hby⟩ := Ty.info_parts Ty.SVeh_info
  exact lit_els (c := SVeh.cells) (fun a => Value.agg a.cells.toArray) els Ty.SVeh_row hi hz hs (by decide) SVeh.len (fun _ => rfl) hn hn0 hsm hp hk
end Go.Proofs.YtoeblipchoglaaaGreatDoor
