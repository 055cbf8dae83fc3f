/- WRITTEN BY structs.py: rows of flat structs. -/
import Derived.Test.YtjinhojlnaplaaaDoorStrR
import Derived.Test.YtjinhojlnaplaaaDoorRowE
namespace Go.Proofs.YtjinhojlnaplaaaDoor
open Sh Go.RowKit Go.WideShapes Go.ChangeShapes
set_option maxRecDepth 100000
set_option maxHeartbeats 2000000
theorem Ty.SPoint_row : Tryd.prog.underlying 110 = some (.slice 109) := by kernel_rfl
abbrev SPoint.Row (w : World) (v : Value) (l : List SPoint) : Prop := Sl w 2 v l.length (fl SPoint.cells l)
abbrev SPoint.Owns (base : Nat) (w : World) (v : Value) (l : List SPoint) : Prop := w.ownsRow base 109 2 v l.length (fl SPoint.cells l)
theorem SPoint.row_nil (w : World) : SPoint.Row w (.slice none 0 0) [] := Sl.nil _ _
theorem SPoint.owns_nil (base : Nat) (w : World) : SPoint.Owns base w (.slice none 0 0) [] := Own.nil _ _ _ _
theorem SPoint.row_len {w : World} {K : Value → World → Prop} {X : List PanicEntry → World → Prop} {cs : Array Bool} {v : Value} {l : List SPoint} (h : SPoint.Row w v l) : CallB Tryd.prog .len #[110] 3 cs #[v] w K X = K (.int .i64 l.length) w := h.len Ty.SPoint_row
theorem SPoint.row_at {w : World} {v : Value} {l : List SPoint} (h : SPoint.Row w v l) {j : Nat} (hj : j < l.length) : ∃ b o, (∀ w1, Ext w w1 → Has w1 b o l[j].cells) ∧ b < w.heap.size ∧
    ∀ (w1 : World) (K : Value → World → Prop) (X : List PanicEntry → World → Prop), DoV Tryd.prog (Instr.indexAt 110 v (.int .i64 j)) w1 K X = K (.pointer (some ⟨b, o, none⟩)) w1 := by
  obtain ⟨i, hi, hz, hs, hby⟩ := Ty.info_parts Ty.SPoint_info
  obtain ⟨b, o, h1, h2, h3⟩ := Sl.el (c := SPoint.cells) (sz := 2) SPoint.len h Ty.SPoint_row hi hs (k := .i64) hj (by decide)
  have h1 : Has w b o l[j].cells := h1
  exact ⟨b, o, fun w1 x1 => h1.ext h2 x1, h2, h3⟩
theorem SPoint.row_app {w : World} {K : Value → World → Prop} {X : List PanicEntry → World → Prop} {base : Nat} {cs : Array Bool} {v : Value} {l : List SPoint} {a : SPoint} (hown : SPoint.Owns base w v l) (hl : l.length < 100000000000) (hb : base ≤ w.heap.size) (hk : ∀ v' w1, SPoint.Owns base w1 v' (l ++ [a]) → Mod (base ≤ ·) w w1 → K v' w1) :
    DoV Tryd.prog (Instr.buildSlice 110 1 #[(0, .agg a.cells.toArray)]) w (fun s w1 => CallB Tryd.prog .append #[110, 110] 110 cs #[v, s] w1 K X) X := by
  obtain ⟨i, hi, hz, hs, hby⟩ := Ty.info_parts Ty.SPoint_info
  exact app_el (c := SPoint.cells) (x := .agg a.cells.toArray) Ty.SPoint_row hi hz hs hby rfl (by decide) (by decide) SPoint.len SPoint.one rfl hown (by omega) (by omega) hb hk
theorem SPoint.row_apps {w : World} {K : Value → World → Prop} {X : List PanicEntry → World → Prop} {base : Nat} {cs : Array Bool} {v x : Value} {l m : List SPoint} (hown : SPoint.Owns base w v l) (hx : SPoint.Row w x m) (hl : l.length + m.length < 100000000000) (hb : base ≤ w.heap.size) (hk : ∀ v' w1, SPoint.Owns base w1 v' (l ++ m) → Mod (fun k => v.ownBlock = some k) w w1 → K v' w1) :
    CallB Tryd.prog .append #[110, 110] 110 cs #[v, x] w K X := by
  obtain ⟨i, hi, hz, hs, hby⟩ := Ty.info_parts Ty.SPoint_info
  exact app_els (c := SPoint.cells) Ty.SPoint_row hi hz hs hby rfl (by decide) SPoint.one hown hx (by omega) (by omega) hb hk
theorem SPoint.row_lit {w : World} {K : Value → World → Prop} {X : List PanicEntry → World → Prop} {m : Nat} {parts : Array (Nat × Value)} (els : List SPoint) (hn : els.length = m) (hn0 : 0 < m) (hsm : m * 2 ≤ 16777216) (hp : parts.toList = ((els.map fun a => Value.agg a.cells.toArray).zipIdx 0).map fun y => (y.2, y.1))
    (hk : ∀ v w1, Ext w w1 → SPoint.Owns w.heap.size w1 v els → w1.heap.size = w.heap.size + 1 → K v w1) : DoV Tryd.prog (Instr.buildSlice 110 m parts) w K X := by
  obtain ⟨i, hi, hz, hs, hby⟩ := Ty.info_parts Ty.SPoint_info
  exact lit_els (c := SPoint.cells) (fun a => Value.agg a.cells.toArray) els Ty.SPoint_row hi hz hs (by decide) SPoint.len (fun _ => rfl) hn hn0 hsm hp hk
theorem SPoint.row_lit0 {w : World} {K : Value → World → Prop} {X : List PanicEntry → World → Prop} (hk : ∀ v w1, Ext w w1 → SPoint.Owns w.heap.size w1 v [] → w1.heap.size = w.heap.size + 1 → K v w1) : DoV Tryd.prog (Instr.buildSlice 110 0 #[]) w K X := by
  obtain ⟨i, hi, hz, hs, hby⟩ := Ty.info_parts Ty.SPoint_info
  exact lit0_e (sz := 2) Ty.SPoint_row hi hk
theorem SPoint.row_upto {w : World} {K : Value → World → Prop} {X : List PanicEntry → World → Prop} {v : Value} {l : List SPoint} (h : SPoint.Row w v l) {k : Nat} (hk : k ≤ l.length) (hK : ∀ v', SPoint.Row w v' (l.take k) → K v' w) : DoV Tryd.prog (Instr.sliceAt 110 v none (some (.int .i64 k)) none) w K X := by
  obtain ⟨i, hi, hz, hs, hby⟩ := Ty.info_parts Ty.SPoint_info
  refine slice_upto Ty.SPoint_row hi hs (by decide) h hk fun v' hv' _ => hK v' ?_
  rw [fl_take SPoint.len] at hv'
  rw [SPoint.Row, List.length_take, Nat.min_eq_left hk]; exact hv'
theorem SPoint.row_from {w : World} {K : Value → World → Prop} {X : List PanicEntry → World → Prop} {v : Value} {l : List SPoint} (h : SPoint.Row w v l) {k : Nat} (hk : k ≤ l.length) (hK : ∀ v', SPoint.Row w v' (l.drop k) → K v' w) : DoV Tryd.prog (Instr.sliceAt 110 v (some (.int .i64 k)) none none) w K X := by
  obtain ⟨i, hi, hz, hs, hby⟩ := Ty.info_parts Ty.SPoint_info
  refine slice_from Ty.SPoint_row hi hs (by decide) h hk fun v' hv' _ => hK v' ?_
  rw [fl_drop SPoint.len] at hv'
  rw [SPoint.Row, List.length_drop]; exact hv'
theorem SPoint.row_of_trod {H : Type} {enc : TypeId × Value → H} {W : World} {fuel : Nat} {v : Value} {x : DataW H × List MemPlace} (h : DataW.trod enc Tryd.prog W 0 (fun _ => true) true fuel 110 [v] = some x) : ∃ l : List SPoint, SPoint.Row W v l ∧ ∀ a ∈ l, a.Ok :=
  trod_list Ty.SPoint_row Ty.SPoint_cells (by decide) h fun _ _ _ hx => SPoint.of_trod hx
end Go.Proofs.YtjinhojlnaplaaaDoor
