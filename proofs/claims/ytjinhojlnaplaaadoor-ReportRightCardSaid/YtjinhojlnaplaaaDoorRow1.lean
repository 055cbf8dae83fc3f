/- WRITTEN BY structs.py: rows of flat structs. -/
import Derived.Test.YtjinhojlnaplaaaDoorStr1
import Derived.Test.YtjinhojlnaplaaaDoorRowE
namespace Go.Proofs.YtjinhojlnaplaaaDoor
open Sh Go.RowKit Go.WideShapes Go.ChangeShapes
set_option maxRecDepth 100000
set_option maxHeartbeats 2000000
theorem Ty.SEntry_row : Tryd.prog.underlying 47 = some (.slice 64) := by kernel_rfl
abbrev SEntry.Row (w : World) (v : Value) (l : List SEntry) : Prop := Sl w 12 v l.length (fl SEntry.cells l)
abbrev SEntry.Owns (base : Nat) (w : World) (v : Value) (l : List SEntry) : Prop := w.ownsRow base 64 12 v l.length (fl SEntry.cells l)
theorem SEntry.row_nil (w : World) : SEntry.Row w (.slice none 0 0) [] := Sl.nil _ _
theorem SEntry.owns_nil (base : Nat) (w : World) : SEntry.Owns base w (.slice none 0 0) [] := Own.nil _ _ _ _
theorem SEntry.row_len {w : World} {K : Value → World → Prop} {X : List PanicEntry → World → Prop} {cs : Array Bool} {v : Value} {l : List SEntry} (h : SEntry.Row w v l) : CallB Tryd.prog .len #[47] 3 cs #[v] w K X = K (.int .i64 l.length) w := h.len Ty.SEntry_row
theorem SEntry.row_at {w : World} {v : Value} {l : List SEntry} (h : SEntry.Row w v l) {j : Nat} (hj : j < l.length) : ∃ b o, (∀ w1, Ext w w1 → Has w1 b o l[j].cells) ∧ b < w.heap.size ∧
    ∀ (w1 : World) (K : Value → World → Prop) (X : List PanicEntry → World → Prop), DoV Tryd.prog (Instr.indexAt 47 v (.int .i64 j)) w1 K X = K (.pointer (some ⟨b, o, none⟩)) w1 := by
  obtain ⟨i, hi, hz, hs, hby⟩ := Ty.info_parts Ty.SEntry_info
  obtain ⟨b, o, h1, h2, h3⟩ := Sl.el (c := SEntry.cells) (sz := 12) SEntry.len h Ty.SEntry_row hi hs (k := .i64) hj (by decide)
  have h1 : Has w b o l[j].cells := h1
  exact ⟨b, o, fun w1 x1 => h1.ext h2 x1, h2, h3⟩
theorem SEntry.row_app {w : World} {K : Value → World → Prop} {X : List PanicEntry → World → Prop} {base : Nat} {cs : Array Bool} {v : Value} {l : List SEntry} {a : SEntry} (hown : SEntry.Owns base w v l) (hl : l.length < 100000000000) (hb : base ≤ w.heap.size) (hk : ∀ v' w1, SEntry.Owns base w1 v' (l ++ [a]) → Mod (base ≤ ·) w w1 → K v' w1) :
    DoV Tryd.prog (Instr.buildSlice 47 1 #[(0, .agg a.cells.toArray)]) w (fun s w1 => CallB Tryd.prog .append #[47, 47] 47 cs #[v, s] w1 K X) X := by
  obtain ⟨i, hi, hz, hs, hby⟩ := Ty.info_parts Ty.SEntry_info
  exact app_el (c := SEntry.cells) (x := .agg a.cells.toArray) Ty.SEntry_row hi hz hs hby rfl (by decide) (by decide) SEntry.len SEntry.one rfl hown (by omega) (by omega) hb hk
theorem SEntry.row_apps {w : World} {K : Value → World → Prop} {X : List PanicEntry → World → Prop} {base : Nat} {cs : Array Bool} {v x : Value} {l m : List SEntry} (hown : SEntry.Owns base w v l) (hx : SEntry.Row w x m) (hl : l.length + m.length < 100000000000) (hb : base ≤ w.heap.size) (hk : ∀ v' w1, SEntry.Owns base w1 v' (l ++ m) → Mod (fun k => v.ownBlock = some k) w w1 → K v' w1) :
    CallB Tryd.prog .append #[47, 47] 47 cs #[v, x] w K X := by
  obtain ⟨i, hi, hz, hs, hby⟩ := Ty.info_parts Ty.SEntry_info
  exact app_els (c := SEntry.cells) Ty.SEntry_row hi hz hs hby rfl (by decide) SEntry.one hown hx (by omega) (by omega) hb hk
theorem SEntry.row_lit {w : World} {K : Value → World → Prop} {X : List PanicEntry → World → Prop} {m : Nat} {parts : Array (Nat × Value)} (els : List SEntry) (hn : els.length = m) (hn0 : 0 < m) (hsm : m * 12 ≤ 16777216) (hp : parts.toList = ((els.map fun a => Value.agg a.cells.toArray).zipIdx 0).map fun y => (y.2, y.1))
    (hk : ∀ v w1, Ext w w1 → SEntry.Owns w.heap.size w1 v els → w1.heap.size = w.heap.size + 1 → K v w1) : DoV Tryd.prog (Instr.buildSlice 47 m parts) w K X := by
  obtain ⟨i, hi, hz, hs, hby⟩ := Ty.info_parts Ty.SEntry_info
  exact lit_els (c := SEntry.cells) (fun a => Value.agg a.cells.toArray) els Ty.SEntry_row hi hz hs (by decide) SEntry.len (fun _ => rfl) hn hn0 hsm hp hk
theorem SEntry.row_lit0 {w : World} {K : Value → World → Prop} {X : List PanicEntry → World → Prop} (hk : ∀ v w1, Ext w w1 → SEntry.Owns w.heap.size w1 v [] → w1.heap.size = w.heap.size + 1 → K v w1) : DoV Tryd.prog (Instr.buildSlice 47 0 #[]) w K X := by
  obtain ⟨i, hi, hz, hs, hby⟩ := Ty.info_parts Ty.SEntry_info
  exact lit0_e (sz := 12) Ty.SEntry_row hi hk
theorem SEntry.row_upto {w : World} {K : Value → World → Prop} {X : List PanicEntry → World → Prop} {v : Value} {l : List SEntry} (h : SEntry.Row w v l) {k : Nat} (hk : k ≤ l.length) (hK : ∀ v', SEntry.Row w v' (l.take k) → K v' w) : DoV Tryd.prog (Instr.sliceAt 47 v none (some (.int .i64 k)) none) w K X := by
  obtain ⟨i, hi, hz, hs, hby⟩ := Ty.info_parts Ty.SEntry_info
  refine slice_upto Ty.SEntry_row hi hs (by decide) h hk fun v' hv' _ => hK v' ?_
  rw [fl_take SEntry.len] at hv'
  rw [SEntry.Row, List.length_take, Nat.min_eq_left hk]; exact hv'
theorem SEntry.row_from {w : World} {K : Value → World → Prop} {X : List PanicEntry → World → Prop} {v : Value} {l : List SEntry} (h : SEntry.Row w v l) {k : Nat} (hk : k ≤ l.length) (hK : ∀ v', SEntry.Row w v' (l.drop k) → K v' w) : DoV Tryd.prog (Instr.sliceAt 47 v (some (.int .i64 k)) none none) w K X := by
  obtain ⟨i, hi, hz, hs, hby⟩ := Ty.info_parts Ty.SEntry_info
  refine slice_from Ty.SEntry_row hi hs (by decide) h hk fun v' hv' _ => hK v' ?_
  rw [fl_drop SEntry.len] at hv'
  rw [SEntry.Row, List.length_drop]; exact hv'
theorem SEntry.row_of_trod {H : Type} {enc : TypeId × Value → H} {W : World} {fuel : Nat} {v : Value} {x : DataW H × List MemPlace} (h : DataW.trod enc Tryd.prog W 0 (fun _ => true) true fuel 47 [v] = some x) : ∃ l : List SEntry, SEntry.Row W v l ∧ ∀ a ∈ l, a.Ok :=
  trod_list Ty.SEntry_row Ty.SEntry_cells (by decide) h fun _ _ _ hx => SEntry.of_trod hx
abbrev SRecord.Row (w : World) (v : Value) (l : List SRecord) : Prop := Sl w 15 v l.length (fl SRecord.cells l)
theorem SRecord.row_nil (w : World) : SRecord.Row w (.slice none 0 0) [] := Sl.nil _ _
end Go.Proofs.YtjinhojlnaplaaaDoor
