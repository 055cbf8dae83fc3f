/- chart.Touched. -/
import Derived.Test.YtnbcdaonkdffkaaGreatDoorEChbA
set_option linter.unusedVariables false
set_option linter.unusedSimpArgs false
namespace Go.Proofs.YtnbcdaonkdffkaaGreatDoor
set_option maxRecDepth 100000
set_option maxHeartbeats 16000000
open Sh Go.RowKit
theorem Ty.ints_zero15 (w : World) : (zeroValue 36).run Tryz.prog w = .ok (.slice none 0 0) w := by kernel_rfl
theorem Ty.ints_size15 (w : World) : (sizeOf 36).run Tryz.prog w = .ok 1 w := by kernel_rfl
theorem Ty.ints_agg15 (w : World) : (isAgg 36).run Tryz.prog w = .ok false w := by kernel_rfl
def Acc (base bo : Nat) (l : List Int) (W : World) : Prop := ∃ v, At W bo (.cells #[v] 36 (0, 0)) ∧ W.ownsRow base 3 1 v l.length (iv l)
theorem Acc.ext {base bo : Nat} {l : List Int} {a b : World} (h : Acc base bo l a) (x : Ext a b) : Acc base bo l b := by
  obtain ⟨v, h1, h2⟩ := h
  exact ⟨v, h1.ext x, Own.ext h2 x⟩
theorem Acc.load {base bo : Nat} {l : List Int} {w : World} {K : Value → World → Prop} {X : List PanicEntry → World → Prop} (h : Acc base bo l w) (hk : ∀ v, At w bo (.cells #[v] 36 (0, 0)) → w.ownsRow base 3 1 v l.length (iv l) → K v w) : DoV Tryz.prog (Instr.loadAt 36 (.pointer (some ⟨bo, 0, none⟩))) w K X := by
  obtain ⟨v, h1, h2⟩ := h
  rw [load_e (u := v) Ty.ints_agg15 h1 rfl]
  exact hk v h1 h2
def IntsIs (w : World) (v : Value) (l : List Int) : Prop := Sl w 1 v l.length (iv l)
theorem IntsIs.ext {a b : World} {v : Value} {l : List Int} (h : IntsIs a v l) (x : Ext a b) : IntsIs b v l := Sl.ext h x
namespace Cha
end Cha
end Go.Proofs.YtnbcdaonkdffkaaGreatDoor
