/- The plain law of polygons: the two ways in which a polygon's corners are checked agree. -/
import Derived.Test.YtdfpdfahcbflpabDoorHStrA
import Derived.Test.YtdfpdfahcbflpabDoorHBaseC
import Derived.Test.YtdfpdfahcbflpabDoorHT2
set_option linter.unusedVariables false
set_option linter.unusedSimpArgs false
namespace Go.Proofs.YtdfpdfahcbflpabDoor
set_option maxRecDepth 100000
namespace Hul
def place (p : SPoint) : Bool := decide (-500000 ≤ p.x ∧ p.x ≤ 500000 ∧ -500000 ≤ p.y ∧ p.y ≤ 500000)
def less (a b : SPoint) : Bool := decide (a.x < b.x ∨ (a.x = b.x ∧ a.y < b.y))
def cross (a b c : SPoint) : Int := (b.x - a.x) * (c.y - a.y) - (b.y - a.y) * (c.x - a.x)
theorem place_iff {p : SPoint} : place p = true ↔ -500000 ≤ p.x ∧ p.x ≤ 500000 ∧ -500000 ≤ p.y ∧ p.y ≤ 500000 := by simp [place]
def at_ (l : List SPoint) (i : Nat) : SPoint := (l[i]?).getD default
def common (l : List SPoint) : Prop := (1 ≤ l.length ∧ l.length ≤ 64) ∧ (∀ p ∈ l, place p = true) ∧ ∀ i, 1 ≤ i → i < l.length → less (at_ l 0) (at_ l i) = true
def sidesR (l : List SPoint) : Prop := 3 ≤ l.length → ∀ i, i < l.length → ∀ k, k < l.length → k ≠ i → k ≠ (i + 1) % l.length → 0 < cross (at_ l i) (at_ l ((i + 1) % l.length)) (at_ l k)
def Valid (l : List SPoint) : Prop := common l ∧ sidesR l
noncomputable def valid (l : List SPoint) : Bool := by classical exact decide (Valid l)
theorem valid_iff {l : List SPoint} : valid l = true ↔ Valid l := by simp [valid]
end Hul
end Go.Proofs.YtdfpdfahcbflpabDoor
namespace Go.Proofs.YtdfpdfahcbflpabDoor
set_option maxRecDepth 100000
set_option maxHeartbeats 2000000
open Sh Go.RowKit
namespace Sh
variable {P : Program} {w : World} {K : Value → World → Prop} {X : List PanicEntry → World → Prop} {ts : Array TypeId} {t : TypeId} {cs : Array Bool}
def mx (x y : Int) : Int := if x < y then y else x
def mn (x y : Int) : Int := if y < x then y else x
theorem max4 {a b c d : Int} : CallB P .max ts t cs #[.int .i64 a, .int .i64 b, .int .i64 c, .int .i64 d] w K X = K (.int .i64 (mx (mx (mx a b) c) d)) w := by
  simp [CallB, Do, builtin, Builtin.max_, Builtin.max2, mx]
  exact Iff.rfl
theorem max2 {a b : Int} : CallB P .max ts t cs #[.int .i64 a, .int .i64 b] w K X = K (.int .i64 (mx a b)) w := by
  simp [CallB, Do, builtin, Builtin.max_, Builtin.max2, mx]
theorem min2 {a b : Int} : CallB P .min ts t cs #[.int .i64 a, .int .i64 b] w K X = K (.int .i64 (mn a b)) w := by
  simp [CallB, Do, builtin, Builtin.min_, Builtin.min2, mn]
end Sh
theorem neg_wrap {x : Int} (h : I64 x) : IntKind.i64.wrap (-x) = -x ∨ x = -9223372036854775808 ∧ IntKind.i64.wrap (-x) = -9223372036854775808 := by
  unfold I64 at h
  by_cases hx : x = -9223372036854775808
  · subst hx; exact .inr ⟨rfl, by decide⟩
  · exact .inl (i64_wrap (by omega) (by omega))
theorem isPlace_ret {p : SPoint} (hp : p.Ok) (w : World) : Ret Tryd.prog 60 #[.agg p.cells.toArray] w fun r w' => r = .bool (Hul.place p) ∧ Ext w w' := by
  refine ret_of (fun _ _ => sh_hull_isPlace_ok _) fun R hR => ?_
  unfold sh_hull_isPlace
  refine box_i fun b w1 x1 hat _ _ => ?_
  have h : Has w1 b 0 p.cells := has_of_at hat
  simp only [SPoint.g_x h, SPoint.g_y h, un_neg, max4, bin_leq, min2, bin_geq, Gd_bool]
  have hk : R (.returned (.bool (Hul.place p))) w1 := hR _ _ ⟨rfl, x1⟩
  obtain ⟨h1, h2⟩ := hp
  have e1 := neg_wrap h1
  have e2 := neg_wrap h2
  generalize IntKind.i64.wrap (-p.x) = a at *
  generalize IntKind.i64.wrap (-p.y) = c at *
  split
  · rename_i hb
    have hb := of_decide_eq_true hb
    have e : decide (-500000 ≤ mn p.x p.y) = Hul.place p := by
      unfold Hul.place
      rw [decide_eq_decide]
      unfold mx mn at *
      split <;> split at hb <;> split at hb <;> split at hb <;> omega
    rw [e]; exact hk
  · rename_i hb
    have e : false = Hul.place p := by
      unfold Hul.place
      rw [eq_comm, decide_eq_false_iff_not]
      rw [decide_eq_true_eq] at hb
      unfold mx at *
      split at hb <;> split at hb <;> split at hb <;> omega
    rw [e]; exact hk
theorem Place_ret {p : SPoint} (w : World) : Ret Tryd.prog 16 #[.agg p.cells.toArray] w fun r w' => r = .bool (Hul.place p) ∧ Ext w w' := by
  refine ret_of (fun _ _ => sh_landfallref03_Place_ok _) fun R hR => ?_
  unfold sh_landfallref03_Place
  refine box_i fun b w1 x1 hat _ _ => ?_
  have h : Has w1 b 0 p.cells := has_of_at hat
  simp only [SPoint.g_x h, SPoint.g_y h, bin_leq, bin_geq, Gd_bool]
  have hk : ∀ c, c = Hul.place p → R (.returned (.bool c)) w1 := fun c hc => hR _ _ ⟨by rw [hc], x1⟩
  unfold Hul.place at hk
  simp only [decide_eq_true_eq]
  split
  · split
    · split
      · exact hk _ (by rw [decide_eq_decide]; omega)
      · exact hk _ (by rw [eq_comm, decide_eq_false_iff_not]; omega)
    · exact hk _ (by rw [eq_comm, decide_eq_false_iff_not]; omega)
  · exact hk _ (by rw [eq_comm, decide_eq_false_iff_not]; omega)
end Go.Proofs.YtdfpdfahcbflpabDoor
namespace Go.Proofs.YtdfpdfahcbflpabDoor
set_option maxRecDepth 100000
set_option maxHeartbeats 2000000
open Sh Go.RowKit
theorem callF_sh {P : Program} {f : FuncId} {args : Array Value} {w : World} {K : Value → World → Prop} {X : List PanicEntry → World → Prop} {F : (Ending → World → Prop) → World → Prop} (hF : ∀ R w, F R w → Calls P f args w R)
    (h : ∀ R : Ending → World → Prop, (∀ v w', K v w' → R (.returned v) w') → F R w) : CallF P f args w K X := hF _ _ (h _ fun _ _ hq => hq)
end Go.Proofs.YtdfpdfahcbflpabDoor
namespace Go.Proofs.YtdfpdfahcbflpabDoor
set_option maxRecDepth 100000
set_option maxHeartbeats 4000000
open Sh Go.RowKit
end Go.Proofs.YtdfpdfahcbflpabDoor
namespace Go.Proofs.YtdfpdfahcbflpabDoor
set_option maxRecDepth 100000
set_option maxHeartbeats 4000000
open Sh Go.RowKit
end Go.Proofs.YtdfpdfahcbflpabDoor
namespace Go.Proofs.YtdfpdfahcbflpabDoor
set_option maxRecDepth 100000
set_option maxHeartbeats 4000000
open Sh Go.RowKit
end Go.Proofs.YtdfpdfahcbflpabDoor
