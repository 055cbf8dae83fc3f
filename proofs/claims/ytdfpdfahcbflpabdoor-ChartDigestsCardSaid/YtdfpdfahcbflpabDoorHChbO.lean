/- The reference's comparisons: Same, SameLine. -/
import Derived.Test.YtdfpdfahcbflpabDoorHChbN
set_option linter.unusedVariables false
set_option linter.unusedSimpArgs false
namespace Go.Proofs.YtdfpdfahcbflpabDoor
set_option maxRecDepth 100000
set_option maxHeartbeats 16000000
open Sh Go.RowKit
theorem vl_set15 {pv : Nat → Option Value} {k j : Nat} {v : Value} : vl (pvSet pv k v) j = if j = k then v else vl pv j := by
  unfold vl pvSet; split <;> rfl
def SJ (W0 : World) (s t : SChart) (l : List Int) (pv : Nat → Option Value) (W : World) : Prop :=
  Ext W0 W ∧ (pv 0 ≠ none → vl pv 0 = .agg s.cells.toArray) ∧ (pv 1 ≠ none → IntsIs W (vl pv 1) l) ∧ (pv 2 ≠ none → vl pv 2 = .agg t.cells.toArray)
open Cha in
theorem same_region {w : World} {s t : SChart} {C : Cht} {b1 b2 : Nat} {fin : (Nat → Option Value) → World → Prop} (hc : ChartIs w s C) (hS : SizeP C) (h1 : At w b1 (.cells s.cells.toArray 26 (0, 0))) (h2 : At w b2 (.cells t.cells.toArray 26 (0, 0)))
    {X0 X1 X2 : List PanicEntry → World → Prop} (hf : ∀ pv W, Ext w W → vl pv 2 = .agg t.cells.toArray → IntsIs W (vl pv 1) (ints C) → fin pv W) :
    JointE w (fun J => JOp J 0 [] (fun pv w1 K => DoV Tryd.prog (Instr.loadAt 26 (.pointer (some ⟨b1, 0, none⟩))) w1 K X0) ∧ JOp J 1 [0] (fun pv w1 K => CallF Tryd.prog 12 #[(vl pv 0)] w1 K X1) ∧ JOp J 2 [] (fun pv w1 K => DoV Tryd.prog (Instr.loadAt 26 (.pointer (some ⟨b2, 0, none⟩))) w1 K X2) ∧ JEnd J 3 fin) := by
  refine ⟨SJ w s t (ints C), ⟨Ext.drew w, fun hh => absurd rfl hh, fun hh => absurd rfl hh, fun hh => absurd rfl hh⟩, ?_, ?_, ?_, ?_⟩
  · rintro pv W ⟨x, k0, k1, k2⟩ hn _
    rw [SChart.g_all (has_of_at (h1.ext x))]
    refine ⟨x, fun _ => by rw [vl_set15, if_pos rfl], fun hh => ?_, fun hh => ?_⟩
    · rw [vl_set15, if_neg (by decide)]; exact k1 hh
    · rw [vl_set15, if_neg (by decide)]; exact k2 hh
  · rintro pv W ⟨x, k0, k1, k2⟩ hn hd
    rw [k0 (hd 0 (by simp))]
    refine callF_ret (refInts_ret W (hc.ext x) hS) ?_
    rintro v W2 ⟨hv, x2⟩
    refine ⟨x.trans x2, fun hh => ?_, fun _ => by rw [vl_set15, if_pos rfl]; exact hv, fun hh => ?_⟩
    · rw [vl_set15, if_neg (by decide)]; exact k0 hh
    · rw [vl_set15, if_neg (by decide)]; exact k2 hh
  · rintro pv W ⟨x, k0, k1, k2⟩ hn _
    rw [SChart.g_all (has_of_at (h2.ext x))]
    refine ⟨x, fun hh => ?_, fun hh => ?_, fun _ => by rw [vl_set15, if_pos rfl]⟩
    · rw [vl_set15, if_neg (by decide)]; exact k0 hh
    · rw [vl_set15, if_neg (by decide)]; exact k1 hh
  · rintro pv W ⟨x, k0, k1, k2⟩ hall
    exact hf pv W x (k2 (hall 2 (by decide))) (k1 (hall 1 (by decide)))
open Cha in
theorem refSame_ret {s t : SChart} {C D : Cht} (w : World) (hc : ChartIs w s C) (hd : ChartIs w t D) (hC : SizeP C) (hD : SizeP D) : Ret Tryd.prog 15 #[.agg s.cells.toArray, .agg t.cells.toArray] w fun r w' => r = .bool (decide (ints C = ints D)) ∧ Ext w w' := by
  refine ret_of (fun _ _ => sh_landfallref15_Same_ok _ _) fun R hR => ?_
  unfold sh_landfallref15_Same
  refine box_i fun b1 w1 x1 hat1 _ _ => ?_
  refine box_i fun b2 w2 x2 hat2 _ _ => ?_
  have x02 := x1.trans x2
  refine same_region (hc.ext x02) hC (hat1.ext x2) hat2 fun pv W x e2 e1 => ?_
  rw [e2]
  refine callF_ret (refInts_ret W (hd.ext (x02.trans x)) hD) ?_
  rintro v3 w3 ⟨h3, x3⟩
  refine callF_ret (sameInts_ret w3 (e1.ext x3) h3) ?_
  rintro _ w4 ⟨rfl, x4⟩
  exact hR _ _ ⟨rfl, ((x02.trans x).trans x3).trans x4⟩
end Go.Proofs.YtdfpdfahcbflpabDoor
