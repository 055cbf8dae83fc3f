/- The walks of vehicles: Mark, Crash, Wake of the reference implementation; Same, Few. -/
import Derived.Test.YtoeblipchoglaaaDoorZVehG
set_option linter.unusedVariables false
set_option linter.unusedSimpArgs false
namespace Go.Proofs.YtoeblipchoglaaaDoor
set_option maxRecDepth 100000
set_option maxHeartbeats 8000000
open Sh Go.RowKit
theorem vfew_ret {s : SVeh} {v : Veh.V} (w : World) (hs : VehIs w s v) : Ret Tryd.prog 5 #[.agg s.cells.toArray] w fun r w' => (∃ b, r = .bool b ∧ (b = true → v.b.length ≤ 3000)) ∧ Ext w w' := by
  refine ret_of (fun _ _ => sh_landfallref41_Few_ok _) fun R hR => ?_
  unfold sh_landfallref41_Few
  refine box_i fun b1 w1 x1 hat1 _ _ => ?_
  rw [SVeh.g_log (has_of_at hat1)]
  refine callF_ret (Few_ret w1 (hs.ext x1).2.2.1) ?_
  rintro _ w2 ⟨⟨b, rfl, _⟩, x2⟩
  have x02 := x1.trans x2
  refine Gd_i (fun hb => ?_) fun hb => hR _ _ ⟨⟨_, rfl, fun h => by cases h⟩, x02⟩
  rw [SVeh.g_byts (has_of_at (At.ext hat1 x2)), (hs.ext x02).2.2.2.1.len Ty.bytes, bin_leq]
  exact hR _ _ ⟨⟨_, rfl, fun h => by have := dec_t h; omega⟩, x02⟩
end Go.Proofs.YtoeblipchoglaaaDoor
