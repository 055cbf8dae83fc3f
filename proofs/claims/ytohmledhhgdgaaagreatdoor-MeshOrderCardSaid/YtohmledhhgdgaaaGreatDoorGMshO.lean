/- The laws of boxes: Others, Adds. -/
import Derived.Test.YtohmledhhgdgaaaGreatDoorGMshT
set_option linter.unusedVariables false
set_option linter.unusedSimpArgs false
namespace Go.Proofs.YtohmledhhgdgaaaGreatDoor
set_option maxRecDepth 100000
set_option maxHeartbeats 16000000
open Sh Go.RowKit
theorem b_nt {t : Bool} (h : (!t) = false) : t = true := by cases t <;> simp_all
theorem addV_ok_all {b : MBox} {r : Rep.Rpt} {p : Int} (hb : ∀ x ∈ b.2, RepOk x) (hr : RepOk r) : ∀ x ∈ (addV b r p).1.2, RepOk x := by
  rcases addV_cases b r p with ⟨_, h, _⟩ | ⟨_, _, e⟩ | ⟨_, _, _, e, _⟩
  · rw [h]; simp
  · rw [e]; exact hb
  · rw [e]
    intro x hx
    exact (Msh.mem_put.1 hx).elim (hb x) fun h => by rw [h]; exact hr
end Go.Proofs.YtohmledhhgdgaaaGreatDoor
