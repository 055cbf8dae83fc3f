/- What the laws' arguments are: a signature. -/
import Derived.Test.YtjinhojlnaplaaaDoorArgB
import Derived.Test.YtjinhojlnaplaaaDoorStrA
namespace Go.Proofs.YtjinhojlnaplaaaDoor
set_option maxRecDepth 100000
open Sh Go.RowKit Go.WideShapes Go.ChangeShapes
theorem arg_sig {H : Type} {enc : TypeId × Value → H} {W : World} {base : Nat} {v : Value} {d : DataW H} {ps : List MemPlace} (hval : Value.okWide Tryd.prog W .any base 23 v) (h : DataW.Trod enc Tryd.prog W 0 (fun _ => true) true 23 v d ps) : ∃ r : SSig, v = .agg r.cells.toArray ∧ r.Ok := by
  unfold Value.okWide at hval
  rw [Ty.SSig_und] at hval
  obtain ⟨cs, rfl, _⟩ := hval
  obtain ⟨fuel, hf⟩ := h
  obtain ⟨r, hc, ho⟩ := SSig.of_trod hf
  exact ⟨r, by rw [← hc]; rfl, ho⟩
end Go.Proofs.YtjinhojlnaplaaaDoor
