/- What was put is loaded; of bytes that are cut what was written whole. No condition: every argument that reads as data. -/
import Derived.Test.YtahplhcijlgelaaJouL1
import Derived.Test.YtahplhcijlgelaaArgJ
import Derived.Test.YtahplhcijlgelaaRows
namespace Go.Proofs.Ytahplhcijlgelaa
open Sh Go.RowKit Go.WideShapes Go.ChangeShapes Go.ChangeAt
set_option maxRecDepth 100000
theorem journalWrites_params : Try.f4.params.toList = [30, 44] := by kernel_rfl
theorem journalWrites_lifted (os : Os) (started : os.Started) (H : Type) (enc : TypeId × Value → H) :
    ReturnsInHanded {} Try.checked os 4 .any (Rows.journalWritesSpec.pre6 enc Try.prog Try.f4 Rows.journalWritesRow.domain false) (Rows.journalWritesSpec.post enc Try.prog Try.f4 false true false false) := by
  refine law_returns_sized (C := Try.checked) (bt := 4) own started (by kernel_rfl) Try.func4
    (ChangeSpec.witness6 (enc := enc) (C := Try.checked) false ⟨#[], #[.slice none 0 0, .int .u16 0], []⟩ 8 (by kernel_rfl) (by kernel_rfl) (by kernel_rfl) (by kernel_rfl)) rfl laid (by rw [journalWrites_params]; intro t ht; revert t; exact of_decide_eq_true (by kernel_rfl)) rfl Ty.bool ?_ ?_
  · intro ds hd
    have hd : ds.length = 2 := hd
    match ds, hd with
    | [_, _], _ => rfl
  · intro W base args ds ps hval hA hsz
    rw [journalWrites_params] at hval hA hsz
    obtain ⟨v0, vs0, d0, ds0, p0, q0, rfl, rfl, rfl, h0, r0⟩ := trodAll_cons hA
    obtain ⟨v1, vs1, d1, ds1, p1, q1, rfl, rfl, rfl, h1, r1⟩ := trodAll_cons r0
    obtain ⟨rfl, rfl, rfl⟩ := trodAll_nil r1
    obtain ⟨l0, s0, g0⟩ := arg_recs (hval 0 _ _ rfl rfl) h0
    obtain ⟨z1, rfl, g1⟩ := arg_u16 (hval 1 _ _ rfl rfl) h1
    exact JournalWrites_ret g1 g0 W s0
theorem journalWrites_holds : Rows.JournalWritesSaid :=
  OpenClaim.holds_of_wide 4 Try.f4 rfl rfl rfl rfl rfl rfl rfl ⟨rfl, rfl, rfl, rfl, rfl⟩ rfl rfl rfl rfl rfl (by kernel_rfl) Try.func4 (by kernel_rfl)
    (of_decide_eq_true (by kernel_rfl)) (by unfold Func.isWrapper; first | (rw [if_pos (by decide +kernel)]; kernel_rfl) | (rw [if_neg (by decide +kernel)]; exact ⟨rfl, rfl⟩))
    (fun os started H enc _ => journalWrites_lifted os started H enc)
#print axioms journalWrites_holds
end Go.Proofs.Ytahplhcijlgelaa
