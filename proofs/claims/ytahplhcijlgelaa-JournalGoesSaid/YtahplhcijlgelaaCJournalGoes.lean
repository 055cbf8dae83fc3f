/- After what is left out is cut away records can be put, and are loaded with those of before. No condition: every argument that reads as data. -/
import Derived.Test.YtahplhcijlgelaaJouL2
import Derived.Test.YtahplhcijlgelaaArgJ
import Derived.Test.YtahplhcijlgelaaRows
namespace Go.Proofs.Ytahplhcijlgelaa
open Sh Go.RowKit Go.WideShapes Go.ChangeShapes Go.ChangeAt
set_option maxRecDepth 100000
theorem journalGoes_params : Try.f7.params.toList = [22, 30] := by kernel_rfl
theorem journalGoes_lifted (os : Os) (started : os.Started) (H : Type) (enc : TypeId × Value → H) :
    ReturnsInHanded {} Try.checked os 7 .any (Rows.journalGoesSpec.pre6 enc Try.prog Try.f7 Rows.journalGoesRow.domain false) (Rows.journalGoesSpec.post enc Try.prog Try.f7 false true false false) := by
  refine law_returns_sized (C := Try.checked) (bt := 4) own started (by kernel_rfl) Try.func7
    (ChangeSpec.witness6 (enc := enc) (C := Try.checked) false ⟨#[], #[.slice none 0 0, .slice none 0 0], []⟩ 8 (by kernel_rfl) (by kernel_rfl) (by kernel_rfl) (by kernel_rfl)) rfl laid (by rw [journalGoes_params]; intro t ht; revert t; exact of_decide_eq_true (by kernel_rfl)) rfl Ty.bool ?_ ?_
  · intro ds hd
    have hd : ds.length = 2 := hd
    match ds, hd with
    | [_, _], _ => rfl
  · intro W base args ds ps hval hA hsz
    rw [journalGoes_params] at hval hA hsz
    obtain ⟨v0, vs0, d0, ds0, p0, q0, rfl, rfl, rfl, h0, r0⟩ := trodAll_cons hA
    obtain ⟨v1, vs1, d1, ds1, p1, q1, rfl, rfl, rfl, h1, r1⟩ := trodAll_cons r0
    obtain ⟨rfl, rfl, rfl⟩ := trodAll_nil r1
    obtain ⟨l0, s0⟩ := arg_bytes (hval 0 _ _ rfl rfl) h0
    obtain ⟨l1, s1, g1⟩ := arg_recs (hval 1 _ _ rfl rfl) h1
    exact JournalGoes_ret g1 W s0 s1
theorem journalGoes_holds : Rows.JournalGoesSaid :=
  OpenClaim.holds_of_wide 7 Try.f7 rfl rfl rfl rfl rfl rfl rfl ⟨rfl, rfl, rfl, rfl, rfl⟩ rfl rfl rfl rfl rfl (by kernel_rfl) Try.func7 (by kernel_rfl)
    (of_decide_eq_true (by kernel_rfl)) (by unfold Func.isWrapper; first | (rw [if_pos (by decide +kernel)]; kernel_rfl) | (rw [if_neg (by decide +kernel)]; exact ⟨rfl, rfl⟩))
    (fun os started H enc _ => journalGoes_lifted os started H enc)
#print axioms journalGoes_holds
end Go.Proofs.Ytahplhcijlgelaa
