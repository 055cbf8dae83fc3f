/- If a byte of the last frame is another one, the records before it are loaded and it is not. No condition: every argument that reads as data. -/
import Derived.Test.YtahplhcijlgelaaJouL2
import Derived.Test.YtahplhcijlgelaaArgJ
import Derived.Test.YtahplhcijlgelaaRows
namespace Go.Proofs.Ytahplhcijlgelaa
open Sh Go.RowKit Go.WideShapes Go.ChangeShapes Go.ChangeAt
set_option maxRecDepth 100000
theorem journalChanged_params : Try.f6.params.toList = [30, 44, 5] := by kernel_rfl
theorem journalChanged_lifted (os : Os) (started : os.Started) (H : Type) (enc : TypeId × Value → H) :
    ReturnsInHanded {} Try.checked os 6 .any (Rows.journalChangedSpec.pre6 enc Try.prog Try.f6 Rows.journalChangedRow.domain false) (Rows.journalChangedSpec.post enc Try.prog Try.f6 false true false false) := by
  refine law_returns_sized (C := Try.checked) (bt := 4) own started (by kernel_rfl) Try.func6
    (ChangeSpec.witness6 (enc := enc) (C := Try.checked) false ⟨#[], #[.slice none 0 0, .int .u16 0, .int .u8 0], []⟩ 8 (by kernel_rfl) (by kernel_rfl) (by kernel_rfl) (by kernel_rfl)) rfl laid (by rw [journalChanged_params]; intro t ht; revert t; exact of_decide_eq_true (by kernel_rfl)) rfl Ty.bool ?_ ?_
  · intro ds hd
    have hd : ds.length = 3 := hd
    match ds, hd with
    | [_, _, _], _ => rfl
  · intro W base args ds ps hval hA hsz
    rw [journalChanged_params] at hval hA hsz
    obtain ⟨v0, vs0, d0, ds0, p0, q0, rfl, rfl, rfl, h0, r0⟩ := trodAll_cons hA
    obtain ⟨v1, vs1, d1, ds1, p1, q1, rfl, rfl, rfl, h1, r1⟩ := trodAll_cons r0
    obtain ⟨v2, vs2, d2, ds2, p2, q2, rfl, rfl, rfl, h2, r2⟩ := trodAll_cons r1
    obtain ⟨rfl, rfl, rfl⟩ := trodAll_nil r2
    obtain ⟨l0, s0, g0⟩ := arg_recs (hval 0 _ _ rfl rfl) h0
    obtain ⟨z1, rfl, g1⟩ := arg_u16 (hval 1 _ _ rfl rfl) h1
    obtain ⟨z2, rfl, g2⟩ := arg_u8 (hval 2 _ _ rfl rfl) h2
    exact JournalChanged_ret g1 g2 g0 W s0
theorem journalChanged_holds : Rows.JournalChangedSaid :=
  OpenClaim.holds_of_wide 6 Try.f6 rfl rfl rfl rfl rfl rfl rfl ⟨rfl, rfl, rfl, rfl, rfl⟩ rfl rfl rfl rfl rfl (by kernel_rfl) Try.func6 (by kernel_rfl)
    (of_decide_eq_true (by kernel_rfl)) (by unfold Func.isWrapper; first | (rw [if_pos (by decide +kernel)]; kernel_rfl) | (rw [if_neg (by decide +kernel)]; exact ⟨rfl, rfl⟩))
    (fun os started H enc _ => journalChanged_lifted os started H enc)
#print axioms journalChanged_holds
end Go.Proofs.Ytahplhcijlgelaa
