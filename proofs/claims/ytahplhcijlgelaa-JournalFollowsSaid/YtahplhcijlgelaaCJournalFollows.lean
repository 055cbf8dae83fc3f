/- Records that were put are loaded first, then those of what follows. No condition: every argument that reads as data. -/
import Derived.Test.YtahplhcijlgelaaJouL1
import Derived.Test.YtahplhcijlgelaaArgJ
import Derived.Test.YtahplhcijlgelaaRows
namespace Go.Proofs.Ytahplhcijlgelaa
open Sh Go.RowKit Go.WideShapes Go.ChangeShapes Go.ChangeAt
set_option maxRecDepth 100000
theorem journalFollows_params : Try.f5.params.toList = [30, 22] := by kernel_rfl
theorem journalFollows_lifted (os : Os) (started : os.Started) (H : Type) (enc : TypeId × Value → H) :
    ReturnsInHanded {} Try.checked os 5 .any (Rows.journalFollowsSpec.pre6 enc Try.prog Try.f5 Rows.journalFollowsRow.domain false) (Rows.journalFollowsSpec.post enc Try.prog Try.f5 false true false false) := by
  refine law_returns_sized (C := Try.checked) (bt := 4) own started (by kernel_rfl) Try.func5
    (ChangeSpec.witness6 (enc := enc) (C := Try.checked) false ⟨#[], #[.slice none 0 0, .slice none 0 0], []⟩ 8 (by kernel_rfl) (by kernel_rfl) (by kernel_rfl) (by kernel_rfl)) rfl laid (by rw [journalFollows_params]; intro t ht; revert t; exact of_decide_eq_true (by kernel_rfl)) rfl Ty.bool ?_ ?_
  · intro ds hd
    have hd : ds.length = 2 := hd
    match ds, hd with
    | [_, _], _ => rfl
  · intro W base args ds ps hval hA hsz
    rw [journalFollows_params] at hval hA hsz
    obtain ⟨v0, vs0, d0, ds0, p0, q0, rfl, rfl, rfl, h0, r0⟩ := trodAll_cons hA
    obtain ⟨v1, vs1, d1, ds1, p1, q1, rfl, rfl, rfl, h1, r1⟩ := trodAll_cons r0
    obtain ⟨rfl, rfl, rfl⟩ := trodAll_nil r1
    obtain ⟨l0, s0, g0⟩ := arg_recs (hval 0 _ _ rfl rfl) h0
    obtain ⟨l1, s1⟩ := arg_bytes (hval 1 _ _ rfl rfl) h1
    exact JournalFollows_ret g0 W s0 s1
theorem journalFollows_holds : Rows.JournalFollowsSaid :=
  OpenClaim.holds_of_wide 5 Try.f5 rfl rfl rfl rfl rfl rfl rfl ⟨rfl, rfl, rfl, rfl, rfl⟩ rfl rfl rfl rfl rfl (by kernel_rfl) Try.func5 (by kernel_rfl)
    (of_decide_eq_true (by kernel_rfl)) (by unfold Func.isWrapper; first | (rw [if_pos (by decide +kernel)]; kernel_rfl) | (rw [if_neg (by decide +kernel)]; exact ⟨rfl, rfl⟩))
    (fun os started H enc _ => journalFollows_lifted os started H enc)
#print axioms journalFollows_holds
end Go.Proofs.Ytahplhcijlgelaa
