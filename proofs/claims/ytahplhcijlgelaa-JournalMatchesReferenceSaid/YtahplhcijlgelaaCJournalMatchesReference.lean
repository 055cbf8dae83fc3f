/- Put, Load and Entries return what the reference implementation returns. No condition: every argument that reads as data. -/
import Derived.Test.YtahplhcijlgelaaJouL1
import Derived.Test.YtahplhcijlgelaaArgJ
import Derived.Test.YtahplhcijlgelaaRows
namespace Go.Proofs.Ytahplhcijlgelaa
open Sh Go.RowKit Go.WideShapes Go.ChangeShapes Go.ChangeAt
set_option maxRecDepth 100000
theorem journalMatchesReference_params : Try.f3.params.toList = [22, 29, 30] := by kernel_rfl
theorem journalMatchesReference_lifted (os : Os) (started : os.Started) (H : Type) (enc : TypeId × Value → H) :
    ReturnsInHanded {} Try.checked os 3 .any (Rows.journalMatchesReferenceSpec.pre6 enc Try.prog Try.f3 Rows.journalMatchesReferenceRow.domain false) (Rows.journalMatchesReferenceSpec.post enc Try.prog Try.f3 false true false false) := by
  refine law_returns_sized (C := Try.checked) (bt := 4) own started (by kernel_rfl) Try.func3
    (ChangeSpec.witness6 (enc := enc) (C := Try.checked) false ⟨#[], #[.slice none 0 0, .agg #[.int .i64 0, .int .i64 0, .int .i64 0, .int .i64 0, .int .i64 0, .int .i64 0, .int .i64 0, .int .i64 0, .int .i64 0, .int .i64 0, .int .i64 0, .int .i64 0, .int .i64 0, .int .i64 0, .int .u64 0], .slice none 0 0], []⟩ 8 (by kernel_rfl) (by kernel_rfl) (by kernel_rfl) (by kernel_rfl)) rfl laid (by rw [journalMatchesReference_params]; intro t ht; revert t; exact of_decide_eq_true (by kernel_rfl)) rfl Ty.bool ?_ ?_
  · intro ds hd
    have hd : ds.length = 3 := hd
    match ds, hd with
    | [_, _, _], _ => rfl
  · intro W base args ds ps hval hA hsz
    rw [journalMatchesReference_params] at hval hA hsz
    obtain ⟨v0, vs0, d0, ds0, p0, q0, rfl, rfl, rfl, h0, r0⟩ := trodAll_cons hA
    obtain ⟨v1, vs1, d1, ds1, p1, q1, rfl, rfl, rfl, h1, r1⟩ := trodAll_cons r0
    obtain ⟨v2, vs2, d2, ds2, p2, q2, rfl, rfl, rfl, h2, r2⟩ := trodAll_cons r1
    obtain ⟨rfl, rfl, rfl⟩ := trodAll_nil r2
    obtain ⟨l0, s0⟩ := arg_bytes (hval 0 _ _ rfl rfl) h0
    obtain ⟨r1, rfl, g1⟩ := arg_rec (hval 1 _ _ rfl rfl) h1
    obtain ⟨l2, s2, g2⟩ := arg_recs (hval 2 _ _ rfl rfl) h2
    exact JournalMatchesReference_ret (small_bytes (hval 0 _ _ rfl rfl) h0 (hsz 0 _ _ rfl rfl) s0) g1 W s0 s2
theorem journalMatchesReference_holds : Rows.JournalMatchesReferenceSaid :=
  OpenClaim.holds_of_wide 3 Try.f3 rfl rfl rfl rfl rfl rfl rfl ⟨rfl, rfl, rfl, rfl, rfl⟩ rfl rfl rfl rfl rfl (by kernel_rfl) Try.func3 (by kernel_rfl)
    (of_decide_eq_true (by kernel_rfl)) (by unfold Func.isWrapper; first | (rw [if_pos (by decide +kernel)]; kernel_rfl) | (rw [if_neg (by decide +kernel)]; exact ⟨rfl, rfl⟩))
    (fun os started H enc _ => journalMatchesReference_lifted os started H enc)
#print axioms journalMatchesReference_holds
end Go.Proofs.Ytahplhcijlgelaa
