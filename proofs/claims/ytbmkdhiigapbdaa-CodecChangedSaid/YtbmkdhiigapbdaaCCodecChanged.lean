/- If one byte of the last frame is changed, but none of its first three, the frames ahead of it are read and it is not. No condition: every argument that reads as data. -/
import Derived.Test.YtbmkdhiigapbdaaLaw8b
import Derived.Test.YtbmkdhiigapbdaaArgs
import Derived.Test.YtbmkdhiigapbdaaRows
namespace Go.Proofs.Ytbmkdhiigapbdaa
open Sh Go.RowKit Go.WideShapes Go.ChangeShapes Go.ChangeAt
set_option maxRecDepth 100000
theorem codecChanged_lifted (os : Os) (started : os.Started) (H : Type) (enc : TypeId × Value → H) :
    ReturnsInHanded {} Try.checked os 7 .any (Rows.codecChangedSpec.pre6 enc Try.prog Try.f7 Rows.codecChangedRow.domain false) (Rows.codecChangedSpec.post enc Try.prog Try.f7 false true false false) := by
  refine law_returns (C := Try.checked) (bt := 4) own started (by kernel_rfl) Try.func7
    (ChangeSpec.witness6 (enc := enc) (C := Try.checked) false ⟨#[], #[.slice none 0 0, .int .u16 0, .int .u8 0], []⟩ 8 (by kernel_rfl) (by kernel_rfl) (by kernel_rfl) (by kernel_rfl)) rfl laid (by rw [show Try.f7.params.toList = [32, 37, 5] by kernel_rfl]; intro t ht; revert t; exact of_decide_eq_true (by kernel_rfl)) rfl Ty.bool ?_ ?_
  · intro ds hd
    have hd : ds.length = 3 := hd
    match ds, hd with
    | [_, _, _], _ => rfl
  · intro W base args ds ps hval hA
    have hp : Try.f7.params.toList = [32, 37, 5] := by kernel_rfl
    rw [hp] at hval hA
    obtain ⟨v0, vs0, d0, ds0, p0, q0, rfl, rfl, rfl, h0, r0⟩ := trodAll_cons hA
    obtain ⟨v1, vs1, d1, ds1, p1, q1, rfl, rfl, rfl, h1, r1⟩ := trodAll_cons r0
    obtain ⟨v2, vs2, d2, ds2, p2, q2, rfl, rfl, rfl, h2, r2⟩ := trodAll_cons r1
    obtain ⟨rfl, rfl, rfl⟩ := trodAll_nil r2
    obtain ⟨l0, s0, g0⟩ := arg_lists (hval 0 _ _ rfl rfl) h0
    obtain ⟨z1, rfl, g1⟩ := arg_u16 (hval 1 _ _ rfl rfl) h1
    obtain ⟨z2, rfl, g2⟩ := arg_u8 (hval 2 _ _ rfl rfl) h2
    exact CodecChanged_ret g1 g2 g0 W s0
theorem codecChanged_holds : Rows.CodecChangedSaid :=
  OpenClaim.holds_of_wide 7 Try.f7 rfl rfl rfl rfl rfl rfl rfl ⟨rfl, rfl, rfl, rfl, rfl⟩ rfl rfl rfl rfl rfl (by kernel_rfl) Try.func7 (by kernel_rfl)
    (of_decide_eq_true (by kernel_rfl)) (by unfold Func.isWrapper; first | (rw [if_pos (by decide +kernel)]; kernel_rfl) | (rw [if_neg (by decide +kernel)]; exact ⟨rfl, rfl⟩))
    (fun os started H enc _ => codecChanged_lifted os started H enc)
#print axioms codecChanged_holds
end Go.Proofs.Ytbmkdhiigapbdaa
