/- Whatever stands behind whole frames, these are read first, and then what the rest is read as alone. No condition: every argument that reads as data. -/
import Derived.Test.YtbmkdhiigapbdaaLaw8b
import Derived.Test.YtbmkdhiigapbdaaArgs
import Derived.Test.YtbmkdhiigapbdaaRows
namespace Go.Proofs.Ytbmkdhiigapbdaa
open Sh Go.RowKit Go.WideShapes Go.ChangeShapes Go.ChangeAt
set_option maxRecDepth 100000
theorem codecFollows_lifted (os : Os) (started : os.Started) (H : Type) (enc : TypeId × Value → H) :
    ReturnsInHanded {} Try.checked os 6 .any (Rows.codecFollowsSpec.pre6 enc Try.prog Try.f6 Rows.codecFollowsRow.domain false) (Rows.codecFollowsSpec.post enc Try.prog Try.f6 false true false false) := by
  refine law_returns (C := Try.checked) (bt := 4) own started (by kernel_rfl) Try.func6
    (ChangeSpec.witness6 (enc := enc) (C := Try.checked) false ⟨#[], #[.slice none 0 0, .slice none 0 0], []⟩ 8 (by kernel_rfl) (by kernel_rfl) (by kernel_rfl) (by kernel_rfl)) rfl laid (by rw [show Try.f6.params.toList = [32, 23] by kernel_rfl]; intro t ht; revert t; exact of_decide_eq_true (by kernel_rfl)) rfl Ty.bool ?_ ?_
  · intro ds hd
    have hd : ds.length = 2 := hd
    match ds, hd with
    | [_, _], _ => rfl
  · intro W base args ds ps hval hA
    have hp : Try.f6.params.toList = [32, 23] := by kernel_rfl
    rw [hp] at hval hA
    obtain ⟨v0, vs0, d0, ds0, p0, q0, rfl, rfl, rfl, h0, r0⟩ := trodAll_cons hA
    obtain ⟨v1, vs1, d1, ds1, p1, q1, rfl, rfl, rfl, h1, r1⟩ := trodAll_cons r0
    obtain ⟨rfl, rfl, rfl⟩ := trodAll_nil r1
    obtain ⟨l0, s0, g0⟩ := arg_lists (hval 0 _ _ rfl rfl) h0
    obtain ⟨l1, s1⟩ := arg_bytes (hval 1 _ _ rfl rfl) h1
    exact CodecFollows_ret  g0 W s0 s1
theorem codecFollows_holds : Rows.CodecFollowsSaid :=
  OpenClaim.holds_of_wide 6 Try.f6 rfl rfl rfl rfl rfl rfl rfl ⟨rfl, rfl, rfl, rfl, rfl⟩ rfl rfl rfl rfl rfl (by kernel_rfl) Try.func6 (by kernel_rfl)
    (of_decide_eq_true (by kernel_rfl)) (by unfold Func.isWrapper; first | (rw [if_pos (by decide +kernel)]; kernel_rfl) | (rw [if_neg (by decide +kernel)]; exact ⟨rfl, rfl⟩))
    (fun os started H enc _ => codecFollows_lifted os started H enc)
#print axioms codecFollows_holds
end Go.Proofs.Ytbmkdhiigapbdaa
