/- Frames that are cut at any byte are read as those that are whole, with the bytes of these. No condition: every argument that reads as data. -/
import Derived.Test.YtbmkdhiigapbdaaLaw8b
import Derived.Test.YtbmkdhiigapbdaaArgs
import Derived.Test.YtbmkdhiigapbdaaRows
namespace Go.Proofs.Ytbmkdhiigapbdaa
open Sh Go.RowKit Go.WideShapes Go.ChangeShapes Go.ChangeAt
set_option maxRecDepth 100000
theorem codecTorn_lifted (os : Os) (started : os.Started) (H : Type) (enc : TypeId × Value → H) :
    ReturnsInHanded {} Try.checked os 5 .any (Rows.codecTornSpec.pre6 enc Try.prog Try.f5 Rows.codecTornRow.domain false) (Rows.codecTornSpec.post enc Try.prog Try.f5 false true false false) := by
  refine law_returns (C := Try.checked) (bt := 4) own started (by kernel_rfl) Try.func5
    (ChangeSpec.witness6 (enc := enc) (C := Try.checked) false ⟨#[], #[.slice none 0 0, .int .u16 0], []⟩ 8 (by kernel_rfl) (by kernel_rfl) (by kernel_rfl) (by kernel_rfl)) rfl laid (by rw [show Try.f5.params.toList = [32, 37] by kernel_rfl]; intro t ht; revert t; exact of_decide_eq_true (by kernel_rfl)) rfl Ty.bool ?_ ?_
  · intro ds hd
    have hd : ds.length = 2 := hd
    match ds, hd with
    | [_, _], _ => rfl
  · intro W base args ds ps hval hA
    have hp : Try.f5.params.toList = [32, 37] := by kernel_rfl
    rw [hp] at hval hA
    obtain ⟨v0, vs0, d0, ds0, p0, q0, rfl, rfl, rfl, h0, r0⟩ := trodAll_cons hA
    obtain ⟨v1, vs1, d1, ds1, p1, q1, rfl, rfl, rfl, h1, r1⟩ := trodAll_cons r0
    obtain ⟨rfl, rfl, rfl⟩ := trodAll_nil r1
    obtain ⟨l0, s0, g0⟩ := arg_lists (hval 0 _ _ rfl rfl) h0
    obtain ⟨z1, rfl, g1⟩ := arg_u16 (hval 1 _ _ rfl rfl) h1
    exact CodecTorn_ret g1 g0 W s0
theorem codecTorn_holds : Rows.CodecTornSaid :=
  OpenClaim.holds_of_wide 5 Try.f5 rfl rfl rfl rfl rfl rfl rfl ⟨rfl, rfl, rfl, rfl, rfl⟩ rfl rfl rfl rfl rfl (by kernel_rfl) Try.func5 (by kernel_rfl)
    (of_decide_eq_true (by kernel_rfl)) (by unfold Func.isWrapper; first | (rw [if_pos (by decide +kernel)]; kernel_rfl) | (rw [if_neg (by decide +kernel)]; exact ⟨rfl, rfl⟩))
    (fun os started H enc _ => codecTorn_lifted os started H enc)
#print axioms codecTorn_holds
end Go.Proofs.Ytbmkdhiigapbdaa
