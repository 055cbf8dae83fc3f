/- The bytes of a list, lengthened or cut, are read as no list. No condition: every argument that reads as data. -/
import Derived.Test.YtbmkdhiigapbdaaLaw8
import Derived.Test.YtbmkdhiigapbdaaArgs
import Derived.Test.YtbmkdhiigapbdaaRows
namespace Go.Proofs.Ytbmkdhiigapbdaa
open Sh Go.RowKit Go.WideShapes Go.ChangeShapes Go.ChangeAt
set_option maxRecDepth 100000
theorem codecPrefixes_lifted (os : Os) (started : os.Started) (H : Type) (enc : TypeId × Value → H) :
    ReturnsInHanded {} Try.checked os 8 .any (Rows.codecPrefixesSpec.pre6 enc Try.prog Try.f8 Rows.codecPrefixesRow.domain false) (Rows.codecPrefixesSpec.post enc Try.prog Try.f8 false true false false) := by
  refine law_returns (C := Try.checked) (bt := 4) own started (by kernel_rfl) Try.func8
    (ChangeSpec.witness6 (enc := enc) (C := Try.checked) false ⟨#[], #[.slice none 0 0, .slice none 0 0, .int .u16 0], []⟩ 8 (by kernel_rfl) (by kernel_rfl) (by kernel_rfl) (by kernel_rfl)) rfl laid (by rw [show Try.f8.params.toList = [22, 23, 37] by kernel_rfl]; intro t ht; revert t; exact of_decide_eq_true (by kernel_rfl)) rfl Ty.bool ?_ ?_
  · intro ds hd
    have hd : ds.length = 3 := hd
    match ds, hd with
    | [_, _, _], _ => rfl
  · intro W base args ds ps hval hA
    have hp : Try.f8.params.toList = [22, 23, 37] := by kernel_rfl
    rw [hp] at hval hA
    obtain ⟨v0, vs0, d0, ds0, p0, q0, rfl, rfl, rfl, h0, r0⟩ := trodAll_cons hA
    obtain ⟨v1, vs1, d1, ds1, p1, q1, rfl, rfl, rfl, h1, r1⟩ := trodAll_cons r0
    obtain ⟨v2, vs2, d2, ds2, p2, q2, rfl, rfl, rfl, h2, r2⟩ := trodAll_cons r1
    obtain ⟨rfl, rfl, rfl⟩ := trodAll_nil r2
    obtain ⟨l0, s0, g0⟩ := arg_ints (hval 0 _ _ rfl rfl) h0
    obtain ⟨l1, s1⟩ := arg_bytes (hval 1 _ _ rfl rfl) h1
    obtain ⟨z2, rfl, g2⟩ := arg_u16 (hval 2 _ _ rfl rfl) h2
    exact CodecPrefixes_ret g2 g0 W s0 s1
theorem codecPrefixes_holds : Rows.CodecPrefixesSaid :=
  OpenClaim.holds_of_wide 8 Try.f8 rfl rfl rfl rfl rfl rfl rfl ⟨rfl, rfl, rfl, rfl, rfl⟩ rfl rfl rfl rfl rfl (by kernel_rfl) Try.func8 (by kernel_rfl)
    (of_decide_eq_true (by kernel_rfl)) (by unfold Func.isWrapper; first | (rw [if_pos (by decide +kernel)]; kernel_rfl) | (rw [if_neg (by decide +kernel)]; exact ⟨rfl, rfl⟩))
    (fun os started H enc _ => codecPrefixes_lifted os started H enc)
#print axioms codecPrefixes_holds
end Go.Proofs.Ytbmkdhiigapbdaa
