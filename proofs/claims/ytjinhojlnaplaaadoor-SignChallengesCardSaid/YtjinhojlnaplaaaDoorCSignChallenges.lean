/- A signature is right exactly if its E is the challenge that the reference reckons. No condition: every argument that reads as data. -/
import Derived.Test.YtjinhojlnaplaaaDoorSigN
import Derived.Test.YtjinhojlnaplaaaDoorArgS
import Derived.Test.YtjinhojlnaplaaaDoorLaid11
namespace Go.Proofs.YtjinhojlnaplaaaDoor
open Sh Go.RowKit Go.WideShapes Go.ChangeShapes Go.ChangeAt
set_option maxRecDepth 100000
theorem signChallenges_params : Tryd.f4.params.toList = [39, 39, 39, 24, 24, 23] := by kernel_rfl
theorem signChallenges_laid_met (os : Os) : laidMet Tryd.prog Rows.signChallengesRow.laid ((laidWorld os).forCall (fun _ _ => 0) ⟨#[], #[.int .u64 0, .int .u64 0, .int .u64 0, .slice none 0 0, .slice none 0 0, .agg #[.int .i64 0, .int .i64 0]], []⟩).memory :=
  laidMet_of_run' 8 (by kernel_rfl) (by kernel_rfl)
theorem signChallenges_reads (os : Os) {H : Type} (enc : TypeId × Value → H) : ∃ places, DataW.whole enc Tryd.prog ((laidWorld os).forCall (fun _ _ => 0) ⟨#[], #[.int .u64 0, .int .u64 0, .int .u64 0, .slice none 0 0, .slice none 0 0, .agg #[.int .i64 0, .int .i64 0]], []⟩).memory Tryd.f4.params.toList Rows.signChallengesSpec.vars false (#[.int .u64 0, .int .u64 0, .int .u64 0, .slice none 0 0, .slice none 0 0, .agg #[.int .i64 0, .int .i64 0]] : Array Value).toList 8 = some ([.lit (.int .u64 0), .lit (.int .u64 0), .lit (.int .u64 0), .nil, .nil, .agg [.lit (.int .i64 0), .lit (.int .i64 0)]], [], places) :=
  ⟨[], by kernel_rfl⟩
theorem signChallenges_lifted (os : Os) (started : os.Started) (H : Type) (enc : TypeId × Value → H) (F : Stop.Interp) :
    ReturnsInHanded {} Tryd.checked os 4 .any ((OpenSpec.ofChange Rows.signChallengesSpec).preRow enc Tryd.prog Tryd.f4 Rows.signChallengesRow.domain false Rows.signChallengesRow.laid) (((OpenSpec.ofChange Rows.signChallengesSpec).at F).post enc Tryd.prog Tryd.f4 false true false false) := by
  obtain ⟨places, hx⟩ := signChallenges_reads os enc
  refine law_returns_row (C := Tryd.checked) (bt := 4) own started (by kernel_rfl) Tryd.func4
    (witness_row_at (enc := enc) (C := Tryd.checked) false (laidWorld os) #[.int .u64 0, .int .u64 0, .int .u64 0, .slice none 0 0, .slice none 0 0, .agg #[.int .i64 0, .int .i64 0]] rfl (by kernel_rfl) (by kernel_rfl) (by kernel_rfl)
      (OpenSpec.preRow_of_cond 8 hx (by kernel_rfl) (fun k hk => by cases hk) (by kernel_rfl) (signChallenges_laid_met os))) rfl laid (by rw [signChallenges_params]; intro t ht; revert t; exact of_decide_eq_true (by kernel_rfl)) rfl Ty.bool ?_ ?_
  · intro ds hd
    have hd : ds.length = 6 := hd
    match ds, hd with
    | [_, _, _, _, _, _], _ => rfl
  · intro W base args ds ps hval hA hL
    rw [signChallenges_params] at hval hA
    obtain ⟨v0, vs0, d0, ds0, p0, q0, rfl, rfl, rfl, h0, r0⟩ := trodAll_cons hA
    obtain ⟨v1, vs1, d1, ds1, p1, q1, rfl, rfl, rfl, h1, r1⟩ := trodAll_cons r0
    obtain ⟨v2, vs2, d2, ds2, p2, q2, rfl, rfl, rfl, h2, r2⟩ := trodAll_cons r1
    obtain ⟨v3, vs3, d3, ds3, p3, q3, rfl, rfl, rfl, h3, r3⟩ := trodAll_cons r2
    obtain ⟨v4, vs4, d4, ds4, p4, q4, rfl, rfl, rfl, h4, r4⟩ := trodAll_cons r3
    obtain ⟨v5, vs5, d5, ds5, p5, q5, rfl, rfl, rfl, h5, r5⟩ := trodAll_cons r4
    obtain ⟨rfl, rfl, rfl⟩ := trodAll_nil r5
    obtain ⟨z0, rfl⟩ := arg_u64 (hval 0 _ _ rfl rfl) h0
    obtain ⟨z1, rfl⟩ := arg_u64 (hval 1 _ _ rfl rfl) h1
    obtain ⟨z2, rfl⟩ := arg_u64 (hval 2 _ _ rfl rfl) h2
    obtain ⟨l3, s3, g3⟩ := arg_ints (hval 3 _ _ rfl rfl) h3
    obtain ⟨l4, s4, g4⟩ := arg_ints (hval 4 _ _ rfl rfl) h4
    obtain ⟨r5, rfl, g5⟩ := arg_sig (hval 5 _ _ rfl rfl) h5
    exact SignChallenges_ret g3 g4 W s3 s4 (table hL)
theorem signChallenges_said : Rows.SignChallengesSaid :=
  OpenClaim.holds_of_cond 4 Tryd.f4 rfl rfl rfl rfl rfl rfl rfl ⟨rfl, rfl, rfl, rfl, rfl⟩ rfl rfl rfl rfl rfl (by kernel_rfl) Tryd.func4 (by kernel_rfl)
    (of_decide_eq_true (by kernel_rfl)) (by unfold Func.isWrapper; first | (rw [if_pos (by decide +kernel)]; kernel_rfl) | (rw [if_neg (by decide +kernel)]; exact ⟨rfl, rfl⟩))
    (fun os started H enc _ F => by rw [OpenClaim.pre_eq_preRow]; exact signChallenges_lifted os started H enc F)
theorem signChallenges_plain (f : FuncId) (fn : Func) (hf : Tryd.pinned.checked.prog.funcNamed Rows.signChallengesRow.func = some f) (hfn : Tryd.pinned.checked.prog.funcs[f]? = some fn) :
    false = Tryd.pinned.checked.prog.looks [] ∧ ∀ (j : Nat) t, fn.params[j]? = some t → Tryd.pinned.checked.prog.wantsStandIn t = false := by
  obtain rfl : f = 4 := Option.some.inj ((show Tryd.prog.funcNamed Rows.signChallengesRow.func = some 4 by kernel_rfl).symm.trans hf) |>.symm
  obtain rfl : fn = Tryd.f4 := (Option.some.inj (Tryd.func4.symm.trans hfn)).symm
  refine ⟨by kernel_rfl, fun j t ht => ?_⟩
  have hm : t ∈ Tryd.f4.params.toList := Array.mem_toList_iff.2 (Array.mem_of_getElem? ht)
  rw [signChallenges_params] at hm
  revert t
  intro t _ hm
  have h : ∀ t ∈ ([39, 39, 39, 24, 24, 23] : List TypeId), Tryd.prog.wantsStandIn t = false := of_decide_eq_true (by kernel_rfl)
  exact h t hm
theorem signChallenges_holds : Rows.SignChallengesCardSaid :=
  Claim7.holds_tied_plain_at .later [] _ _ _ _ signChallenges_said (fun _ h => by cases h) (by kernel_rfl) (fun _ h => by cases h) signChallenges_row_tie rfl ⟨rfl, rfl⟩ (by kernel_rfl) rfl signChallenges_plain (by kernel_rfl)
#print axioms signChallenges_holds
end Go.Proofs.YtjinhojlnaplaaaDoor
