/- Two signatures by one secret with one number, of different challenges, show the secret. No condition: every argument that reads as data. -/
import Derived.Test.YtjinhojlnaplaaaDoorSigN
import Derived.Test.YtjinhojlnaplaaaDoorArgS
import Derived.Test.YtjinhojlnaplaaaDoorLaid11
namespace Go.Proofs.YtjinhojlnaplaaaDoor
open Sh Go.RowKit Go.WideShapes Go.ChangeShapes Go.ChangeAt
set_option maxRecDepth 100000
theorem signOnce_params : Tryd.f5.params.toList = [39, 39, 24, 24] := by kernel_rfl
theorem signOnce_laid_met (os : Os) : laidMet Tryd.prog Rows.signOnceRow.laid ((laidWorld os).forCall (fun _ _ => 0) ⟨#[], #[.int .u64 0, .int .u64 0, .slice none 0 0, .slice none 0 0], []⟩).memory :=
  laidMet_of_run' 8 (by kernel_rfl) (by kernel_rfl)
theorem signOnce_reads (os : Os) {H : Type} (enc : TypeId × Value → H) : ∃ places, DataW.whole enc Tryd.prog ((laidWorld os).forCall (fun _ _ => 0) ⟨#[], #[.int .u64 0, .int .u64 0, .slice none 0 0, .slice none 0 0], []⟩).memory Tryd.f5.params.toList Rows.signOnceSpec.vars false (#[.int .u64 0, .int .u64 0, .slice none 0 0, .slice none 0 0] : Array Value).toList 8 = some ([.lit (.int .u64 0), .lit (.int .u64 0), .nil, .nil], [], places) :=
  ⟨[], by kernel_rfl⟩
theorem signOnce_lifted (os : Os) (started : os.Started) (H : Type) (enc : TypeId × Value → H) (F : Stop.Interp) :
    ReturnsInHanded {} Tryd.checked os 5 .any ((OpenSpec.ofChange Rows.signOnceSpec).preRow enc Tryd.prog Tryd.f5 Rows.signOnceRow.domain false Rows.signOnceRow.laid) (((OpenSpec.ofChange Rows.signOnceSpec).at F).post enc Tryd.prog Tryd.f5 false true false false) := by
  obtain ⟨places, hx⟩ := signOnce_reads os enc
  refine law_returns_row (C := Tryd.checked) (bt := 4) own started (by kernel_rfl) Tryd.func5
    (witness_row_at (enc := enc) (C := Tryd.checked) false (laidWorld os) #[.int .u64 0, .int .u64 0, .slice none 0 0, .slice none 0 0] rfl (by kernel_rfl) (by kernel_rfl) (by kernel_rfl)
      (OpenSpec.preRow_of_cond 8 hx (by kernel_rfl) (fun k hk => by cases hk) (by kernel_rfl) (signOnce_laid_met os))) rfl laid (by rw [signOnce_params]; intro t ht; revert t; exact of_decide_eq_true (by kernel_rfl)) rfl Ty.bool ?_ ?_
  · intro ds hd
    have hd : ds.length = 4 := hd
    match ds, hd with
    | [_, _, _, _], _ => rfl
  · intro W base args ds ps hval hA hL
    rw [signOnce_params] at hval hA
    obtain ⟨v0, vs0, d0, ds0, p0, q0, rfl, rfl, rfl, h0, r0⟩ := trodAll_cons hA
    obtain ⟨v1, vs1, d1, ds1, p1, q1, rfl, rfl, rfl, h1, r1⟩ := trodAll_cons r0
    obtain ⟨v2, vs2, d2, ds2, p2, q2, rfl, rfl, rfl, h2, r2⟩ := trodAll_cons r1
    obtain ⟨v3, vs3, d3, ds3, p3, q3, rfl, rfl, rfl, h3, r3⟩ := trodAll_cons r2
    obtain ⟨rfl, rfl, rfl⟩ := trodAll_nil r3
    obtain ⟨z0, rfl⟩ := arg_u64 (hval 0 _ _ rfl rfl) h0
    obtain ⟨z1, rfl⟩ := arg_u64 (hval 1 _ _ rfl rfl) h1
    obtain ⟨l2, s2, g2⟩ := arg_ints (hval 2 _ _ rfl rfl) h2
    obtain ⟨l3, s3, g3⟩ := arg_ints (hval 3 _ _ rfl rfl) h3
    exact SignOnce_ret g2 g3 W s2 s3 (table hL)
theorem signOnce_said : Rows.SignOnceSaid :=
  OpenClaim.holds_of_cond 5 Tryd.f5 rfl rfl rfl rfl rfl rfl rfl ⟨rfl, rfl, rfl, rfl, rfl⟩ rfl rfl rfl rfl rfl (by kernel_rfl) Tryd.func5 (by kernel_rfl)
    (of_decide_eq_true (by kernel_rfl)) (by unfold Func.isWrapper; first | (rw [if_pos (by decide +kernel)]; kernel_rfl) | (rw [if_neg (by decide +kernel)]; exact ⟨rfl, rfl⟩))
    (fun os started H enc _ F => by rw [OpenClaim.pre_eq_preRow]; exact signOnce_lifted os started H enc F)
theorem signOnce_plain (f : FuncId) (fn : Func) (hf : Tryd.pinned.checked.prog.funcNamed Rows.signOnceRow.func = some f) (hfn : Tryd.pinned.checked.prog.funcs[f]? = some fn) :
    false = Tryd.pinned.checked.prog.looks [] ∧ ∀ (j : Nat) t, fn.params[j]? = some t → Tryd.pinned.checked.prog.wantsStandIn t = false := by
  obtain rfl : f = 5 := Option.some.inj ((show Tryd.prog.funcNamed Rows.signOnceRow.func = some 5 by kernel_rfl).symm.trans hf) |>.symm
  obtain rfl : fn = Tryd.f5 := (Option.some.inj (Tryd.func5.symm.trans hfn)).symm
  refine ⟨by kernel_rfl, fun j t ht => ?_⟩
  have hm : t ∈ Tryd.f5.params.toList := Array.mem_toList_iff.2 (Array.mem_of_getElem? ht)
  rw [signOnce_params] at hm
  revert t
  intro t _ hm
  have h : ∀ t ∈ ([39, 39, 24, 24] : List TypeId), Tryd.prog.wantsStandIn t = false := of_decide_eq_true (by kernel_rfl)
  exact h t hm
theorem signOnce_holds : Rows.SignOnceCardSaid :=
  Claim7.holds_tied_plain_at .later [] _ _ _ _ signOnce_said (fun _ h => by cases h) (by kernel_rfl) (fun _ h => by cases h) signOnce_row_tie rfl ⟨rfl, rfl⟩ (by kernel_rfl) rfl signOnce_plain (by kernel_rfl)
#print axioms signOnce_holds
end Go.Proofs.YtjinhojlnaplaaaDoor
