/- Chain, Valid, Make and Check return what the reference implementation returns. No condition: every argument that reads as data. -/
import Derived.Test.YtjinhojlnaplaaaDoorRepL
import Derived.Test.YtjinhojlnaplaaaDoorArgR
import Derived.Test.YtjinhojlnaplaaaDoorLaid24
namespace Go.Proofs.YtjinhojlnaplaaaDoor
open Sh Go.RowKit Go.WideShapes Go.ChangeShapes Go.ChangeAt
set_option maxRecDepth 100000
theorem reportMatchesReference_params : Tryd.f6.params.toList = [49, 51, 3, 3, 3, 3, 3] := by kernel_rfl
theorem reportMatchesReference_laid_met (os : Os) : laidMet Tryd.prog Rows.reportMatchesReferenceRow.laid ((laidWorld os).forCall (fun _ _ => 0) ⟨#[], #[.agg #[.int .i64 0, .slice none 0 0, .slice none 0 0], .agg #[.int .i64 0, .int .i64 0, .slice none 0 0, .int .u64 0, .int .u64 0, .int .i64 0, .int .i64 0], .int .i64 0, .int .i64 0, .int .i64 0, .int .i64 0, .int .i64 0], []⟩).memory :=
  laidMet_of_run' 8 (by kernel_rfl) (by kernel_rfl)
theorem reportMatchesReference_reads (os : Os) {H : Type} (enc : TypeId × Value → H) : ∃ places, DataW.whole enc Tryd.prog ((laidWorld os).forCall (fun _ _ => 0) ⟨#[], #[.agg #[.int .i64 0, .slice none 0 0, .slice none 0 0], .agg #[.int .i64 0, .int .i64 0, .slice none 0 0, .int .u64 0, .int .u64 0, .int .i64 0, .int .i64 0], .int .i64 0, .int .i64 0, .int .i64 0, .int .i64 0, .int .i64 0], []⟩).memory Tryd.f6.params.toList Rows.reportMatchesReferenceSpec.vars false (#[.agg #[.int .i64 0, .slice none 0 0, .slice none 0 0], .agg #[.int .i64 0, .int .i64 0, .slice none 0 0, .int .u64 0, .int .u64 0, .int .i64 0, .int .i64 0], .int .i64 0, .int .i64 0, .int .i64 0, .int .i64 0, .int .i64 0] : Array Value).toList 8 = some ([.agg [.lit (.int .i64 0), .nil, .nil], .agg [.lit (.int .i64 0), .lit (.int .i64 0), .nil, .lit (.int .u64 0), .lit (.int .u64 0), .agg [.lit (.int .i64 0), .lit (.int .i64 0)]], .lit (.int .i64 0), .lit (.int .i64 0), .lit (.int .i64 0), .lit (.int .i64 0), .lit (.int .i64 0)], [], places) :=
  ⟨[], by kernel_rfl⟩
theorem reportMatchesReference_lifted (os : Os) (started : os.Started) (H : Type) (enc : TypeId × Value → H) (F : Stop.Interp) :
    ReturnsInHanded {} Tryd.checked os 6 .any ((OpenSpec.ofChange Rows.reportMatchesReferenceSpec).preRow enc Tryd.prog Tryd.f6 Rows.reportMatchesReferenceRow.domain false Rows.reportMatchesReferenceRow.laid) (((OpenSpec.ofChange Rows.reportMatchesReferenceSpec).at F).post enc Tryd.prog Tryd.f6 false true false false) := by
  obtain ⟨places, hx⟩ := reportMatchesReference_reads os enc
  refine law_returns_row (C := Tryd.checked) (bt := 4) own started (by kernel_rfl) Tryd.func6
    (witness_row_at (enc := enc) (C := Tryd.checked) false (laidWorld os) #[.agg #[.int .i64 0, .slice none 0 0, .slice none 0 0], .agg #[.int .i64 0, .int .i64 0, .slice none 0 0, .int .u64 0, .int .u64 0, .int .i64 0, .int .i64 0], .int .i64 0, .int .i64 0, .int .i64 0, .int .i64 0, .int .i64 0] rfl (by kernel_rfl) (by kernel_rfl) (by kernel_rfl)
      (OpenSpec.preRow_of_cond 8 hx (by kernel_rfl) (fun k hk => by cases hk) (by kernel_rfl) (reportMatchesReference_laid_met os))) rfl laid (by rw [reportMatchesReference_params]; intro t ht; revert t; exact of_decide_eq_true (by kernel_rfl)) rfl Ty.bool ?_ ?_
  · intro ds hd
    have hd : ds.length = 7 := hd
    match ds, hd with
    | [_, _, _, _, _, _, _], _ => rfl
  · intro W base args ds ps hval hA hL
    rw [reportMatchesReference_params] at hval hA
    obtain ⟨v0, vs0, d0, ds0, p0, q0, rfl, rfl, rfl, h0, r0⟩ := trodAll_cons hA
    obtain ⟨v1, vs1, d1, ds1, p1, q1, rfl, rfl, rfl, h1, r1⟩ := trodAll_cons r0
    obtain ⟨v2, vs2, d2, ds2, p2, q2, rfl, rfl, rfl, h2, r2⟩ := trodAll_cons r1
    obtain ⟨v3, vs3, d3, ds3, p3, q3, rfl, rfl, rfl, h3, r3⟩ := trodAll_cons r2
    obtain ⟨v4, vs4, d4, ds4, p4, q4, rfl, rfl, rfl, h4, r4⟩ := trodAll_cons r3
    obtain ⟨v5, vs5, d5, ds5, p5, q5, rfl, rfl, rfl, h5, r5⟩ := trodAll_cons r4
    obtain ⟨v6, vs6, d6, ds6, p6, q6, rfl, rfl, rfl, h6, r6⟩ := trodAll_cons r5
    obtain ⟨rfl, rfl, rfl⟩ := trodAll_nil r6
    obtain ⟨s0, L0, rfl, j0, g0⟩ := arg_log (hval 0 _ _ rfl rfl) h0
    obtain ⟨s1, r1, rfl, j1, g1⟩ := arg_report (hval 1 _ _ rfl rfl) h1
    obtain ⟨z2, rfl, g2⟩ := arg_int (hval 2 _ _ rfl rfl) h2
    obtain ⟨z3, rfl, g3⟩ := arg_int (hval 3 _ _ rfl rfl) h3
    obtain ⟨z4, rfl, g4⟩ := arg_int (hval 4 _ _ rfl rfl) h4
    obtain ⟨z5, rfl, g5⟩ := arg_int (hval 5 _ _ rfl rfl) h5
    obtain ⟨z6, rfl, g6⟩ := arg_int (hval 6 _ _ rfl rfl) h6
    exact ReportMatchesReference_ret g0 g1 g2 W j0 j1 (table hL)
theorem reportMatchesReference_said : Rows.ReportMatchesReferenceSaid :=
  OpenClaim.holds_of_cond 6 Tryd.f6 rfl rfl rfl rfl rfl rfl rfl ⟨rfl, rfl, rfl, rfl, rfl⟩ rfl rfl rfl rfl rfl (by kernel_rfl) Tryd.func6 (by kernel_rfl)
    (of_decide_eq_true (by kernel_rfl)) (by unfold Func.isWrapper; first | (rw [if_pos (by decide +kernel)]; kernel_rfl) | (rw [if_neg (by decide +kernel)]; exact ⟨rfl, rfl⟩))
    (fun os started H enc _ F => by rw [OpenClaim.pre_eq_preRow]; exact reportMatchesReference_lifted os started H enc F)
theorem reportMatchesReference_plain (f : FuncId) (fn : Func) (hf : Tryd.pinned.checked.prog.funcNamed Rows.reportMatchesReferenceRow.func = some f) (hfn : Tryd.pinned.checked.prog.funcs[f]? = some fn) :
    false = Tryd.pinned.checked.prog.looks [] ∧ ∀ (j : Nat) t, fn.params[j]? = some t → Tryd.pinned.checked.prog.wantsStandIn t = false := by
  obtain rfl : f = 6 := Option.some.inj ((show Tryd.prog.funcNamed Rows.reportMatchesReferenceRow.func = some 6 by kernel_rfl).symm.trans hf) |>.symm
  obtain rfl : fn = Tryd.f6 := (Option.some.inj (Tryd.func6.symm.trans hfn)).symm
  refine ⟨by kernel_rfl, fun j t ht => ?_⟩
  have hm : t ∈ Tryd.f6.params.toList := Array.mem_toList_iff.2 (Array.mem_of_getElem? ht)
  rw [reportMatchesReference_params] at hm
  revert t
  intro t _ hm
  have h : ∀ t ∈ ([49, 51, 3, 3, 3, 3, 3] : List TypeId), Tryd.prog.wantsStandIn t = false := of_decide_eq_true (by kernel_rfl)
  exact h t hm
theorem reportMatchesReference_holds : Rows.ReportMatchesReferenceCardSaid :=
  Claim7.holds_tied_plain_at .later [] _ _ _ _ reportMatchesReference_said (fun _ h => by cases h) (by kernel_rfl) (fun _ h => by cases h) reportMatchesReference_row_tie rfl ⟨rfl, rfl⟩ (by kernel_rfl) rfl reportMatchesReference_plain (by kernel_rfl)
#print axioms reportMatchesReference_holds
end Go.Proofs.YtjinhojlnaplaaaDoor
