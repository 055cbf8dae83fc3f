/- With another chain a report is not right, nor if a digit of its last entry is another one. No condition: every argument that reads as data. -/
import Derived.Test.YtjinhojlnaplaaaDoorRepF
import Derived.Test.YtjinhojlnaplaaaDoorArgR
import Derived.Test.YtjinhojlnaplaaaDoorLaid24
namespace Go.Proofs.YtjinhojlnaplaaaDoor
open Sh Go.RowKit Go.WideShapes Go.ChangeShapes Go.ChangeAt
set_option maxRecDepth 100000
theorem reportForged_params : Tryd.f11.params.toList = [49, 5, 71, 71, 39, 5, 5] := by kernel_rfl
theorem reportForged_laid_met (os : Os) : laidMet Tryd.prog Rows.reportForgedRow.laid ((laidWorld os).forCall (fun _ _ => 0) ⟨#[], #[.agg #[.int .i64 0, .slice none 0 0, .slice none 0 0], .int .u8 0, .int .u16 0, .int .u16 0, .int .u64 0, .int .u8 0, .int .u8 0], []⟩).memory :=
  laidMet_of_run' 8 (by kernel_rfl) (by kernel_rfl)
theorem reportForged_reads (os : Os) {H : Type} (enc : TypeId × Value → H) : ∃ places, DataW.whole enc Tryd.prog ((laidWorld os).forCall (fun _ _ => 0) ⟨#[], #[.agg #[.int .i64 0, .slice none 0 0, .slice none 0 0], .int .u8 0, .int .u16 0, .int .u16 0, .int .u64 0, .int .u8 0, .int .u8 0], []⟩).memory Tryd.f11.params.toList Rows.reportForgedSpec.vars false (#[.agg #[.int .i64 0, .slice none 0 0, .slice none 0 0], .int .u8 0, .int .u16 0, .int .u16 0, .int .u64 0, .int .u8 0, .int .u8 0] : Array Value).toList 8 = some ([.agg [.lit (.int .i64 0), .nil, .nil], .lit (.int .u8 0), .lit (.int .u16 0), .lit (.int .u16 0), .lit (.int .u64 0), .lit (.int .u8 0), .lit (.int .u8 0)], [], places) :=
  ⟨[], by kernel_rfl⟩
theorem reportForged_lifted (os : Os) (started : os.Started) (H : Type) (enc : TypeId × Value → H) (F : Stop.Interp) :
    ReturnsInHanded {} Tryd.checked os 11 .any ((OpenSpec.ofChange Rows.reportForgedSpec).preRow enc Tryd.prog Tryd.f11 Rows.reportForgedRow.domain false Rows.reportForgedRow.laid) (((OpenSpec.ofChange Rows.reportForgedSpec).at F).post enc Tryd.prog Tryd.f11 false true false false) := by
  obtain ⟨places, hx⟩ := reportForged_reads os enc
  refine law_returns_row (C := Tryd.checked) (bt := 4) own started (by kernel_rfl) Tryd.func11
    (witness_row_at (enc := enc) (C := Tryd.checked) false (laidWorld os) #[.agg #[.int .i64 0, .slice none 0 0, .slice none 0 0], .int .u8 0, .int .u16 0, .int .u16 0, .int .u64 0, .int .u8 0, .int .u8 0] rfl (by kernel_rfl) (by kernel_rfl) (by kernel_rfl)
      (OpenSpec.preRow_of_cond 8 hx (by kernel_rfl) (fun k hk => by cases hk) (by kernel_rfl) (reportForged_laid_met os))) rfl laid (by rw [reportForged_params]; intro t ht; revert t; exact of_decide_eq_true (by kernel_rfl)) rfl Ty.bool ?_ ?_
  · intro ds hd
    have hd : ds.length = 7 := hd
    match ds, hd with
    | [_, _, _, _, _, _, _], _ => rfl
  · intro W base args ds ps hval hA hL
    rw [reportForged_params] at hval hA
    obtain ⟨v0, vs0, d0, ds0, p0, q0, rfl, rfl, rfl, h0, r0⟩ := trodAll_cons hA
    obtain ⟨v1, vs1, d1, ds1, p1, q1, rfl, rfl, rfl, h1, r1⟩ := trodAll_cons r0
    obtain ⟨v2, vs2, d2, ds2, p2, q2, rfl, rfl, rfl, h2, r2⟩ := trodAll_cons r1
    obtain ⟨v3, vs3, d3, ds3, p3, q3, rfl, rfl, rfl, h3, r3⟩ := trodAll_cons r2
    obtain ⟨v4, vs4, d4, ds4, p4, q4, rfl, rfl, rfl, h4, r4⟩ := trodAll_cons r3
    obtain ⟨v5, vs5, d5, ds5, p5, q5, rfl, rfl, rfl, h5, r5⟩ := trodAll_cons r4
    obtain ⟨v6, vs6, d6, ds6, p6, q6, rfl, rfl, rfl, h6, r6⟩ := trodAll_cons r5
    obtain ⟨rfl, rfl, rfl⟩ := trodAll_nil r6
    obtain ⟨s0, L0, rfl, j0, g0⟩ := arg_log (hval 0 _ _ rfl rfl) h0
    obtain ⟨z1, rfl, g1⟩ := arg_u8 (hval 1 _ _ rfl rfl) h1
    obtain ⟨n2, rfl, g2⟩ := arg_n16 (hval 2 _ _ rfl rfl) h2
    obtain ⟨n3, rfl, g3⟩ := arg_n16 (hval 3 _ _ rfl rfl) h3
    obtain ⟨z4, rfl⟩ := arg_u64 (hval 4 _ _ rfl rfl) h4
    obtain ⟨z5, rfl, g5⟩ := arg_u8 (hval 5 _ _ rfl rfl) h5
    obtain ⟨z6, rfl, g6⟩ := arg_u8 (hval 6 _ _ rfl rfl) h6
    exact ReportForged_ret g0 g1 g2 g3 g5 g6 W j0 (table hL)
theorem reportForged_said : Rows.ReportForgedSaid :=
  OpenClaim.holds_of_cond 11 Tryd.f11 rfl rfl rfl rfl rfl rfl rfl ⟨rfl, rfl, rfl, rfl, rfl⟩ rfl rfl rfl rfl rfl (by kernel_rfl) Tryd.func11 (by kernel_rfl)
    (of_decide_eq_true (by kernel_rfl)) (by unfold Func.isWrapper; first | (rw [if_pos (by decide +kernel)]; kernel_rfl) | (rw [if_neg (by decide +kernel)]; exact ⟨rfl, rfl⟩))
    (fun os started H enc _ F => by rw [OpenClaim.pre_eq_preRow]; exact reportForged_lifted os started H enc F)
theorem reportForged_plain (f : FuncId) (fn : Func) (hf : Tryd.pinned.checked.prog.funcNamed Rows.reportForgedRow.func = some f) (hfn : Tryd.pinned.checked.prog.funcs[f]? = some fn) :
    false = Tryd.pinned.checked.prog.looks [] ∧ ∀ (j : Nat) t, fn.params[j]? = some t → Tryd.pinned.checked.prog.wantsStandIn t = false := by
  obtain rfl : f = 11 := Option.some.inj ((show Tryd.prog.funcNamed Rows.reportForgedRow.func = some 11 by kernel_rfl).symm.trans hf) |>.symm
  obtain rfl : fn = Tryd.f11 := (Option.some.inj (Tryd.func11.symm.trans hfn)).symm
  refine ⟨by kernel_rfl, fun j t ht => ?_⟩
  have hm : t ∈ Tryd.f11.params.toList := Array.mem_toList_iff.2 (Array.mem_of_getElem? ht)
  rw [reportForged_params] at hm
  revert t
  intro t _ hm
  have h : ∀ t ∈ ([49, 5, 71, 71, 39, 5, 5] : List TypeId), Tryd.prog.wantsStandIn t = false := of_decide_eq_true (by kernel_rfl)
  exact h t hm
theorem reportForged_holds : Rows.ReportForgedCardSaid :=
  Claim7.holds_tied_plain_at .later [] _ _ _ _ reportForged_said (fun _ h => by cases h) (by kernel_rfl) (fun _ h => by cases h) reportForged_row_tie rfl ⟨rfl, rfl⟩ (by kernel_rfl) rfl reportForged_plain (by kernel_rfl)
#print axioms reportForged_holds
end Go.Proofs.YtjinhojlnaplaaaDoor
