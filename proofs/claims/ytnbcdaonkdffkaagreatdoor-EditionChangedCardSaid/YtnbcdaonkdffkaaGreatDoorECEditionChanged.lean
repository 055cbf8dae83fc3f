/- An issue that is changed is not right, or leads to a chart of the same digest. No condition: every argument that reads as data. -/
import Derived.Test.YtnbcdaonkdffkaaGreatDoorEEdnD
import Derived.Test.YtnbcdaonkdffkaaGreatDoorEArgE
import Derived.Test.YtnbcdaonkdffkaaGreatDoorELaid29
set_option linter.unusedVariables false
set_option linter.unusedSimpArgs false
namespace Go.Proofs.YtnbcdaonkdffkaaGreatDoor
open Sh Go.RowKit Go.WideShapes Go.ChangeShapes Go.ChangeAt
set_option maxRecDepth 100000
theorem editionChanged_params : Tryz.f7.params.toList = [26, 36, 36, 3, 3, 5, 48] := by kernel_rfl
theorem editionChanged_laid_met (os : Os) : laidMet Tryz.prog Rows.editionChangedRow.laid ((laidWorld os).forCall (fun _ _ => 0) ⟨#[], #[.agg #[.int .i64 0, .int .i64 0, .int .i64 0, .int .i64 0, .int .i64 0, .int .i64 0, .slice none 0 0, .slice none 0 0, .slice none 0 0], .slice none 0 0, .slice none 0 0, .int .i64 0, .int .i64 0, .int .u8 0, .int .u64 0], []⟩).memory :=
  laidMet_of_run' 8 (by kernel_rfl) (by kernel_rfl)
theorem editionChanged_reads (os : Os) {H : Type} (enc : TypeId × Value → H) : ∃ places, DataW.whole enc Tryz.prog ((laidWorld os).forCall (fun _ _ => 0) ⟨#[], #[.agg #[.int .i64 0, .int .i64 0, .int .i64 0, .int .i64 0, .int .i64 0, .int .i64 0, .slice none 0 0, .slice none 0 0, .slice none 0 0], .slice none 0 0, .slice none 0 0, .int .i64 0, .int .i64 0, .int .u8 0, .int .u64 0], []⟩).memory Tryz.f7.params.toList Rows.editionChangedSpec.vars false (#[.agg #[.int .i64 0, .int .i64 0, .int .i64 0, .int .i64 0, .int .i64 0, .int .i64 0, .slice none 0 0, .slice none 0 0, .slice none 0 0], .slice none 0 0, .slice none 0 0, .int .i64 0, .int .i64 0, .int .u8 0, .int .u64 0] : Array Value).toList 8 = some ([.agg [.lit (.int .i64 0), .lit (.int .i64 0), .lit (.int .i64 0), .lit (.int .i64 0), .lit (.int .i64 0), .lit (.int .i64 0), .nil, .nil, .nil], .nil, .nil, .lit (.int .i64 0), .lit (.int .i64 0), .lit (.int .u8 0), .lit (.int .u64 0)], [], places) :=
  ⟨[], by kernel_rfl⟩
theorem editionChanged_lifted (os : Os) (started : os.Started) (H : Type) (enc : TypeId × Value → H) (F : Stop.Interp) :
    ReturnsInHanded {} Tryz.checked os 7 .any ((OpenSpec.ofChange Rows.editionChangedSpec).preRow enc Tryz.prog Tryz.f7 Rows.editionChangedRow.domain false Rows.editionChangedRow.laid) (((OpenSpec.ofChange Rows.editionChangedSpec).at F).post enc Tryz.prog Tryz.f7 false true false false) := by
  obtain ⟨places, hx⟩ := editionChanged_reads os enc
  refine law_returns_row (C := Tryz.checked) (bt := 4) own started (by kernel_rfl) Tryz.func7
    (witness_row_at (enc := enc) (C := Tryz.checked) false (laidWorld os) #[.agg #[.int .i64 0, .int .i64 0, .int .i64 0, .int .i64 0, .int .i64 0, .int .i64 0, .slice none 0 0, .slice none 0 0, .slice none 0 0], .slice none 0 0, .slice none 0 0, .int .i64 0, .int .i64 0, .int .u8 0, .int .u64 0] rfl (by kernel_rfl) (by kernel_rfl) (by kernel_rfl)
      (OpenSpec.preRow_of_cond 8 hx (by kernel_rfl) (fun k hk => by cases hk) (by kernel_rfl) (editionChanged_laid_met os))) rfl laid (by rw [editionChanged_params]; intro t ht; revert t; exact of_decide_eq_true (by kernel_rfl)) rfl Ty.bool ?_ ?_
  · intro ds hd
    have hd : ds.length = 7 := hd
    match ds, hd with
    | [_, _, _, _, _, _, _], _ => rfl
  · intro W base args ds ps hval hA hL
    rw [editionChanged_params] at hval hA
    obtain ⟨v0, vs0, d0, ds0, p0, q0, rfl, rfl, rfl, h0, r0⟩ := trodAll_cons hA
    obtain ⟨v1, vs1, d1, ds1, p1, q1, rfl, rfl, rfl, h1, r1⟩ := trodAll_cons r0
    obtain ⟨v2, vs2, d2, ds2, p2, q2, rfl, rfl, rfl, h2, r2⟩ := trodAll_cons r1
    obtain ⟨v3, vs3, d3, ds3, p3, q3, rfl, rfl, rfl, h3, r3⟩ := trodAll_cons r2
    obtain ⟨v4, vs4, d4, ds4, p4, q4, rfl, rfl, rfl, h4, r4⟩ := trodAll_cons r3
    obtain ⟨v5, vs5, d5, ds5, p5, q5, rfl, rfl, rfl, h5, r5⟩ := trodAll_cons r4
    obtain ⟨v6, vs6, d6, ds6, p6, q6, rfl, rfl, rfl, h6, r6⟩ := trodAll_cons r5
    obtain ⟨rfl, rfl, rfl⟩ := trodAll_nil r6
    obtain ⟨s0, C0, rfl, j0, g0⟩ := arg_chart (hval 0 _ _ rfl rfl) h0
    obtain ⟨l1, s1, g1⟩ := arg_ints (hval 1 _ _ rfl rfl) h1
    obtain ⟨l2, s2, g2⟩ := arg_ints (hval 2 _ _ rfl rfl) h2
    obtain ⟨z3, rfl, g3⟩ := arg_int (hval 3 _ _ rfl rfl) h3
    obtain ⟨z4, rfl, g4⟩ := arg_int (hval 4 _ _ rfl rfl) h4
    obtain ⟨z5, rfl, g5⟩ := arg_u8 (hval 5 _ _ rfl rfl) h5
    obtain ⟨z6, rfl⟩ := arg_u64 (hval 6 _ _ rfl rfl) h6
    exact EditionChanged_ret W j0 g0 s1 g1 s2 g2 g5 (table hL)
theorem editionChanged_said : Rows.EditionChangedSaid :=
  OpenClaim.holds_of_cond 7 Tryz.f7 rfl rfl rfl rfl rfl rfl rfl ⟨rfl, rfl, rfl, rfl, rfl⟩ rfl rfl rfl rfl rfl (by kernel_rfl) Tryz.func7 (by kernel_rfl)
    (of_decide_eq_true (by kernel_rfl)) (by unfold Func.isWrapper; first | (rw [if_pos (by decide +kernel)]; kernel_rfl) | (rw [if_neg (by decide +kernel)]; exact ⟨rfl, rfl⟩))
    (fun os started H enc _ F => by rw [OpenClaim.pre_eq_preRow]; exact editionChanged_lifted os started H enc F)
theorem editionChanged_plain (f : FuncId) (fn : Func) (hf : Tryz.pinned.checked.prog.funcNamed Rows.editionChangedRow.func = some f) (hfn : Tryz.pinned.checked.prog.funcs[f]? = some fn) :
    false = Tryz.pinned.checked.prog.looks [] ∧ ∀ (j : Nat) t, fn.params[j]? = some t → Tryz.pinned.checked.prog.wantsStandIn t = false := by
  obtain rfl : f = 7 := Option.some.inj ((show Tryz.prog.funcNamed Rows.editionChangedRow.func = some 7 by kernel_rfl).symm.trans hf) |>.symm
  obtain rfl : fn = Tryz.f7 := (Option.some.inj (Tryz.func7.symm.trans hfn)).symm
  refine ⟨by kernel_rfl, fun j t ht => ?_⟩
  have hm : t ∈ Tryz.f7.params.toList := Array.mem_toList_iff.2 (Array.mem_of_getElem? ht)
  rw [editionChanged_params] at hm
  revert t
  intro t _ hm
  have h : ∀ t ∈ ([26, 36, 36, 3, 3, 5, 48] : List TypeId), Tryz.prog.wantsStandIn t = false := of_decide_eq_true (by kernel_rfl)
  exact h t hm
theorem editionChanged_holds : Rows.EditionChangedCardSaid :=
  Claim7.holds_tied_plain_at .later [] _ _ _ _ editionChanged_said (fun _ h => by cases h) (by kernel_rfl) (fun _ h => by cases h) editionChanged_row_tie rfl ⟨rfl, rfl⟩ (by kernel_rfl) rfl editionChanged_plain (by kernel_rfl)
#print axioms editionChanged_holds
end Go.Proofs.YtnbcdaonkdffkaaGreatDoor
