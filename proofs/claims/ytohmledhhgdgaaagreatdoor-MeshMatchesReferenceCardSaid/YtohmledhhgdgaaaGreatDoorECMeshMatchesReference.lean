/- Add, Merge, Known and Valid return what the reference implementation returns. No condition: every argument that reads as data. -/
import Derived.Test.YtohmledhhgdgaaaGreatDoorEMshO
import Derived.Test.YtohmledhhgdgaaaGreatDoorEArgM
import Derived.Test.YtohmledhhgdgaaaGreatDoorELaid26
set_option linter.unusedVariables false
set_option linter.unusedSimpArgs false
namespace Go.Proofs.YtohmledhhgdgaaaGreatDoor
open Sh Go.RowKit Go.WideShapes Go.ChangeShapes Go.ChangeAt
set_option maxRecDepth 100000
theorem meshMatchesReference_params : Tryz.f3.params.toList = [24, 24, 30, 3, 3] := by kernel_rfl
theorem meshMatchesReference_laid_met (os : Os) : laidMet Tryz.prog Rows.meshMatchesReferenceRow.laid ((laidWorld os).forCall (fun _ _ => 0) ⟨#[], #[.agg #[.int .i64 0, .slice none 0 0], .agg #[.int .i64 0, .slice none 0 0], .agg #[.int .i64 0, .int .i64 0, .slice none 0 0, .int .u64 0, .int .u64 0, .int .i64 0, .int .i64 0], .int .i64 0, .int .i64 0], []⟩).memory :=
  laidMet_of_run' 8 (by kernel_rfl) (by kernel_rfl)
theorem meshMatchesReference_reads (os : Os) {H : Type} (enc : TypeId × Value → H) : ∃ places, DataW.whole enc Tryz.prog ((laidWorld os).forCall (fun _ _ => 0) ⟨#[], #[.agg #[.int .i64 0, .slice none 0 0], .agg #[.int .i64 0, .slice none 0 0], .agg #[.int .i64 0, .int .i64 0, .slice none 0 0, .int .u64 0, .int .u64 0, .int .i64 0, .int .i64 0], .int .i64 0, .int .i64 0], []⟩).memory Tryz.f3.params.toList Rows.meshMatchesReferenceSpec.vars false (#[.agg #[.int .i64 0, .slice none 0 0], .agg #[.int .i64 0, .slice none 0 0], .agg #[.int .i64 0, .int .i64 0, .slice none 0 0, .int .u64 0, .int .u64 0, .int .i64 0, .int .i64 0], .int .i64 0, .int .i64 0] : Array Value).toList 8 = some ([.agg [.lit (.int .i64 0), .nil], .agg [.lit (.int .i64 0), .nil], .agg [.lit (.int .i64 0), .lit (.int .i64 0), .nil, .lit (.int .u64 0), .lit (.int .u64 0), .agg [.lit (.int .i64 0), .lit (.int .i64 0)]], .lit (.int .i64 0), .lit (.int .i64 0)], [], places) :=
  ⟨[], by kernel_rfl⟩
theorem meshMatchesReference_lifted (os : Os) (started : os.Started) (H : Type) (enc : TypeId × Value → H) (F : Stop.Interp) :
    ReturnsInHanded {} Tryz.checked os 3 .any ((OpenSpec.ofChange Rows.meshMatchesReferenceSpec).preRow enc Tryz.prog Tryz.f3 Rows.meshMatchesReferenceRow.domain false Rows.meshMatchesReferenceRow.laid) (((OpenSpec.ofChange Rows.meshMatchesReferenceSpec).at F).post enc Tryz.prog Tryz.f3 false true false false) := by
  obtain ⟨places, hx⟩ := meshMatchesReference_reads os enc
  refine law_returns_row (C := Tryz.checked) (bt := 4) own started (by kernel_rfl) Tryz.func3
    (witness_row_at (enc := enc) (C := Tryz.checked) false (laidWorld os) #[.agg #[.int .i64 0, .slice none 0 0], .agg #[.int .i64 0, .slice none 0 0], .agg #[.int .i64 0, .int .i64 0, .slice none 0 0, .int .u64 0, .int .u64 0, .int .i64 0, .int .i64 0], .int .i64 0, .int .i64 0] rfl (by kernel_rfl) (by kernel_rfl) (by kernel_rfl)
      (OpenSpec.preRow_of_cond 8 hx (by kernel_rfl) (fun k hk => by cases hk) (by kernel_rfl) (meshMatchesReference_laid_met os))) rfl laid (by rw [meshMatchesReference_params]; intro t ht; revert t; exact of_decide_eq_true (by kernel_rfl)) rfl Ty.bool ?_ ?_
  · intro ds hd
    have hd : ds.length = 5 := hd
    match ds, hd with
    | [_, _, _, _, _], _ => rfl
  · intro W base args ds ps hval hA hL
    rw [meshMatchesReference_params] at hval hA
    obtain ⟨v0, vs0, d0, ds0, p0, q0, rfl, rfl, rfl, h0, r0⟩ := trodAll_cons hA
    obtain ⟨v1, vs1, d1, ds1, p1, q1, rfl, rfl, rfl, h1, r1⟩ := trodAll_cons r0
    obtain ⟨v2, vs2, d2, ds2, p2, q2, rfl, rfl, rfl, h2, r2⟩ := trodAll_cons r1
    obtain ⟨v3, vs3, d3, ds3, p3, q3, rfl, rfl, rfl, h3, r3⟩ := trodAll_cons r2
    obtain ⟨v4, vs4, d4, ds4, p4, q4, rfl, rfl, rfl, h4, r4⟩ := trodAll_cons r3
    obtain ⟨rfl, rfl, rfl⟩ := trodAll_nil r4
    obtain ⟨s0, b0, rfl, j0, g0⟩ := arg_box (hval 0 _ _ rfl rfl) h0
    obtain ⟨s1, b1, rfl, j1, g1⟩ := arg_box (hval 1 _ _ rfl rfl) h1
    obtain ⟨s2, r2, rfl, j2, g2⟩ := arg_report (hval 2 _ _ rfl rfl) h2
    obtain ⟨z3, rfl, g3⟩ := arg_int (hval 3 _ _ rfl rfl) h3
    obtain ⟨z4, rfl, g4⟩ := arg_int (hval 4 _ _ rfl rfl) h4
    exact MeshMatchesReference_ret g0 g1 g2 g4 W j0 j1 j2 (table hL)
theorem meshMatchesReference_said : Rows.MeshMatchesReferenceSaid :=
  OpenClaim.holds_of_cond 3 Tryz.f3 rfl rfl rfl rfl rfl rfl rfl ⟨rfl, rfl, rfl, rfl, rfl⟩ rfl rfl rfl rfl rfl (by kernel_rfl) Tryz.func3 (by kernel_rfl)
    (of_decide_eq_true (by kernel_rfl)) (by unfold Func.isWrapper; first | (rw [if_pos (by decide +kernel)]; kernel_rfl) | (rw [if_neg (by decide +kernel)]; exact ⟨rfl, rfl⟩))
    (fun os started H enc _ F => by rw [OpenClaim.pre_eq_preRow]; exact meshMatchesReference_lifted os started H enc F)
theorem meshMatchesReference_plain (f : FuncId) (fn : Func) (hf : Tryz.pinned.checked.prog.funcNamed Rows.meshMatchesReferenceRow.func = some f) (hfn : Tryz.pinned.checked.prog.funcs[f]? = some fn) :
    false = Tryz.pinned.checked.prog.looks [] ∧ ∀ (j : Nat) t, fn.params[j]? = some t → Tryz.pinned.checked.prog.wantsStandIn t = false := by
  obtain rfl : f = 3 := Option.some.inj ((show Tryz.prog.funcNamed Rows.meshMatchesReferenceRow.func = some 3 by kernel_rfl).symm.trans hf) |>.symm
  obtain rfl : fn = Tryz.f3 := (Option.some.inj (Tryz.func3.symm.trans hfn)).symm
  refine ⟨by kernel_rfl, fun j t ht => ?_⟩
  have hm : t ∈ Tryz.f3.params.toList := Array.mem_toList_iff.2 (Array.mem_of_getElem? ht)
  rw [meshMatchesReference_params] at hm
  revert t
  intro t _ hm
  have h : ∀ t ∈ ([24, 24, 30, 3, 3] : List TypeId), Tryz.prog.wantsStandIn t = false := of_decide_eq_true (by kernel_rfl)
  exact h t hm
theorem meshMatchesReference_holds : Rows.MeshMatchesReferenceCardSaid :=
  Claim7.holds_tied_plain_at .later [] _ _ _ _ meshMatchesReference_said (fun _ h => by cases h) (by kernel_rfl) (fun _ h => by cases h) meshMatchesReference_row_tie rfl ⟨rfl, rfl⟩ (by kernel_rfl) rfl meshMatchesReference_plain (by kernel_rfl)
#print axioms meshMatchesReference_holds
end Go.Proofs.YtohmledhhgdgaaaGreatDoor
