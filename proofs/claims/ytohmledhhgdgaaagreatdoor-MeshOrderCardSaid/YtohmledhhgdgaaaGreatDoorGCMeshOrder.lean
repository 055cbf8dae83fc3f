/- In the opposite order, and twice each, the box is the same. No condition: every argument that reads as data. -/
import Derived.Test.YtohmledhhgdgaaaGreatDoorGMshC
import Derived.Test.YtohmledhhgdgaaaGreatDoorGArgM
import Derived.Test.YtohmledhhgdgaaaGreatDoorGLaid26
set_option linter.unusedVariables false
set_option linter.unusedSimpArgs false
namespace Go.Proofs.YtohmledhhgdgaaaGreatDoor
open Sh Go.RowKit Go.WideShapes Go.ChangeShapes Go.ChangeAt
set_option maxRecDepth 100000
theorem meshOrder_params : Tryz.f5.params.toList = [24, 22, 3] := by kernel_rfl
theorem meshOrder_laid_met (os : Os) : laidMet Tryz.prog Rows.meshOrderRow.laid ((laidWorld os).forCall (fun _ _ => 0) ⟨#[], #[.agg #[.int .i64 0, .slice none 0 0], .slice none 0 0, .int .i64 0], []⟩).memory :=
  laidMet_of_run' 8 (by kernel_rfl) (by kernel_rfl)
theorem meshOrder_reads (os : Os) {H : Type} (enc : TypeId × Value → H) : ∃ places, DataW.whole enc Tryz.prog ((laidWorld os).forCall (fun _ _ => 0) ⟨#[], #[.agg #[.int .i64 0, .slice none 0 0], .slice none 0 0, .int .i64 0], []⟩).memory Tryz.f5.params.toList Rows.meshOrderSpec.vars false (#[.agg #[.int .i64 0, .slice none 0 0], .slice none 0 0, .int .i64 0] : Array Value).toList 8 = some ([.agg [.lit (.int .i64 0), .nil], .nil, .lit (.int .i64 0)], [], places) :=
  ⟨[], by kernel_rfl⟩
theorem meshOrder_lifted (os : Os) (started : os.Started) (H : Type) (enc : TypeId × Value → H) (F : Stop.Interp) :
    ReturnsInHanded {} Tryz.checked os 5 .any ((OpenSpec.ofChange Rows.meshOrderSpec).preRow enc Tryz.prog Tryz.f5 Rows.meshOrderRow.domain false Rows.meshOrderRow.laid) (((OpenSpec.ofChange Rows.meshOrderSpec).at F).post enc Tryz.prog Tryz.f5 false true false false) := by
  obtain ⟨places, hx⟩ := meshOrder_reads os enc
  refine law_returns_row (C := Tryz.checked) (bt := 4) own started (by kernel_rfl) Tryz.func5
    (witness_row_at (enc := enc) (C := Tryz.checked) false (laidWorld os) #[.agg #[.int .i64 0, .slice none 0 0], .slice none 0 0, .int .i64 0] rfl (by kernel_rfl) (by kernel_rfl) (by kernel_rfl)
      (OpenSpec.preRow_of_cond 8 hx (by kernel_rfl) (fun k hk => by cases hk) (by kernel_rfl) (meshOrder_laid_met os))) rfl laid (by rw [meshOrder_params]; intro t ht; revert t; exact of_decide_eq_true (by kernel_rfl)) rfl Ty.bool ?_ ?_
  · intro ds hd
    have hd : ds.length = 3 := hd
    match ds, hd with
    | [_, _, _], _ => rfl
  · intro W base args ds ps hval hA hL
    rw [meshOrder_params] at hval hA
    obtain ⟨v0, vs0, d0, ds0, p0, q0, rfl, rfl, rfl, h0, r0⟩ := trodAll_cons hA
    obtain ⟨v1, vs1, d1, ds1, p1, q1, rfl, rfl, rfl, h1, r1⟩ := trodAll_cons r0
    obtain ⟨v2, vs2, d2, ds2, p2, q2, rfl, rfl, rfl, h2, r2⟩ := trodAll_cons r1
    obtain ⟨rfl, rfl, rfl⟩ := trodAll_nil r2
    obtain ⟨s0, b0, rfl, j0, g0⟩ := arg_box (hval 0 _ _ rfl rfl) h0
    obtain ⟨l1, j1, g1⟩ := arg_reports (hval 1 _ _ rfl rfl) h1
    obtain ⟨z2, rfl, g2⟩ := arg_int (hval 2 _ _ rfl rfl) h2
    exact MeshOrder_ret g0 g1 W j0 j1 (table hL)
theorem meshOrder_said : Rows.MeshOrderSaid :=
  OpenClaim.holds_of_cond 5 Tryz.f5 rfl rfl rfl rfl rfl rfl rfl ⟨rfl, rfl, rfl, rfl, rfl⟩ rfl rfl rfl rfl rfl (by kernel_rfl) Tryz.func5 (by kernel_rfl)
    (of_decide_eq_true (by kernel_rfl)) (by unfold Func.isWrapper; first | (rw [if_pos (by decide +kernel)]; kernel_rfl) | (rw [if_neg (by decide +kernel)]; exact ⟨rfl, rfl⟩))
    (fun os started H enc _ F => by rw [OpenClaim.pre_eq_preRow]; exact meshOrder_lifted os started H enc F)
theorem meshOrder_plain (f : FuncId) (fn : Func) (hf : Tryz.pinned.checked.prog.funcNamed Rows.meshOrderRow.func = some f) (hfn : Tryz.pinned.checked.prog.funcs[f]? = some fn) :
    false = Tryz.pinned.checked.prog.looks [] ∧ ∀ (j : Nat) t, fn.params[j]? = some t → Tryz.pinned.checked.prog.wantsStandIn t = false := by
  obtain rfl : f = 5 := Option.some.inj ((show Tryz.prog.funcNamed Rows.meshOrderRow.func = some 5 by kernel_rfl).symm.trans hf) |>.symm
  obtain rfl : fn = Tryz.f5 := (Option.some.inj (Tryz.func5.symm.trans hfn)).symm
  refine ⟨by kernel_rfl, fun j t ht => ?_⟩
  have hm : t ∈ Tryz.f5.params.toList := Array.mem_toList_iff.2 (Array.mem_of_getElem? ht)
  rw [meshOrder_params] at hm
  revert t
  intro t _ hm
  have h : ∀ t ∈ ([24, 22, 3] : List TypeId), Tryz.prog.wantsStandIn t = false := of_decide_eq_true (by kernel_rfl)
  exact h t hm
theorem meshOrder_holds : Rows.MeshOrderCardSaid :=
  Claim7.holds_tied_plain_at .later [] _ _ _ _ meshOrder_said (fun _ h => by cases h) (by kernel_rfl) (fun _ h => by cases h) meshOrder_row_tie rfl ⟨rfl, rfl⟩ (by kernel_rfl) rfl meshOrder_plain (by kernel_rfl)
#print axioms meshOrder_holds
end Go.Proofs.YtohmledhhgdgaaaGreatDoor
