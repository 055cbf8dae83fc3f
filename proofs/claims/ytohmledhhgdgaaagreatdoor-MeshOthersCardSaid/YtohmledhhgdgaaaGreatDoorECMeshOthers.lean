/- What is known of a vehicle hangs on its own reports alone. No condition: every argument that reads as data. -/
import Derived.Test.YtohmledhhgdgaaaGreatDoorEMshO
import Derived.Test.YtohmledhhgdgaaaGreatDoorEArgM
import Derived.Test.YtohmledhhgdgaaaGreatDoorELaid26
set_option linter.unusedVariables false
set_option linter.unusedSimpArgs false
namespace Go.Proofs.YtohmledhhgdgaaaGreatDoor
open Sh Go.RowKit Go.WideShapes Go.ChangeShapes Go.ChangeAt
set_option maxRecDepth 100000
theorem meshOthers_params : Tryz.f8.params.toList = [24, 3] := by kernel_rfl
theorem meshOthers_laid_met (os : Os) : laidMet Tryz.prog Rows.meshOthersRow.laid ((laidWorld os).forCall (fun _ _ => 0) ⟨#[], #[.agg #[.int .i64 0, .slice none 0 0], .int .i64 0], []⟩).memory :=
  laidMet_of_run' 8 (by kernel_rfl) (by kernel_rfl)
theorem meshOthers_reads (os : Os) {H : Type} (enc : TypeId × Value → H) : ∃ places, DataW.whole enc Tryz.prog ((laidWorld os).forCall (fun _ _ => 0) ⟨#[], #[.agg #[.int .i64 0, .slice none 0 0], .int .i64 0], []⟩).memory Tryz.f8.params.toList Rows.meshOthersSpec.vars false (#[.agg #[.int .i64 0, .slice none 0 0], .int .i64 0] : Array Value).toList 8 = some ([.agg [.lit (.int .i64 0), .nil], .lit (.int .i64 0)], [], places) :=
  ⟨[], by kernel_rfl⟩
theorem meshOthers_lifted (os : Os) (started : os.Started) (H : Type) (enc : TypeId × Value → H) (F : Stop.Interp) :
    ReturnsInHanded {} Tryz.checked os 8 .any ((OpenSpec.ofChange Rows.meshOthersSpec).preRow enc Tryz.prog Tryz.f8 Rows.meshOthersRow.domain false Rows.meshOthersRow.laid) (((OpenSpec.ofChange Rows.meshOthersSpec).at F).post enc Tryz.prog Tryz.f8 false true false false) := by
  obtain ⟨places, hx⟩ := meshOthers_reads os enc
  refine law_returns_row (C := Tryz.checked) (bt := 4) own started (by kernel_rfl) Tryz.func8
    (witness_row_at (enc := enc) (C := Tryz.checked) false (laidWorld os) #[.agg #[.int .i64 0, .slice none 0 0], .int .i64 0] rfl (by kernel_rfl) (by kernel_rfl) (by kernel_rfl)
      (OpenSpec.preRow_of_cond 8 hx (by kernel_rfl) (fun k hk => by cases hk) (by kernel_rfl) (meshOthers_laid_met os))) rfl laid (by rw [meshOthers_params]; intro t ht; revert t; exact of_decide_eq_true (by kernel_rfl)) rfl Ty.bool ?_ ?_
  · intro ds hd
    have hd : ds.length = 2 := hd
    match ds, hd with
    | [_, _], _ => rfl
  · intro W base args ds ps hval hA hL
    rw [meshOthers_params] at hval hA
    obtain ⟨v0, vs0, d0, ds0, p0, q0, rfl, rfl, rfl, h0, r0⟩ := trodAll_cons hA
    obtain ⟨v1, vs1, d1, ds1, p1, q1, rfl, rfl, rfl, h1, r1⟩ := trodAll_cons r0
    obtain ⟨rfl, rfl, rfl⟩ := trodAll_nil r1
    obtain ⟨s0, b0, rfl, j0, g0⟩ := arg_box (hval 0 _ _ rfl rfl) h0
    obtain ⟨z1, rfl, g1⟩ := arg_int (hval 1 _ _ rfl rfl) h1
    exact MeshOthers_ret g0 g1 W j0 (table hL)
theorem meshOthers_said : Rows.MeshOthersSaid :=
  OpenClaim.holds_of_cond 8 Tryz.f8 rfl rfl rfl rfl rfl rfl rfl ⟨rfl, rfl, rfl, rfl, rfl⟩ rfl rfl rfl rfl rfl (by kernel_rfl) Tryz.func8 (by kernel_rfl)
    (of_decide_eq_true (by kernel_rfl)) (by unfold Func.isWrapper; first | (rw [if_pos (by decide +kernel)]; kernel_rfl) | (rw [if_neg (by decide +kernel)]; exact ⟨rfl, rfl⟩))
    (fun os started H enc _ F => by rw [OpenClaim.pre_eq_preRow]; exact meshOthers_lifted os started H enc F)
theorem meshOthers_plain (f : FuncId) (fn : Func) (hf : Tryz.pinned.checked.prog.funcNamed Rows.meshOthersRow.func = some f) (hfn : Tryz.pinned.checked.prog.funcs[f]? = some fn) :
    false = Tryz.pinned.checked.prog.looks [] ∧ ∀ (j : Nat) t, fn.params[j]? = some t → Tryz.pinned.checked.prog.wantsStandIn t = false := by
  obtain rfl : f = 8 := Option.some.inj ((show Tryz.prog.funcNamed Rows.meshOthersRow.func = some 8 by kernel_rfl).symm.trans hf) |>.symm
  obtain rfl : fn = Tryz.f8 := (Option.some.inj (Tryz.func8.symm.trans hfn)).symm
  refine ⟨by kernel_rfl, fun j t ht => ?_⟩
  have hm : t ∈ Tryz.f8.params.toList := Array.mem_toList_iff.2 (Array.mem_of_getElem? ht)
  rw [meshOthers_params] at hm
  revert t
  intro t _ hm
  have h : ∀ t ∈ ([24, 3] : List TypeId), Tryz.prog.wantsStandIn t = false := of_decide_eq_true (by kernel_rfl)
  exact h t hm
theorem meshOthers_holds : Rows.MeshOthersCardSaid :=
  Claim7.holds_tied_plain_at .later [] _ _ _ _ meshOthers_said (fun _ h => by cases h) (by kernel_rfl) (fun _ h => by cases h) meshOthers_row_tie rfl ⟨rfl, rfl⟩ (by kernel_rfl) rfl meshOthers_plain (by kernel_rfl)
#print axioms meshOthers_holds
end Go.Proofs.YtohmledhhgdgaaaGreatDoor
