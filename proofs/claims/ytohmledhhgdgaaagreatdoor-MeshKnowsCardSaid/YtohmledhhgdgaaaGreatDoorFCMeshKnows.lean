/- What is known is the beginning of the log, up to the first entry that no report has. No condition: every argument that reads as data. -/
import Derived.Test.YtohmledhhgdgaaaGreatDoorFMshB
import Derived.Test.YtohmledhhgdgaaaGreatDoorFArgC
import Derived.Test.YtohmledhhgdgaaaGreatDoorFLaid26
set_option linter.unusedVariables false
set_option linter.unusedSimpArgs false
namespace Go.Proofs.YtohmledhhgdgaaaGreatDoor
open Sh Go.RowKit Go.WideShapes Go.ChangeShapes Go.ChangeAt
set_option maxRecDepth 100000
theorem meshKnows_params : Tryz.f7.params.toList = [52, 5, 53] := by kernel_rfl
theorem meshKnows_laid_met (os : Os) : laidMet Tryz.prog Rows.meshKnowsRow.laid ((laidWorld os).forCall (fun _ _ => 0) ⟨#[], #[.agg #[.int .i64 0, .slice none 0 0, .slice none 0 0], .int .u8 0, .slice none 0 0], []⟩).memory :=
  laidMet_of_run' 8 (by kernel_rfl) (by kernel_rfl)
theorem meshKnows_reads (os : Os) {H : Type} (enc : TypeId × Value → H) : ∃ places, DataW.whole enc Tryz.prog ((laidWorld os).forCall (fun _ _ => 0) ⟨#[], #[.agg #[.int .i64 0, .slice none 0 0, .slice none 0 0], .int .u8 0, .slice none 0 0], []⟩).memory Tryz.f7.params.toList Rows.meshKnowsSpec.vars false (#[.agg #[.int .i64 0, .slice none 0 0, .slice none 0 0], .int .u8 0, .slice none 0 0] : Array Value).toList 8 = some ([.agg [.lit (.int .i64 0), .nil, .nil], .lit (.int .u8 0), .nil], [], places) :=
  ⟨[], by kernel_rfl⟩
theorem meshKnows_lifted (os : Os) (started : os.Started) (H : Type) (enc : TypeId × Value → H) (F : Stop.Interp) :
    ReturnsInHanded {} Tryz.checked os 7 .any ((OpenSpec.ofChange Rows.meshKnowsSpec).preRow enc Tryz.prog Tryz.f7 Rows.meshKnowsRow.domain false Rows.meshKnowsRow.laid) (((OpenSpec.ofChange Rows.meshKnowsSpec).at F).post enc Tryz.prog Tryz.f7 false true false false) := by
  obtain ⟨places, hx⟩ := meshKnows_reads os enc
  refine law_returns_row (C := Tryz.checked) (bt := 4) own started (by kernel_rfl) Tryz.func7
    (witness_row_at (enc := enc) (C := Tryz.checked) false (laidWorld os) #[.agg #[.int .i64 0, .slice none 0 0, .slice none 0 0], .int .u8 0, .slice none 0 0] rfl (by kernel_rfl) (by kernel_rfl) (by kernel_rfl)
      (OpenSpec.preRow_of_cond 8 hx (by kernel_rfl) (fun k hk => by cases hk) (by kernel_rfl) (meshKnows_laid_met os))) rfl laid (by rw [meshKnows_params]; intro t ht; revert t; exact of_decide_eq_true (by kernel_rfl)) rfl Ty.bool ?_ ?_
  · intro ds hd
    have hd : ds.length = 3 := hd
    match ds, hd with
    | [_, _, _], _ => rfl
  · intro W base args ds ps hval hA hL
    rw [meshKnows_params] at hval hA
    obtain ⟨v0, vs0, d0, ds0, p0, q0, rfl, rfl, rfl, h0, r0⟩ := trodAll_cons hA
    obtain ⟨v1, vs1, d1, ds1, p1, q1, rfl, rfl, rfl, h1, r1⟩ := trodAll_cons r0
    obtain ⟨v2, vs2, d2, ds2, p2, q2, rfl, rfl, rfl, h2, r2⟩ := trodAll_cons r1
    obtain ⟨rfl, rfl, rfl⟩ := trodAll_nil r2
    obtain ⟨s0, L0, rfl, j0, g0⟩ := arg_log (hval 0 _ _ rfl rfl) h0
    obtain ⟨z1, rfl, g1⟩ := arg_u8 (hval 1 _ _ rfl rfl) h1
    obtain ⟨l2, j2, g2⟩ := arg_cuts (hval 2 _ _ rfl rfl) h2
    exact MeshKnows_ret g0 g1 g2 W j0 j2 (table hL)
theorem meshKnows_said : Rows.MeshKnowsSaid :=
  OpenClaim.holds_of_cond 7 Tryz.f7 rfl rfl rfl rfl rfl rfl rfl ⟨rfl, rfl, rfl, rfl, rfl⟩ rfl rfl rfl rfl rfl (by kernel_rfl) Tryz.func7 (by kernel_rfl)
    (of_decide_eq_true (by kernel_rfl)) (by unfold Func.isWrapper; first | (rw [if_pos (by decide +kernel)]; kernel_rfl) | (rw [if_neg (by decide +kernel)]; exact ⟨rfl, rfl⟩))
    (fun os started H enc _ F => by rw [OpenClaim.pre_eq_preRow]; exact meshKnows_lifted os started H enc F)
theorem meshKnows_plain (f : FuncId) (fn : Func) (hf : Tryz.pinned.checked.prog.funcNamed Rows.meshKnowsRow.func = some f) (hfn : Tryz.pinned.checked.prog.funcs[f]? = some fn) :
    false = Tryz.pinned.checked.prog.looks [] ∧ ∀ (j : Nat) t, fn.params[j]? = some t → Tryz.pinned.checked.prog.wantsStandIn t = false := by
  obtain rfl : f = 7 := Option.some.inj ((show Tryz.prog.funcNamed Rows.meshKnowsRow.func = some 7 by kernel_rfl).symm.trans hf) |>.symm
  obtain rfl : fn = Tryz.f7 := (Option.some.inj (Tryz.func7.symm.trans hfn)).symm
  refine ⟨by kernel_rfl, fun j t ht => ?_⟩
  have hm : t ∈ Tryz.f7.params.toList := Array.mem_toList_iff.2 (Array.mem_of_getElem? ht)
  rw [meshKnows_params] at hm
  revert t
  intro t _ hm
  have h : ∀ t ∈ ([52, 5, 53] : List TypeId), Tryz.prog.wantsStandIn t = false := of_decide_eq_true (by kernel_rfl)
  exact h t hm
theorem meshKnows_holds : Rows.MeshKnowsCardSaid :=
  Claim7.holds_tied_plain_at .later [] _ _ _ _ meshKnows_said (fun _ h => by cases h) (by kernel_rfl) (fun _ h => by cases h) meshKnows_row_tie rfl ⟨rfl, rfl⟩ (by kernel_rfl) rfl meshKnows_plain (by kernel_rfl)
#print axioms meshKnows_holds
end Go.Proofs.YtohmledhhgdgaaaGreatDoor
