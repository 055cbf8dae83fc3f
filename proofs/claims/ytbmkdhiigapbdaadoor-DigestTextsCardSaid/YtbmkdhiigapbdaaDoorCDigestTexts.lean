/- Next is Text of the bytes of its digest and the texts of its integers, and Sum begins with the digest of no bytes. No condition: every argument that reads as data. -/
import Derived.Test.YtbmkdhiigapbdaaDoorLaw5
import Derived.Test.YtbmkdhiigapbdaaDoorArgB
import Derived.Test.YtbmkdhiigapbdaaDoorLaid05
namespace Go.Proofs.YtbmkdhiigapbdaaDoor
open Sh Go.RowKit Go.WideShapes Go.ChangeShapes Go.ChangeAt
set_option maxRecDepth 100000
theorem digestTexts_params : Tryd.f6.params.toList = [22, 23] := by kernel_rfl
theorem digestTexts_laid_met (os : Os) : laidMet Tryd.prog Rows.digestTextsRow.laid ((laidWorld os).forCall (fun _ _ => 0) ⟨#[], #[.int .u64 0, .slice none 0 0], []⟩).memory :=
  laidMet_of_run' 8 (by kernel_rfl) (by kernel_rfl)
theorem digestTexts_reads (os : Os) {H : Type} (enc : TypeId × Value → H) : ∃ places, DataW.whole enc Tryd.prog ((laidWorld os).forCall (fun _ _ => 0) ⟨#[], #[.int .u64 0, .slice none 0 0], []⟩).memory Tryd.f6.params.toList Rows.digestTextsSpec.vars false (#[.int .u64 0, .slice none 0 0] : Array Value).toList 8 = some ([.lit (.int .u64 0), .nil], [], places) :=
  ⟨[], by kernel_rfl⟩
theorem digestTexts_lifted (os : Os) (started : os.Started) (H : Type) (enc : TypeId × Value → H) (F : Stop.Interp) :
    ReturnsInHanded {} Tryd.checked os 6 .any ((OpenSpec.ofChange Rows.digestTextsSpec).preRow enc Tryd.prog Tryd.f6 Rows.digestTextsRow.domain false Rows.digestTextsRow.laid) (((OpenSpec.ofChange Rows.digestTextsSpec).at F).post enc Tryd.prog Tryd.f6 false true false false) := by
  obtain ⟨places, hx⟩ := digestTexts_reads os enc
  refine law_returns_row (C := Tryd.checked) (bt := 4) own started (by kernel_rfl) Tryd.func6
    (witness_row_at (enc := enc) (C := Tryd.checked) false (laidWorld os) #[.int .u64 0, .slice none 0 0] rfl (by kernel_rfl) (by kernel_rfl) (by kernel_rfl)
      (OpenSpec.preRow_of_cond 8 hx (by kernel_rfl) (fun k hk => by cases hk) (by kernel_rfl) (digestTexts_laid_met os))) rfl laid (by rw [digestTexts_params]; intro t ht; revert t; exact of_decide_eq_true (by kernel_rfl)) rfl Ty.bool ?_ ?_
  · intro ds hd
    have hd : ds.length = 2 := hd
    match ds, hd with
    | [_, _], _ => rfl
  · intro W base args ds ps hval hA hL
    rw [digestTexts_params] at hval hA
    obtain ⟨v0, vs0, d0, ds0, p0, q0, rfl, rfl, rfl, h0, r0⟩ := trodAll_cons hA
    obtain ⟨v1, vs1, d1, ds1, p1, q1, rfl, rfl, rfl, h1, r1⟩ := trodAll_cons r0
    obtain ⟨rfl, rfl, rfl⟩ := trodAll_nil r1
    obtain ⟨z0, rfl⟩ := arg_u64 (hval 0 _ _ rfl rfl) h0
    obtain ⟨l1, s1, g1⟩ := arg_ints (hval 1 _ _ rfl rfl) h1
    exact DigestTexts_ret g1 W s1 (table hL)
theorem digestTexts_said : Rows.DigestTextsSaid :=
  OpenClaim.holds_of_cond 6 Tryd.f6 rfl rfl rfl rfl rfl rfl rfl ⟨rfl, rfl, rfl, rfl, rfl⟩ rfl rfl rfl rfl rfl (by kernel_rfl) Tryd.func6 (by kernel_rfl)
    (of_decide_eq_true (by kernel_rfl)) (by unfold Func.isWrapper; first | (rw [if_pos (by decide +kernel)]; kernel_rfl) | (rw [if_neg (by decide +kernel)]; exact ⟨rfl, rfl⟩))
    (fun os started H enc _ F => by rw [OpenClaim.pre_eq_preRow]; exact digestTexts_lifted os started H enc F)
theorem digestTexts_plain (f : FuncId) (fn : Func) (hf : Tryd.pinned.checked.prog.funcNamed Rows.digestTextsRow.func = some f) (hfn : Tryd.pinned.checked.prog.funcs[f]? = some fn) :
    false = Tryd.pinned.checked.prog.looks [] ∧ ∀ (j : Nat) t, fn.params[j]? = some t → Tryd.pinned.checked.prog.wantsStandIn t = false := by
  obtain rfl : f = 6 := Option.some.inj ((show Tryd.prog.funcNamed Rows.digestTextsRow.func = some 6 by kernel_rfl).symm.trans hf) |>.symm
  obtain rfl : fn = Tryd.f6 := (Option.some.inj (Tryd.func6.symm.trans hfn)).symm
  refine ⟨by kernel_rfl, fun j t ht => ?_⟩
  have hm : t ∈ Tryd.f6.params.toList := Array.mem_toList_iff.2 (Array.mem_of_getElem? ht)
  rw [digestTexts_params] at hm
  revert t
  intro t _ hm
  have h : ∀ t ∈ ([22, 23] : List TypeId), Tryd.prog.wantsStandIn t = false := of_decide_eq_true (by kernel_rfl)
  exact h t hm
theorem digestTexts_holds : Rows.DigestTextsCardSaid :=
  Claim7.holds_tied_plain_at .later [] _ _ _ _ digestTexts_said (fun _ h => by cases h) (by kernel_rfl) (fun _ h => by cases h) digestTexts_row_tie rfl ⟨rfl, rfl⟩ (by kernel_rfl) rfl digestTexts_plain (by kernel_rfl)
#print axioms digestTexts_holds
end Go.Proofs.YtbmkdhiigapbdaaDoor
