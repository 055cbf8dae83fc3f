/- chart.Valid's parts: cells. -/
import Derived.Test.YtdfpdfahcbflpabDoorHChaT
set_option linter.unusedVariables false
set_option linter.unusedSimpArgs false
namespace Go.Proofs.YtdfpdfahcbflpabDoor
set_option maxRecDepth 100000
set_option maxHeartbeats 16000000
open Sh Go.RowKit
theorem indexCells_ret {v fv : Value} {l : List SCell} {p : SCell → Bool} (w : World) (hv : SCell.Row w v l)
    (hp : ∀ q ∈ l, ∀ W K X, (∀ W', Ext W W' → K (.bool (p q)) W') → CallV Tryd.prog fv #[.agg q.cells.toArray] W K X) :
    Ret Tryd.prog 53 #[v, fv] w fun r w' => (∃ n : Int, r = .int .i64 n ∧ decide (0 ≤ n) = l.any p) ∧ Ext w w' := by
  refine ret_of (fun _ _ => sh_slices_IndexFunc___api_Cell_api_Cell__ok _ _) fun R hR => ?_
  unfold sh_slices_IndexFunc___api_Cell_api_Cell_
  have hle := hv.le
  rw [SCell.row_len hv]
  refine loop1 (fun x W => ∃ k : Nat, k ≤ l.length ∧ x = .int .i64 k ∧ Ext w W ∧ ∀ q ∈ l.take k, p q = false) (fun x _ => l.length - (intOf x).toNat) ⟨0, by omega, rfl, Ext.refl _, by simp⟩ ?_
  rintro h _ W hx ⟨k, hk, rfl, xW, hpl⟩ K hK
  rw [hx, bin_lss]
  refine Br_i (fun hb => ?_) fun hb => ?_
  · have hlt : k < l.length := by have := dec_t hb; omega
    obtain ⟨pb, po, hh, _, hix⟩ := SCell.row_at hv hlt
    rw [hix, SCell.g_all (hh W xW)]
    refine hp _ (List.getElem_mem hlt) W _ _ fun W2 x2 => ?_
    refine Br_i (fun hb2 => ?_) fun hb2 => ?_
    · refine hR _ _ ⟨⟨(k : Int), rfl, ?_⟩, xW.trans x2⟩
      rw [decide_eq_true (by omega), eq_comm, List.any_eq_true]
      exact ⟨_, List.getElem_mem hlt, hb2⟩
    · rw [bin_add, i64_wrap (by omega) (by omega)]
      refine hK _ _ ⟨k + 1, by omega, by simp, xW.trans x2, fun q hq => ?_⟩ (by simp [intOf]; omega)
      rw [List.take_succ_eq_append_getElem hlt, List.mem_append, List.mem_singleton] at hq
      rcases hq with hq | rfl
      · exact hpl q hq
      · exact hb2
  · have hge : l.length ≤ k := by have := dec_f hb; omega
    rw [List.take_of_length_le hge] at hpl
    refine hR _ _ ⟨⟨-1, rfl, ?_⟩, xW⟩
    rw [decide_eq_false (by omega), eq_comm, List.any_eq_false]
    intro q hq
    rw [hpl q hq]; simp
theorem badCells_ret {v : Value} {l : List SCell} (w : World) (hv : SCell.Row w v l) :
    Ret Tryd.prog 40 #[v, .func (.func 41) #[] #[]] w fun r w' => r = .bool (!l.all Cha.cellOk) ∧ Ext w w' := by
  refine ret_of (fun _ _ => sh_slices_ContainsFunc___api_Cell_api_Cell__ok _ _) fun R hR => ?_
  unfold sh_slices_ContainsFunc___api_Cell_api_Cell_
  have e : l.any (fun q => !Cha.cellOk q) = !l.all Cha.cellOk := by rw [Bool.eq_iff_iff]; simp
  refine callF_ret (indexCells_ret (p := fun q => !Cha.cellOk q) w hv fun q hq W K X hk => ?_) ?_
  · rw [callV_func (by kernel_rfl)]
    refine callF_ret (valid1_ret15 q W) ?_
    rintro _ W' ⟨rfl, x⟩
    exact hk W' x
  · rintro _ W ⟨⟨n, rfl, hn⟩, x⟩
    rw [bin_geq, hn, e]
    exact hR _ _ ⟨rfl, x⟩
end Go.Proofs.YtdfpdfahcbflpabDoor
