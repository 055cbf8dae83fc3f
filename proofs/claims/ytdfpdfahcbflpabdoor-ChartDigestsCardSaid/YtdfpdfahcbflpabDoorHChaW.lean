/- The walks of chart: places (the hull of one point), IDs, cells. -/
import Derived.Test.YtdfpdfahcbflpabDoorHStrC
import Derived.Test.YtdfpdfahcbflpabDoorHRegW
set_option linter.unusedVariables false
set_option linter.unusedSimpArgs false
namespace Go.Proofs.YtdfpdfahcbflpabDoor
set_option maxRecDepth 100000
set_option maxHeartbeats 16000000
open Sh Go.RowKit
namespace Ty
end Ty
theorem indexPts_ret {v fv : Value} {l : List SPoint} {p : SPoint → Bool} (w : World) (hv : SPoint.Row w v l)
    (hp : ∀ q ∈ l, ∀ W K X, (∀ W', Ext W W' → K (.bool (p q)) W') → CallV Tryd.prog fv #[.agg q.cells.toArray] W K X) :
    Ret Tryd.prog 62 #[v, fv] w fun r w' => (∃ n : Int, r = .int .i64 n ∧ decide (0 ≤ n) = l.any p) ∧ Ext w w' := by
  refine ret_of (fun _ _ => sh_slices_IndexFunc___api_Point_api_Point__ok _ _) fun R hR => ?_
  unfold sh_slices_IndexFunc___api_Point_api_Point_
  have hle := hv.le
  rw [SPoint.row_len hv]
  refine loop1 (fun x W => ∃ k : Nat, k ≤ l.length ∧ x = .int .i64 k ∧ Ext w W ∧ ∀ q ∈ l.take k, p q = false) (fun x _ => l.length - (intOf x).toNat) ⟨0, by omega, rfl, Ext.refl _, by simp⟩ ?_
  rintro h _ W hx ⟨k, hk, rfl, xW, hpl⟩ K hK
  rw [hx, bin_lss]
  refine Br_i (fun hb => ?_) fun hb => ?_
  · have hlt : k < l.length := by have := dec_t hb; omega
    obtain ⟨pb, po, hh, _, hix⟩ := SPoint.row_at hv hlt
    rw [hix, SPoint.g_all (hh W xW)]
    refine hp _ (List.getElem_mem hlt) W _ _ fun W2 x2 => ?_
    refine Br_i (fun hb2 => ?_) fun hb2 => ?_
    · refine hR _ _ ⟨⟨(k : Int), rfl, ?_⟩, xW.trans x2⟩
      rw [decide_eq_true (by omega), eq_comm, List.any_eq_true]
      exact ⟨_, List.getElem_mem hlt, hb2⟩
    · rw [bin_add, i64_wrap (by omega) (by omega)]
      refine hK _ _ ⟨k + 1, by omega, by simp, xW.trans x2, fun q hq => ?_⟩ (by simp [intOf]; omega)
      rw [List.take_succ_eq_append_getElem hlt, List.mem_append, List.mem_singleton] at hq
      rcases hq with hq | rfl
      · exact hpl q hq
      · exact hb2
  · have hge : l.length ≤ k := by have := dec_f hb; omega
    rw [List.take_of_length_le hge] at hpl
    refine hR _ _ ⟨⟨-1, rfl, ?_⟩, xW⟩
    rw [decide_eq_false (by omega), eq_comm, List.any_eq_false]
    intro q hq
    rw [hpl q hq]; simp
theorem containsPts_ret {v fv : Value} {l : List SPoint} {p : SPoint → Bool} (w : World) (hv : SPoint.Row w v l)
    (hp : ∀ q ∈ l, ∀ W K X, (∀ W', Ext W W' → K (.bool (p q)) W') → CallV Tryd.prog fv #[.agg q.cells.toArray] W K X) :
    Ret Tryd.prog 54 #[v, fv] w fun r w' => r = .bool (l.any p) ∧ Ext w w' := by
  refine ret_of (fun _ _ => sh_slices_ContainsFunc___api_Point_api_Point__ok _ _) fun R hR => ?_
  unfold sh_slices_ContainsFunc___api_Point_api_Point_
  refine callF_ret (indexPts_ret w hv hp) ?_
  rintro _ W ⟨⟨n, rfl, hn⟩, x⟩
  rw [bin_geq, hn]
  exact hR _ _ ⟨rfl, x⟩
theorem hull1_ret {p : SPoint} (hp : p.Ok) (w : World) : Ret Tryd.prog 59 #[.agg p.cells.toArray] w fun r w' => r = .bool (!Hul.place p) ∧ Ext w w' := by
  refine ret_of (fun _ _ => sh_hull_Hull_1_ok _) fun R hR => ?_
  unfold sh_hull_Hull_1
  refine box_i fun b w1 x1 hat _ _ => ?_
  rw [SPoint.g_all (has_of_at hat)]
  refine callF_ret (isPlace_ret hp w1) ?_
  rintro _ W ⟨rfl, x⟩
  rw [un_not]
  exact hR _ _ ⟨rfl, x1.trans x⟩
theorem clonePts_ret {v : Value} {l : List SPoint} (w : World) (h : SPoint.Row w v l) (hl : l.length < 100000000) : Ret Tryd.prog 28 #[v] w fun r w' => SPoint.Owns w.heap.size w' r l ∧ Ext w w' := by
  refine ret_of (fun _ _ => sh_slices_Clone___api_Point_api_Point__ok _) fun R hR => ?_
  unfold sh_slices_Clone___api_Point_api_Point_
  obtain ⟨a, c, rfl, hr⟩ := id h
  rw [DoV_ok (show (binS .eql 37 (.tmp 3) (.const (.slice none 0 0)) (.slice a l.length c) (.slice none 0 0)).run Tryd.prog w = .ok (.bool a.isNone) w by cases a <;> kernel_rfl)]
  refine Br_i (fun hb => ?_) fun hb => ?_
  · cases a with
    | some _ => cases hb
    | none =>
      rcases hr.2.2.2 with h0 | ⟨_, _, h0, _⟩
      · have hl0 : l = [] := by
          cases l with
          | nil => rfl
          | cons x l => rw [fl_cons] at h0; have := SPoint.len x; rw [(List.append_eq_nil_iff.1 h0).1] at this; cases this
        subst hl0
        exact hR _ _ ⟨SPoint.owns_nil _ _, Ext.refl _⟩
      · cases h0
  · refine SPoint.row_lit0 fun v1 w1 x1 ho1 hs1 => ?_
    refine SPoint.row_apps ho1 (Sl.ext h x1) (by simp; omega) (by omega) fun v2 w2 ho2 m2 => ?_
    have x2 : Ext w w2 := ((Mod.of_ext x1 : Mod (w.heap.size ≤ ·) w w1).trans (m2.mono fun k _ hk => (Own.block ho1 hk).1)).new
    exact hR _ _ ⟨ho2, x2⟩
theorem Ty.uint15 : Tryd.prog.underlying 115 = some (.int .u64) := by kernel_rfl
theorem len64_ret (w : World) : Ret Tryd.prog 91 #[.int .u64 1] w fun r w' => (∃ n : Int, r = .int .i64 n) ∧ Ext w w' := by
  refine ret_of (fun _ _ => sh_math_bits_Len64_ok _) fun R hR => ?_
  unfold sh_math_bits_Len64
  refine join2 (fun x y W => x = .int .u64 1 ∧ y = .int .i64 0 ∧ W = w) ?_ fun K hK => ?_
  · rintro h _ _ W h0 h2 ⟨rfl, rfl, rfl⟩
    rw [h0, h2]
    refine join2 (fun x y V => x = .int .u64 1 ∧ y = .int .i64 0 ∧ V = W) ?_ fun K hK => ?_
    · rintro h _ _ V h0 h2 ⟨rfl, rfl, rfl⟩
      rw [h0, h2]
      refine join2 (fun x y U => x = .int .u64 1 ∧ y = .int .i64 0 ∧ U = V) ?_ fun K hK => ?_
      · rintro h _ _ U h0 h2 ⟨rfl, rfl, rfl⟩
        rw [h0, h2, conv_int Ty.u64 Ty.u8]
        rw [DoV_ok (v := .int .u8 1) (w' := U) (by kernel_rfl), conv_int Ty.u8 Ty.int, bin_add]
        exact hR _ _ ⟨⟨_, rfl⟩, Ext.refl _⟩
      · rw [bin_geq]
        exact Br_i (fun hb => absurd (dec_t hb) (by decide)) fun _ => hK _ _ _ ⟨rfl, rfl, rfl⟩
    · rw [bin_geq]
      exact Br_i (fun hb => absurd (dec_t hb) (by decide)) fun _ => hK _ _ _ ⟨rfl, rfl, rfl⟩
  · rw [bin_geq]
    exact Br_i (fun hb => absurd (dec_t hb) (by decide)) fun _ => hK _ _ _ ⟨rfl, rfl, rfl⟩
theorem sort1_ret {v fv : Value} {p : SPoint} (w : World) (hv : SPoint.Row w v [p]) : Ret Tryd.prog 66 #[v, fv] w fun r w' => Ext w w' := by
  refine ret_of (fun _ _ => sh_slices_SortFunc___api_Point_api_Point__ok _ _) fun R hR => ?_
  unfold sh_slices_SortFunc___api_Point_api_Point_
  rw [SPoint.row_len hv, conv_int Ty.int Ty.uint15]
  have hl : Ret Tryd.prog 73 #[.int .u64 1] w fun r w' => (∃ n : Int, r = .int .i64 n) ∧ Ext w w' := by
    refine ret_of (fun _ _ => sh_math_bits_Len_ok _) fun R hR => ?_
    unfold sh_math_bits_Len
    exact callF_ret (len64_ret w) fun r W h => hR _ _ h
  refine callF_ret hl ?_
  rintro _ w2 ⟨⟨n, rfl⟩, x2⟩
  have hs : Ret Tryd.prog 72 #[v, .int .i64 0, .int .i64 1, .int .i64 n, fv] w2 fun r w' => Ext w2 w' := by
    refine ret_of (fun _ _ => sh_slices_pdqsortCmpFunc_api_Point__ok _ _ _ _ _) fun R hR => ?_
    unfold sh_slices_pdqsortCmpFunc_api_Point_
    refine ⟨fun l W => l = [.int .i64 0, .int .i64 1, .int .i64 n, .bool true, .bool true, undef, undef] ∧ W = w2, fun _ _ => 0, ⟨rfl, rfl⟩, ?_⟩
    rintro h W ⟨hl, rfl⟩
    simp only [List.map_cons, List.cons.injEq] at hl
    rw [hl.2.1, hl.1, bin_sub, i64_wrap (by omega) (by omega), bin_leq]
    refine Br_i (fun _ => ?_) fun hb => absurd (show (1 : Int) - 0 ≤ 12 by decide) (dec_f hb)
    have hi : Ret Tryd.prog 82 #[v, .int .i64 0, .int .i64 1, fv] W fun r w' => Ext W w' := by
      refine ret_of (fun _ _ => sh_slices_insertionSortCmpFunc_api_Point__ok _ _ _ _) fun R hR => ?_
      unfold sh_slices_insertionSortCmpFunc_api_Point_
      rw [bin_add, i64_wrap (by omega) (by omega)]
      refine loop2 (fun x _ U => x = .int .i64 1 ∧ U = W) (fun _ _ _ => 0) ⟨rfl, rfl⟩ ?_
      rintro h _ _ U hx _ ⟨rfl, rfl⟩ K hK
      rw [hx, bin_lss]
      exact Br_i (fun hb => absurd (dec_t hb) (by decide)) fun _ => hR _ _ (Ext.refl _)
    refine callF_ret hi ?_
    intro _ w3 x3
    exact hR _ _ x3
  refine callF_ret hs ?_
  intro _ w3 x3
  exact hR _ _ (x2.trans x3)
theorem around1_ret {v : Value} {p : SPoint} (w : World) (hv : SPoint.Row w v [p]) : Ret Tryd.prog 61 #[v] w fun r w' => SPoint.Row w' r [p] ∧ Ext w w' := by
  refine ret_of (fun _ _ => sh_hull_around_ok _) fun R hR => ?_
  unfold sh_hull_around
  refine callF_ret (clonePts_ret w hv (by simp)) ?_
  rintro v1 w1 ⟨h1, x1⟩
  refine callF_ret (sort1_ret w1 (Sl.of_owns h1)) ?_
  intro _ w2 x2
  have h2 : SPoint.Row w2 v1 [p] := Sl.ext (Sl.of_owns h1) x2
  have hc : Ret Tryd.prog 56 #[v1] w2 fun r w' => r = v1 ∧ Ext w2 w' := by
    refine ret_of (fun _ _ => sh_slices_Compact___api_Point_api_Point__ok _) fun R hR => ?_
    unfold sh_slices_Compact___api_Point_api_Point_
    rw [SPoint.row_len h2, bin_lss]
    exact Br_i (fun _ => hR _ _ ⟨rfl, Ext.refl _⟩) fun hb => absurd (show (([p] : List SPoint).length : Int) < 2 by simp) (dec_f hb)
  refine callF_ret hc ?_
  rintro _ w3 ⟨rfl, x3⟩
  rw [SPoint.row_len (Sl.ext h2 x3), bin_lss]
  exact Br_i (fun _ => hR _ _ ⟨Sl.ext h2 x3, (x1.trans x2).trans x3⟩) fun hb => absurd (show (([p] : List SPoint).length : Int) < 3 by simp) (dec_f hb)
theorem hullOne_ret {v : Value} {p : SPoint} (hp : p.Ok) (w : World) (hv : SPoint.Row w v [p]) : Ret Tryd.prog 50 #[v] w fun r w' => (∃ u, r = .tuple #[u, .int .i64 (if Hul.place p then 0 else 1)]) ∧ Ext w w' := by
  refine ret_of (fun _ _ => sh_hull_Hull_ok _) fun R hR => ?_
  unfold sh_hull_Hull
  refine join0 (fun W => Ext w W ∧ Hul.place p = true) ?_ fun K hK => ?_
  · rintro _ W ⟨xW, hpl⟩
    refine callF_ret (around1_ret W (Sl.ext hv xW)) ?_
    rintro u w2 ⟨hu, x2⟩
    rw [SPoint.row_len hu, bin_gtr]
    exact Br_i (fun hb => absurd (dec_t hb) (by simp)) fun _ => hR _ _ ⟨⟨_, by rw [hpl]; rfl⟩, xW.trans x2⟩
  · rw [SPoint.row_len hv, bin_gtr]
    refine Br_i (fun hb => absurd (dec_t hb) (by simp)) fun _ => ?_
    refine join1 (fun x W => x = .bool (!Hul.place p) ∧ Ext w W) ?_ fun K4 hK4 => ?_
    · rintro hh _ W hx ⟨rfl, xW⟩
      rw [hx]
      refine Br_i (fun hb => ?_) fun hb => ?_
      · have hn : Hul.place p = false := by cases h : Hul.place p <;> rw [h] at hb <;> simp_all
        exact hR _ _ ⟨⟨_, by rw [hn]; rfl⟩, xW⟩
      · have hn : Hul.place p = true := by cases h : Hul.place p <;> rw [h] at hb <;> simp_all
        exact hK _ ⟨xW, hn⟩
    rw [SPoint.row_len hv, bin_eql]
    refine Gd_i (fun _ => ?_) fun hb => absurd (show decide ((([p] : List SPoint).length : Int) = 0) = false from rfl) (by rw [hb]; decide)
    refine callF_ret (containsPts_ret (p := fun q => !Hul.place q) w hv fun q hq W K X hk => ?_) ?_
    · rw [List.mem_singleton] at hq; subst hq
      rw [callV_func (by kernel_rfl)]
      refine callF_ret (hull1_ret hp W) ?_
      rintro _ W' ⟨rfl, x⟩
      exact hk _ x
    · rintro _ W ⟨rfl, x⟩
      exact hK4 _ _ ⟨by simp, x⟩
theorem chPlace_ret {p : SPoint} (hp : p.Ok) (w : World) : Ret Tryd.prog 37 #[.agg p.cells.toArray] w fun r w' => r = .bool (Hul.place p) ∧ Ext w w' := by
  refine ret_of (fun _ _ => sh_chart_isPlace_ok _) fun R hR => ?_
  unfold sh_chart_isPlace
  refine box_i fun b w1 x1 hat _ _ => ?_
  rw [SPoint.g_all (has_of_at hat)]
  refine SPoint.row_lit [p] rfl (by decide) (by decide) rfl fun v w2 x2 h2 _ => ?_
  refine callF_ret (hullOne_ret hp w2 (Sl.of_owns h2)) ?_
  rintro _ w3 ⟨⟨u, rfl⟩, x3⟩
  rw [ext2_0, ext2_1, bin_eql]
  refine hR _ _ ⟨?_, (x1.trans x2).trans x3⟩
  cases h : Hul.place p <;> rfl
end Go.Proofs.YtdfpdfahcbflpabDoor
