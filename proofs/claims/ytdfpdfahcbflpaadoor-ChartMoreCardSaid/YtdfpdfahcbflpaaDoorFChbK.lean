/- The law ChartMore. -/
import Derived.Test.YtdfpdfahcbflpaaDoorFChbJ
set_option linter.unusedVariables false
set_option linter.unusedSimpArgs false
namespace Go.Proofs.YtdfpdfahcbflpaaDoor
set_option maxRecDepth 100000
set_option maxHeartbeats 16000000
open Sh Go.RowKit
theorem Ty.u16_15 : Tryd.prog.underlying 45 = some (.int .u16) := by kernel_rfl
open Cha in
theorem ChartMore_ret {s : SChart} {C : Cht} {lo hi : SPoint} {n : Int} (w : World) (hc : ChartIs w s C) (hok : ChartOk C) (hlo : lo.Ok) (hhi : hi.Ok) (hn : 0 ≤ n ∧ n < 65536) (hT : Tab w) : Ret Tryd.prog 5 #[.agg s.cells.toArray, .agg lo.cells.toArray, .agg hi.cells.toArray, .int .u16 n] w (TrueQ w) := by
  refine ret_of (fun _ _ => sh_landfalllaw15_ChartMore_ok _ _ _ _) fun R hR => ?_
  unfold sh_landfalllaw15_ChartMore
  refine box_i fun g w1 x1 hat1 hg1 _ => ?_
  refine box_i fun b4 w2 x2 hat2 hb2 _ => ?_
  refine box_i fun b5 w2' x2' hat5 hb5 _ => ?_
  have x02 := (x1.trans x2).trans x2'
  refine callF_ret (head15_ret w2' (hT.ext x02)) ?_
  rintro _ w3 ⟨rfl, x3⟩
  have x03 := x02.trans x3
  have hc3 := hc.ext x03
  have hg : ∀ V, Ext w3 V → Has V g 0 s.cells := fun V y => has_of_at ((hat1.ext ((x2.trans x2').trans x3)).ext y)
  have hl : ∀ V, Ext w3 V → Has V b4 0 lo.cells := fun V y => has_of_at ((hat2.ext (x2'.trans x3)).ext y)
  have hh : ∀ V, Ext w3 V → Has V b5 0 hi.cells := fun V y => has_of_at ((hat5.ext x3).ext y)
  refine join0 (fun W => Ext w3 W ∧ rectP C lo hi ∧ lo.x ≠ hi.x) ?_ fun K hK => ?_
  · rintro _ W ⟨xW, hP, hne⟩
    obtain ⟨hG, hp1, hp2, hxx, hyy⟩ := id hP
    obtain ⟨_, hw, hhh, hz, hwh, hmax, hp0, _⟩ := id hG.1
    have p1 := Hul.place_iff.1 hp1
    have p2 := Hul.place_iff.1 hp2
    have hcl : C.cells.length ≤ 4000 := by omega
    have r1 := Int.emod_nonneg n (show hi.x - lo.x ≠ 0 by omega)
    have r2 := Int.emod_lt_of_pos n (show 0 < hi.x - lo.x by omega)
    refine draw_ext fun w4 x4 => ?_
    have x34 := xW.trans x4
    refine det_read _ (fun V x K => Ty.SPoint_f0) ?_
    refine det_read (.int .i64 lo.x) (fun V x K => load_cell Ty.int_agg (has_at (hl V (x34.trans x)) (d := 0) rfl rfl)) ?_
    refine det_read (.int .i64 n) (fun V x K => by rw [conv_int Ty.u16_15 Ty.int, i64_wrap (by omega) (by omega)]) ?_
    refine det_read _ (fun V x K => Ty.SPoint_f0) ?_
    refine det_read (.int .i64 hi.x) (fun V x K => load_cell Ty.int_agg (has_at (hh V (x34.trans x)) (d := 0) rfl rfl)) ?_
    refine det_read _ (fun V x K => Ty.SPoint_f0) ?_
    refine det_read (.int .i64 lo.x) (fun V x K => load_cell Ty.int_agg (has_at (hl V (x34.trans x)) (d := 0) rfl rfl)) ?_
    refine det_read (.int .i64 (hi.x - lo.x)) (fun V x K => by rw [bin_sub, i64_wrap (by omega) (by omega)]) ?_
    refine det_read (.int .i64 (n % (hi.x - lo.x))) (fun V x K => by rw [bin_rem (by omega), Int.tmod_eq_emod_of_nonneg hn.1]) ?_
    intro w5 x5 _
    have x35 := x34.trans x5
    rw [bin_add, i64_wrap (by omega) (by omega)]
    generalize hr : lo.x + n % (hi.x - lo.x) = r at *
    have hr1 : lo.x ≤ r ∧ r < hi.x := by omega
    have hPa : rectP C lo ⟨r, hi.y⟩ := ⟨hG, hp1, Hul.place_iff.2 (by simp only; omega), by simp only; omega, hyy⟩
    have hPb : rectP C ⟨r + 1, lo.y⟩ hi := ⟨hG, Hul.place_iff.2 (by simp only; omega), hp2, by simp only; omega, hyy⟩
    have t0 : touchV C lo hi = (under C lo hi, 0) := by unfold touchV; rw [if_pos hP]
    have ta : touchV C lo ⟨r, hi.y⟩ = (under C lo ⟨r, hi.y⟩, 0) := by unfold touchV; rw [if_pos hPa]
    have tb : touchV C ⟨r + 1, lo.y⟩ hi = (under C ⟨r + 1, lo.y⟩ hi, 0) := by unfold touchV; rw [if_pos hPb]
    rw [SChart.g_all (hg w5 x35), SPoint.g_all (hl w5 x35), SPoint.g_all (hh w5 x35)]
    refine callF_ret (chTouched_ret w5 (hc3.ext x35) hok hlo hhi) ?_
    rintro _ w6 ⟨⟨v0, rfl, hv0⟩, x6⟩
    have x36 := x35.trans x6
    rw [t0] at hv0
    rw [t0]
    dsimp only at hv0 ⊢
    rw [ext2_0, ext2_1, SChart.g_all (hg w6 x36), SPoint.g_all (hl w6 x36), SPoint.g_y (hh w6 x36), build_i (new_pt15 _ _)]
    refine callF_ret (chTouched_ret (hi := ⟨r, hi.y⟩) w6 (hc3.ext x36) hok hlo ⟨⟨by simp only; omega, by simp only; omega⟩, hhi.2⟩) ?_
    rintro _ w7 ⟨⟨va, rfl, hva⟩, x7⟩
    have x37 := x36.trans x7
    rw [ta] at hva
    rw [ta]
    dsimp only at hva ⊢
    rw [ext2_0, ext2_1, SChart.g_all (hg w7 x37), bin_add, i64_wrap (by omega) (by omega), SPoint.g_y (hl w7 x37), build_i (new_pt15 _ _), SPoint.g_all (hh w7 x37)]
    refine callF_ret (chTouched_ret (lo := ⟨r + 1, lo.y⟩) w7 (hc3.ext x37) hok ⟨⟨by simp only; omega, by simp only; omega⟩, hlo.2⟩ hhi) ?_
    rintro _ w8 ⟨⟨vb, rfl, hvb⟩, x8⟩
    have x38 := x37.trans x8
    rw [tb] at hvb
    rw [tb]
    dsimp only at hvb ⊢
    rw [ext2_0, ext2_1]
    refine join0 (fun U => U = w8) ?_ fun K2 hK2 => ?_
    · rintro _ U hU
      subst U
      rw [SChart.g_cs (hg w8 x38), SCell.row_len (Sl.ext hc3.cells x38)]
      refine loop2 (fun a b V => ∃ i : Nat, i ≤ C.cells.length ∧ a = .bool true ∧ b = .int .i64 i ∧ Ext w8 V) (fun a b _ => C.cells.length - (intOf b).toNat) ⟨0, by omega, rfl, rfl, Ext.refl _⟩ ?_
      rintro h av bv V h9 h88 ⟨i, hil, rfl, rfl, xV⟩ K1 hK1
      rw [h88, bin_lss]
      refine Br_i (fun hb => ?_) fun hb => ?_
      · have hlt : (i : Int) < C.cells.length := dec_t hb
        refine join1 (fun a V2 => a = .bool true ∧ Ext w8 V2) ?_ fun K2 hK2 => ?_
        · rintro h2 a V2 ha ⟨rfl, xV2⟩
          rw [ha, bin_add, i64_wrap (by omega) (by omega)]
          exact hK1 _ _ _ ⟨i + 1, by omega, rfl, by simp, xV2⟩ (by simp [intOf]; omega)
        have m0 := mem_under (lo := lo) (hi := hi) (n := i) hG.1
        have ma := mem_under (lo := lo) (hi := ⟨r, hi.y⟩) (n := i) hG.1
        have mb := mem_under (lo := ⟨r + 1, lo.y⟩) (hi := hi) (n := i) hG.1
        obtain ⟨d1, d2⟩ := @sq_diff C i
        have hall : (i : Int) ∈ under C lo hi ↔ (i : Int) ∈ under C lo ⟨r, hi.y⟩ ∨ (i : Int) ∈ under C ⟨r + 1, lo.y⟩ hi := by
          rw [m0, ma, mb]
          unfold meets
          simp only
          omega
        rw [h9]
        refine gd_t ?_
        refine callF_ret (has15_ret V (hv0.ext ((x7.trans x8).trans xV))) ?_
        rintro _ V2 ⟨rfl, y2⟩
        refine callF_ret (has15_ret V2 (hva.ext ((x8.trans xV).trans y2))) ?_
        rintro _ V3 ⟨rfl, y3⟩
        refine Gd_i (fun hb3 => ?_) fun hb3 => ?_
        · refine callF_ret (has15_ret V3 (hvb.ext ((xV.trans y2).trans y3))) ?_
          rintro _ V4 ⟨rfl, y4⟩
          rw [eql_bool15]
          refine hK2 _ _ ⟨?_, ((xV.trans y2).trans y3).trans y4⟩
          have hna := of_decide_eq_false hb3
          rw [decide_eq_true]
          rw [decide_eq_decide, hall]
          exact ⟨fun hh => hh.resolve_left hna, .inr⟩
        · rw [eql_bool15]
          refine hK2 _ _ ⟨?_, (xV.trans y2).trans y3⟩
          have hya := of_decide_eq_true hb3
          rw [decide_eq_true]
          exact decide_eq_true (hall.2 (.inl hya))
      · rw [h9]
        exact hR _ _ ⟨rfl, (x03.trans x38).trans xV⟩
    · refine join1 (fun a U => a = .bool false ∧ U = w8) ?_ fun K3 hK3 => ?_
      · rintro h3 a U h84 ⟨rfl, hU⟩
        subst U
        rw [h84]
        exact br_f (hK2 _ rfl)
      rw [bin_neq]
      refine Gd_i (fun _ => ?_) fun hb3 => by cases hb3
      rw [bin_neq]
      refine Gd_i (fun _ => ?_) fun hb3 => by cases hb3
      rw [bin_neq]
      exact hK3 _ _ ⟨rfl, rfl⟩
  · refine join1 (fun y V => ∃ t, y = .bool t ∧ Ext w3 V ∧ (t = false → rectP C lo hi ∧ lo.x ≠ hi.x)) ?_ fun K3 hK3 => ?_
    · rintro h2 _ V hx2 ⟨t, rfl, xV, hf⟩
      rw [hx2]
      exact Br_i (fun hb => hR _ _ ⟨rfl, x03.trans xV⟩) fun hb => hK _ ⟨xV, hf hb⟩
    rw [SChart.g_all (hg w3 (Ext.refl _))]
    refine callF_ret (usable_ret w3 hc3) ?_
    rintro _ w6 ⟨⟨t, rfl, ht⟩, x6⟩
    rw [un_not]
    refine Gd_i (fun b1 => ?_) fun hb => hK3 _ _ ⟨true, rfl, x6, fun ht => (by cases ht)⟩
    rw [SPoint.g_all (hl w6 x6), SPoint.g_all (hh w6 x6)]
    refine callF_ret (right15_ret w6) ?_
    rintro _ w7 ⟨⟨t2, rfl, ht2⟩, x7⟩
    have x37 := x6.trans x7
    rw [un_not]
    refine Gd_i (fun b2 => ?_) fun hb => hK3 _ _ ⟨true, rfl, x37, fun ht => (by cases ht)⟩
    rw [SPoint.g_x (hl w7 x37), SPoint.g_x (hh w7 x37), bin_eql]
    exact hK3 _ _ ⟨_, rfl, x37, fun ht' => ⟨⟨(ht.1 (nd b1)).2, ht2.1 (nd b2)⟩, of_decide_eq_false ht'⟩⟩
end Go.Proofs.YtdfpdfahcbflpaaDoor
