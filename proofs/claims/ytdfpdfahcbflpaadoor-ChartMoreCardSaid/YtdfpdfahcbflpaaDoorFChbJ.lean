/- The law ChartTouches. -/
import Derived.Test.YtdfpdfahcbflpaaDoorFChbI
set_option linter.unusedVariables false
set_option linter.unusedSimpArgs false
namespace Go.Proofs.YtdfpdfahcbflpaaDoor
set_option maxRecDepth 100000
set_option maxHeartbeats 16000000
open Sh Go.RowKit
namespace Cha
theorem at_under {C : Cht} {x : SPoint} (hG : GoodC C) (hp : Hul.place x = true) : ((atV C x).2.1 = true → under C x x = [(atV C x).1]) ∧ ((atV C x).2.1 = false → under C x x = []) := by
  unfold atV
  rw [if_pos ⟨valid_iff.2 hG, hp⟩]
  cases hu : under C x x with
  | nil => exact ⟨fun h => (by cases h), fun _ => rfl⟩
  | cons a t =>
    refine ⟨fun _ => ?_, fun h => (by cases h)⟩
    cases t with
    | nil => rfl
    | cons b t =>
      have hs := under_sorted (lo := x) (hi := x) (show 1 ≤ C.w from hG.1.2.1.1)
      rw [hu] at hs
      have h1 := List.rel_of_pairwise_cons hs (List.mem_cons_self (a := b) (l := t))
      have h2 := under_one (C := C) (x := x) (a := a) (b := b) (by rw [hu]; simp) (by rw [hu]; simp)
      omega
theorem meets_iff {C : Cht} {lo hi : SPoint} {i : Int} (hz : 1 ≤ C.size) (hx : lo.x ≤ hi.x) (hy : lo.y ≤ hi.y) : meets C lo hi i ↔ mx lo.x (lowC C i).x ≤ mn hi.x (highC C i).x ∧ mx lo.y (lowC C i).y ≤ mn hi.y (highC C i).y := by
  obtain ⟨d1, d2⟩ := @sq_diff C i
  have a1 := @mx_le lo.x (lowC C i).x
  have a2 := @mx_le lo.y (lowC C i).y
  have a3 := @mn_le hi.x (highC C i).x
  have a4 := @mn_le hi.y (highC C i).y
  unfold meets
  omega
end Cha
open Cha in
theorem ChartTouches_ret {s : SChart} {C : Cht} {lo hi : SPoint} (w : World) (hc : ChartIs w s C) (hok : ChartOk C) (hlo : lo.Ok) (hhi : hi.Ok) (hT : Tab w) : Ret Tryd.prog 4 #[.agg s.cells.toArray, .agg lo.cells.toArray, .agg hi.cells.toArray] w (TrueQ w) := by
  refine ret_of (fun _ _ => sh_landfalllaw15_ChartTouches_ok _ _ _) fun R hR => ?_
  unfold sh_landfalllaw15_ChartTouches
  refine box_i fun g w1 x1 hat1 hg1 _ => ?_
  refine box_i fun b4 w2 x2 hat2 hb2 _ => ?_
  refine box_i fun b5 w2' x2' hat5 hb5 _ => ?_
  have x02 := (x1.trans x2).trans x2'
  refine callF_ret (head15_ret w2' (hT.ext x02)) ?_
  rintro _ w3 ⟨rfl, x3⟩
  have x03 := x02.trans x3
  have hc3 := hc.ext x03
  have hg : ∀ V, Ext w3 V → Has V g 0 s.cells := fun V y => has_of_at ((hat1.ext ((x2.trans x2').trans x3)).ext y)
  have hl : ∀ V, Ext w3 V → Has V b4 0 lo.cells := fun V y => has_of_at ((hat2.ext (x2'.trans x3)).ext y)
  have hh : ∀ V, Ext w3 V → Has V b5 0 hi.cells := fun V y => has_of_at ((hat5.ext x3).ext y)
  refine join0 (fun W => Ext w3 W ∧ rectP C lo hi) ?_ fun K hK => ?_
  · rintro _ W ⟨xW, hP⟩
    obtain ⟨hG, hp1, hp2, hxx, hyy⟩ := id hP
    obtain ⟨_, hw, hhh, hz, hwh, hmax, hp0, _⟩ := id hG.1
    have p1 := Hul.place_iff.1 hp1
    have p2 := Hul.place_iff.1 hp2
    have ht1 : touchV C lo hi = (under C lo hi, 0) := by unfold touchV; rw [if_pos hP]
    have ht2 : touchV C lo lo = (under C lo lo, 0) := by unfold touchV; rw [if_pos ⟨hG, hp1, hp1, by omega, by omega⟩]
    have hsort := under_sorted (lo := lo) (hi := hi) hw.1
    have hule := under_le (lo := lo) (hi := hi) hG.1
    have hcl : C.cells.length ≤ 4000 := by omega
    rw [SChart.g_all (hg W xW), SPoint.g_all (hl W xW), SPoint.g_all (hh W xW)]
    refine callF_ret (chTouched_ret W (hc3.ext xW) hok hlo hhi) ?_
    rintro _ w4 ⟨⟨v, rfl, hv⟩, x4⟩
    rw [ht1] at hv
    rw [ht1]
    dsimp only at hv ⊢
    rw [ext2_0, ext2_1]
    have x34 := xW.trans x4
    have hm : ∀ n : Int, n ∈ under C lo hi ↔ (0 ≤ n ∧ n < C.cells.length) ∧ meets C lo hi n := fun n => mem_under hG.1
    generalize hL : under C lo hi = L at *
    rw [hv.len]
    refine loop2 (fun a b V => ∃ i : Nat, i ≤ L.length ∧ a = .bool true ∧ b = .int .i64 i ∧ Ext w4 V) (fun a b _ => L.length - (intOf b).toNat) ⟨0, by omega, rfl, rfl, Ext.refl _⟩ ?_
    rintro h av bv V h7 h42 ⟨i, hil, rfl, rfl, xV⟩ K1 hK1
    rw [h42, bin_lss]
    refine Br_i (fun hb => ?_) fun hb => ?_
    · have hlt : i < L.length := by have := dec_t hb; omega
      obtain ⟨a1, i1, g1⟩ := hv.at_ hlt
      refine join1 (fun a V2 => a = .bool true ∧ V2 = V) ?_ fun K2 hK2 => ?_
      · rintro h2 a V2 ha ⟨rfl, hV2⟩
        subst V2
        rw [ha, bin_add, i64_wrap (by omega) (by omega)]
        exact hK1 _ _ _ ⟨i + 1, by omega, rfl, by simp, xV⟩ (by simp [intOf]; omega)
      rw [i1, g1 V xV, h7]
      refine gd_t ?_
      rw [bin_eql]
      refine Gd_i (fun hi0 => ?_) fun hi0 => hK2 _ _ ⟨rfl, rfl⟩
      have h1i : 1 ≤ i := by have := dec_f hi0; omega
      obtain ⟨a2, i2, g2⟩ := hv.at_ (show i - 1 < L.length by omega)
      rw [bin_sub, i64_wrap (by omega) (by omega), show (i : Int) - 1 = ((i - 1 : Nat) : Int) by omega, i2, g2 V xV, bin_lss]
      refine hK2 _ _ ⟨?_, rfl⟩
      rw [decide_eq_true (List.pairwise_iff_getElem.1 hsort (i - 1) i (by omega) hlt (by omega))]
    have x3V := x34.trans xV
    have hvV := hv.ext xV
    rw [SChart.g_cs (hg V x3V), SCell.row_len (Sl.ext hc3.cells x3V), h7]
    refine loop2 (fun a b V => ∃ i : Nat, i ≤ C.cells.length ∧ a = .bool true ∧ b = .int .i64 i ∧ Ext w4 V) (fun a b _ => C.cells.length - (intOf b).toNat) ⟨0, by omega, rfl, rfl, xV⟩ ?_
    clear hb h7 h42
    rintro h av bv V5 h7 h65 ⟨i, hil, rfl, rfl, xV5⟩ K1 hK1
    have x3V5 := x34.trans xV5
    rw [h65, bin_lss]
    refine Br_i (fun hb => ?_) fun hb => ?_
    · have hlt : (i : Int) < C.cells.length := dec_t hb
      have hin : inC C i := ⟨hG, by omega, hlt⟩
      refine join1 (fun a V2 => a = .bool true ∧ Ext w4 V2) ?_ fun K2 hK2 => ?_
      · rintro h2 a V2 ha ⟨rfl, xV2⟩
        rw [ha, bin_add, i64_wrap (by omega) (by omega)]
        exact hK1 _ _ _ ⟨i + 1, by omega, rfl, by simp, xV2⟩ (by simp [intOf]; omega)
      rw [SChart.g_all (hg V5 x3V5)]
      refine callF_ret (chSquare_ret (i := i) V5 (hc3.ext x3V5) hok ⟨by omega, by omega⟩) ?_
      rintro _ V6 ⟨rfl, y6⟩
      have hs : squareV C i = (lowC C i, highC C i, 0) := by unfold squareV; rw [if_pos hin]
      rw [hs]
      dsimp only
      rw [ext3_0, ext3_1, ext3_2]
      refine two_new fun ba bb V7 y7 hata hatb => ?_
      have x47 := (xV5.trans y6).trans y7
      have x37 := x34.trans x47
      rw [SPoint.g_x (hl V7 x37), SPoint.g_x (has_of_at hata), max2, SPoint.g_y (hl V7 x37), SPoint.g_y (has_of_at hata), max2, build_i (new_pt15 _ _)]
      refine pt_new fun bx V8 y8 hatx => ?_
      have x48 := x47.trans y8
      have hmi := meets_iff (i := i) hz.1 hxx hyy
      have hmem := hm i
      rw [hmi] at hmem
      refine draw_ext fun V9 y9 => ?_
      have x49 := x48.trans y9
      have x39 := x34.trans x49
      rw [h7]
      refine gd_t ?_
      refine det_read (.bool true) (fun U y K => by rw [bin_eql]; rfl) ?_
      refine gd_t ?_
      refine det_ret _ (fun U y => has15_ret (n := i) U (hv.ext (x49.trans y))) ?_
      have qx : ∀ U, Ext V9 U → Has U bx 0 _ := fun U y => has_of_at ((hatx.ext y9).ext y)
      have qb : ∀ U, Ext V9 U → Has U bb 0 _ := fun U y => has_of_at (((hatb.ext y8).ext y9).ext y)
      have qh : ∀ U, Ext V9 U → Has U b5 0 hi.cells := fun U y => hh U (x39.trans y)
      refine det_read _ (fun U y K => Ty.SPoint_f0) ?_
      refine det_read _ (fun U y K => load_cell Ty.int_agg (has_at (qx U y) (d := 0) rfl rfl)) ?_
      refine det_read _ (fun U y K => Ty.SPoint_f0) ?_
      refine det_read _ (fun U y K => load_cell Ty.int_agg (has_at (qh U y) (d := 0) rfl rfl)) ?_
      refine det_read _ (fun U y K => Ty.SPoint_f0) ?_
      refine det_read _ (fun U y K => load_cell Ty.int_agg (has_at (qb U y) (d := 0) rfl rfl)) ?_
      refine det_read _ (fun U y K => min2) ?_
      refine det_read _ (fun U y K => bin_leq) ?_
      refine Gd_i (fun hb3 => ?_) fun hb3 => ?_
      · refine det_read _ (fun U y K => Ty.SPoint_f1) ?_
        refine det_read _ (fun U y K => load_cell Ty.int_agg (has_at (qx U y) (d := 1) rfl rfl)) ?_
        refine det_read _ (fun U y K => Ty.SPoint_f1) ?_
        refine det_read _ (fun U y K => load_cell Ty.int_agg (has_at (qh U y) (d := 1) rfl rfl)) ?_
        refine det_read _ (fun U y K => Ty.SPoint_f1) ?_
        refine det_read _ (fun U y K => load_cell Ty.int_agg (has_at (qb U y) (d := 1) rfl rfl)) ?_
        refine det_read _ (fun U y K => min2) ?_
        intro U y _
        rw [bin_leq, eql_bool15]
        refine hK2 _ _ ⟨?_, x49.trans y⟩
        have c1 := dec_t hb3
        rw [decide_eq_true]
        rw [decide_eq_decide, hmem]
        exact ⟨fun hh => hh.2.2, fun hh => ⟨⟨by omega, hlt⟩, c1, hh⟩⟩
      · intro U y _
        rw [eql_bool15]
        refine hK2 _ _ ⟨?_, x49.trans y⟩
        have c1 := dec_f hb3
        rw [decide_eq_true]
        rw [decide_eq_false_iff_not, hmem]
        exact fun hh => c1 hh.2.1
    · obtain ⟨u1, u2⟩ := at_under hG hp1
      have e0 := (at_props hG hp1).1
      rw [SChart.g_all (hg V5 x3V5), SPoint.g_all (hl V5 x3V5), SPoint.g_all (hl V5 x3V5)]
      refine callF_ret (chTouched_ret V5 (hc3.ext x3V5) hok hlo hlo) ?_
      rintro _ V6 ⟨⟨v6, rfl, hv6⟩, y6⟩
      rw [ht2] at hv6
      rw [ht2]
      dsimp only at hv6 ⊢
      have x36 := x3V5.trans y6
      rw [ext2_0, ext2_1, SChart.g_all (hg V6 x36), SPoint.g_all (hl V6 x36)]
      refine callF_ret (chAt_ret V6 (hc3.ext x36) hok hlo) ?_
      rintro _ V7 ⟨rfl, y7⟩
      have x37 := x36.trans y7
      generalize hav : atV C lo = av at *
      obtain ⟨k, is, er⟩ := av
      simp only at e0 u1 u2
      subst e0
      dsimp only
      rw [ext3_0, ext3_1, ext3_2, h7]
      refine gd_t ?_
      rw [bin_eql]; refine gd_d rfl ?_
      rw [bin_eql]; refine gd_d rfl ?_
      rw [bin_eql]; refine gd_d rfl ?_
      rw [(hv.ext ((xV5.trans y6).trans y7)).len, SChart.g_cs (hg V7 x37), SCell.row_len (Sl.ext hc3.cells x37), bin_leq]
      refine gd_d (by omega) ?_
      have hv7 := hv6.ext y7
      cases is with
      | true =>
        refine gd_t ?_
        refine lit_ints [k] rfl (by decide) (by decide) rfl fun vk V8 y8 hok8 _ => ?_
        refine callF_ret (sameInts_ret V8 (hv7.ext y8) (Sl.of_owns hok8)) ?_
        rintro _ V9 ⟨rfl, y9⟩
        rw [decide_eq_true (u1 rfl)]
        refine Gd_i (fun hb3 => by cases hb3) fun _ => ?_
        exact hR _ _ ⟨rfl, ((x03.trans x37).trans y8).trans y9⟩
      | false =>
        refine Gd_i (fun hb3 => by cases hb3) fun _ => ?_
        rw [un_not]
        refine gd_t ?_
        rw [u2 rfl] at hv7
        rw [hv7.len, bin_eql]
        exact hR _ _ ⟨rfl, x03.trans x37⟩
  · refine join1 (fun y V => ∃ t, y = .bool t ∧ Ext w3 V ∧ (t = false → rectP C lo hi)) ?_ fun K3 hK3 => ?_
    · rintro h2 _ V hx2 ⟨t, rfl, xV, hf⟩
      rw [hx2]
      exact Br_i (fun hb => hR _ _ ⟨rfl, x03.trans xV⟩) fun hb => hK _ ⟨xV, hf hb⟩
    rw [SChart.g_all (hg w3 (Ext.refl _))]
    refine callF_ret (usable_ret w3 hc3) ?_
    rintro _ w6 ⟨⟨t, rfl, ht⟩, x6⟩
    rw [un_not]
    refine Gd_i (fun b1 => ?_) fun hb => hK3 _ _ ⟨true, rfl, x6, fun ht => (by cases ht)⟩
    rw [SPoint.g_all (hl w6 x6), SPoint.g_all (hh w6 x6)]
    refine callF_ret (right15_ret w6) ?_
    rintro _ w7 ⟨⟨t2, rfl, ht2⟩, x7⟩
    rw [un_not]
    exact hK3 _ _ ⟨_, rfl, x6.trans x7, fun ht' => ⟨(ht.1 (nd b1)).2, ht2.1 (nd ht')⟩⟩
end Go.Proofs.YtdfpdfahcbflpaaDoor
