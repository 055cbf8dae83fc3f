/- The law ChartMatchesReference. -/
import Derived.Test.YtnbcdaonkdffkaaGreatDoorFChbU
set_option linter.unusedVariables false
set_option linter.unusedSimpArgs false
namespace Go.Proofs.YtnbcdaonkdffkaaGreatDoor
set_option maxRecDepth 100000
set_option maxHeartbeats 16000000
open Sh Go.RowKit
theorem eql_u64b {w : World} {K : Value → World → Prop} {X : List PanicEntry → World → Prop} {t : TypeId} {ox oy : Operand} {d : BitVec 64} : DoV Tryz.prog (binS .eql t ox oy (u64v d) (u64v d)) w K X = K (.bool true) w := by
  unfold u64v
  rw [bin_eql, decide_eq_true rfl]
open Cha in
theorem ChartMatchesReference_ret {s : SChart} {C : Cht} {x lo hi : SPoint} {n : Int} (w : World) (hc : ChartIs w s C) (hok : ChartOk C) (hxo : x.Ok) (hlo : lo.Ok) (hhi : hi.Ok) (hn : I64 n) (hT : Tab w) :
    Ret Tryz.prog 3 #[.agg s.cells.toArray, .agg x.cells.toArray, .agg lo.cells.toArray, .agg hi.cells.toArray, .int .i64 n] w (TrueQ w) := by
  refine ret_of (fun _ _ => sh_landfalllaw15_ChartMatchesReference_ok _ _ _ _ _) fun R hR => ?_
  unfold sh_landfalllaw15_ChartMatchesReference
  refine box_i fun g w1 x1 hat1 hg1 _ => ?_
  refine box_i fun b6 w2 x2 hat2 _ _ => ?_
  refine box_i fun b7 w3 x3 hat3 _ _ => ?_
  refine box_i fun b8 w4 x4 hat4 _ _ => ?_
  have x04 := ((x1.trans x2).trans x3).trans x4
  refine callF_ret (head15_ret w4 (hT.ext x04)) ?_
  rintro _ w5 ⟨rfl, x5⟩
  have x05 := x04.trans x5
  have hc5 := hc.ext x05
  have hg : ∀ V, Ext w5 V → Has V g 0 s.cells := fun V y => has_of_at (((((hat1.ext x2).ext x3).ext x4).ext x5).ext y)
  have hq : ∀ V, Ext w5 V → Has V b6 0 x.cells := fun V y => has_of_at ((((hat2.ext x3).ext x4).ext x5).ext y)
  have hl : ∀ V, Ext w5 V → Has V b7 0 lo.cells := fun V y => has_of_at (((hat3.ext x4).ext x5).ext y)
  have hh : ∀ V, Ext w5 V → Has V b8 0 hi.cells := fun V y => has_of_at ((hat4.ext x5).ext y)
  rw [SChart.g_all (hg w5 (Ext.refl _))]
  refine callF_ret (few15_ret w5 hc5) ?_
  rintro _ w6 ⟨⟨t, rfl, ht⟩, x6⟩
  rw [un_not]
  refine Br_i (fun hb => hR _ _ ⟨rfl, x05.trans x6⟩) fun hb => ?_
  rw [SChart.g_all (hg w6 x6), SPoint.g_all (hq w6 x6)]
  refine callF_ret (chAt_ret w6 (hc5.ext x6) hok hxo) ?_
  rintro _ w7 ⟨rfl, x7⟩
  have y7 := x6.trans x7
  rw [ext3_0, ext3_1, ext3_2, SChart.g_all (hg w7 y7), SPoint.g_all (hq w7 y7)]
  refine callF_ret (refAt_ret w7 (hc5.ext y7)) ?_
  rintro _ w8 ⟨rfl, x8⟩
  have y8 := y7.trans x8
  rw [ext3_0, ext3_1, ext3_2]
  refine join1 (fun a W => a = .bool true ∧ Ext w5 W) ?_ fun K1 hK1 => ?_
  · rintro h1 _ W ha ⟨rfl, yW⟩
    rw [SChart.g_all (hg W yW)]
    refine callF_ret (chSquare_ret W (hc5.ext yW) hok hn) ?_
    rintro _ v1 ⟨rfl, z1⟩
    have u1 := yW.trans z1
    rw [ext3_0, ext3_1, ext3_2]
    refine two_new2 fun b18 b19 v2 z2 hat18 hat19 n18 n19 => ?_
    have u2 := u1.trans z2
    have s1 := u1.size
    have l18 := hat18.lt
    have l19 := hat19.lt
    rw [SChart.g_all (hg v2 u2)]
    refine callF_ret (refSquare_ret v2 (hc5.ext u2) hn) ?_
    rintro _ v3 ⟨rfl, z3⟩
    have u3 := u2.trans z3
    rw [ext3_0, ext3_1, ext3_2]
    refine two_new2 fun b20 b21 v4 z4 hat20 hat21 n20 n21 => ?_
    have u4 := u3.trans z4
    have a18 := (hat18.ext z3).ext z4
    have a19 := (hat19.ext z3).ext z4
    have ne1 : b18 ≠ b19 ∨ True := .inr trivial
    refine join1 (fun a W => a = .bool true ∧ Ext v4 W) ?_ fun K2 hK2 => ?_
    · rintro h2 _ W2 ha2 ⟨rfl, yW2⟩
      have u5 := u4.trans yW2
      rw [SChart.g_all (hg W2 u5), SPoint.g_all (hl W2 u5), SPoint.g_all (hh W2 u5)]
      refine callF_ret (chTouched_ret W2 (hc5.ext u5) hok hlo hhi) ?_
      rintro _ v5 ⟨⟨va, rfl, hva⟩, z5⟩
      have u6 := u5.trans z5
      rw [ext2_0, ext2_1, SChart.g_all (hg v5 u6), SPoint.g_all (hl v5 u6), SPoint.g_all (hh v5 u6)]
      refine callF_ret (refTouched_ret v5 (hc5.ext u6)) ?_
      rintro _ v6 ⟨⟨vb, rfl, hvb⟩, z6⟩
      have u7 := u6.trans z6
      rw [ext2_0, ext2_1]
      refine join1 (fun a W => a = .bool true ∧ Ext v6 W) ?_ fun K3 hK3 => ?_
      · rintro h3 _ W3 ha3 ⟨rfl, yW3⟩
        have u8 := u7.trans yW3
        rw [SChart.g_all (hg W3 u8)]
        refine callF_ret (chBeacon_ret (id := n) W3 (hc5.ext u8) hok) ?_
        rintro _ v7 ⟨rfl, z7⟩
        rw [ext3_0, ext3_1, ext3_2]
        have u9 := u8.trans z7
        have a18' := ((((a18.ext yW2).ext z5).ext z6).ext yW3).ext z7
        have a19' := ((((a19.ext yW2).ext z5).ext z6).ext yW3).ext z7
        refine SPoint.set (s := (beaconV C n).1) a18' fun v8 m8 hat188 s8 => ?_
        have u10 : Ext w5 v8 := ((Mod.of_ext u9 : Mod (w5.heap.size ≤ ·) w5 v7).trans (m8.mono fun k _ h => by omega)).new
        rw [SChart.g_all (hg v8 u10)]
        refine callF_ret (refBeacon_ret (id := n) v8 (hc5.ext u10)) ?_
        rintro _ v9 ⟨rfl, z9⟩
        rw [ext3_0, ext3_1, ext3_2]
        have u11 := u10.trans z9
        have h19 : ∃ p : SPoint, At v9 b19 (.cells p.cells.toArray 28 (0, 0)) := by
          by_cases e : b19 = b18
          · subst e; exact ⟨_, hat188.ext z9⟩
          · exact ⟨_, (a19'.mod m8 e).ext z9⟩
        obtain ⟨p19, h19⟩ := h19
        refine SPoint.set (s := (beaconV C n).1) h19 fun v10 m10 hat1910 s10 => ?_
        have u12 : Ext w5 v10 := ((Mod.of_ext u11 : Mod (w5.heap.size ≤ ·) w5 v9).trans (m10.mono fun k _ h => by omega)).new
        have h18 : At v10 b18 (.cells (beaconV C n).1.cells.toArray 28 (0, 0)) := by
          by_cases e : b18 = b19
          · subst e; exact hat1910
          · exact (hat188.ext z9).mod m10 e
        refine join1 (fun a W => a = .bool true ∧ Ext v10 W) ?_ fun K4 hK4 => ?_
        · rintro h4 _ W4 ha4 ⟨rfl, yW4⟩
          have u13 := u12.trans yW4
          rw [SChart.g_all (hg W4 u13)]
          refine callF_ret (chLineOf_ret (id := n) W4 (hc5.ext u13) hok) ?_
          rintro _ v11 ⟨⟨t1, rfl, ht1⟩, z11⟩
          have u14 := u13.trans z11
          rw [ext3_0, ext3_1, ext3_2]
          refine line_new fun b24 v12 z12 hat24 => ?_
          have u15 := u14.trans z12
          rw [SChart.g_all (hg v12 u15)]
          refine callF_ret (refLineOf_ret (id := n) v12 (hc5.ext u15)) ?_
          rintro _ v13 ⟨⟨t2, rfl, ht2⟩, z13⟩
          have u16 := u15.trans z13
          rw [ext3_0, ext3_1, ext3_2]
          refine line_new fun b25 v14 z14 hat25 => ?_
          have u17 := u16.trans z14
          refine join1 (fun a W => a = .bool true ∧ Ext v14 W) ?_ fun K5 hK5 => ?_
          · rintro h5 _ W5 ha5 ⟨rfl, yW5⟩
            have u18 := u17.trans yW5
            rw [SChart.g_all (hg W5 u18)]
            refine callF_ret (chDigest_ret W5 (hc5.ext u18) hok (hT.ext (x05.trans u18))) ?_
            rintro _ v15 ⟨rfl, z15⟩
            have u19 := u18.trans z15
            rw [ext2_0, ext2_1, SChart.g_all (hg v15 u19)]
            refine callF_ret (refDigest15_ret v15 (hc5.ext u19) hok) ?_
            rintro _ v16 ⟨rfl, z16⟩
            rw [ext2_0, ext2_1, ha5]
            refine gd_t ?_
            rw [eql_u64b]
            refine gd_t ?_
            rw [bin_eql]
            exact hR _ _ ⟨by rw [decide_eq_true rfl], (x05.trans u19).trans z16⟩
          · rw [ha4]
            refine gd_t ?_
            rw [SLine.g_all (has_of_at ((hat24.ext z13).ext z14)), SLine.g_all (has_of_at hat25)]
            refine callF_ret (refSameLine_ret v14 (((ht1.ext z12).ext z13).ext z14) (ht2.ext z14)) ?_
            rintro _ v15 ⟨rfl, z15⟩
            refine gd_d rfl ?_
            rw [eql_bool15]; refine gd_d rfl ?_
            rw [bin_eql]
            exact hK5 _ _ ⟨by rw [decide_eq_true rfl], z15⟩
        · rw [ha3]
          refine gd_t ?_
          rw [SPoint.g_all (has_of_at h18), SPoint.g_all (has_of_at hat1910), SPoint.eql]; refine gd_d rfl ?_
          rw [eql_bool15]; refine gd_d rfl ?_
          rw [bin_eql]
          exact hK4 _ _ ⟨by rw [decide_eq_true rfl], Ext.refl _⟩
      · rw [ha2]
        refine gd_t ?_
        refine callF_ret (sameInts_ret v6 (hva.ext z6) hvb) ?_
        rintro _ v7 ⟨rfl, z7⟩
        refine gd_d rfl ?_
        rw [bin_eql]
        exact hK3 _ _ ⟨by rw [decide_eq_true rfl], z7⟩
    · rw [ha]
      refine gd_t ?_
      rw [SPoint.g_all (has_of_at a18), SPoint.g_all (has_of_at hat20), SPoint.eql]; refine gd_d rfl ?_
      rw [SPoint.g_all (has_of_at a19), SPoint.g_all (has_of_at hat21), SPoint.eql]; refine gd_d rfl ?_
      rw [bin_eql]
      exact hK2 _ _ ⟨by rw [decide_eq_true rfl], Ext.refl _⟩
  · refine draw_ext fun w9 x9 => ?_
    have y9 := y8.trans x9
    refine gd_t ?_
    refine det_read (.bool true) (fun V x K => by rw [bin_eql, decide_eq_true rfl]) ?_
    refine gd_t ?_
    refine det_read (.bool true) (fun V x K => by rw [eql_bool15, decide_eq_true rfl]) ?_
    refine gd_t ?_
    refine det_read (.bool true) (fun V x K => by rw [bin_eql, decide_eq_true rfl]) ?_
    refine gd_t ?_
    refine det_read _ (fun V x K => SChart.g_all (hg V (y9.trans x))) ?_
    refine det_ret _ (fun V x => chValid_ret V (hc5.ext (y9.trans x)) hok) ?_
    refine det_read _ (fun V x K => SChart.g_all (hg V (y9.trans x))) ?_
    intro w10 x10 _
    have y10 := y9.trans x10
    refine callF_ret (refChValid_ret w10 (hc5.ext y10)) ?_
    rintro _ w11 ⟨rfl, x11⟩
    rw [eql_bool15]
    exact hK1 _ _ ⟨by rw [decide_eq_true rfl], y10.trans x11⟩
end Go.Proofs.YtnbcdaonkdffkaaGreatDoor
