/- The law ChartDigests. -/
import Derived.Test.YtdfpdfahcbflpabDoorHChbR
set_option linter.unusedVariables false
set_option linter.unusedSimpArgs false
namespace Go.Proofs.YtdfpdfahcbflpabDoor
set_option maxRecDepth 100000
set_option maxHeartbeats 16000000
open Sh Go.RowKit
theorem eql_u64 {w : World} {K : Value → World → Prop} {X : List PanicEntry → World → Prop} {t : TypeId} {ox oy : Operand} {d e : BitVec 64} (h : Tryd.prog.underlying t = some (.int .u64)) : DoV Tryd.prog (binS .eql t ox oy (u64v d) (u64v e)) w K X = K (.bool (decide (d = e))) w := by
  unfold u64v
  rw [bin_eql]
  congr 2
  rw [decide_eq_decide]
  exact ⟨fun h => BitVec.eq_of_toNat_eq (Int.ofNat.inj h), fun h => by rw [h]⟩
open Cha in
theorem ChartDigests_ret {s : SChart} {C : Cht} {what which b : Int} (w : World) (hc : ChartIs w s C) (hok : ChartOk C) (hwt : 0 ≤ what ∧ what < 256) (hwh : 0 ≤ which ∧ which < 256) (hby : 0 ≤ b ∧ b < 256) (hT : Tab w) :
    Ret Tryd.prog 4 #[.agg s.cells.toArray, .int .u8 what, .int .u8 which, .int .u8 b] w (TrueQ w) := by
  refine ret_of (fun _ _ => sh_landfalllaw15_ChartDigests_ok _ _ _ _) fun R hR => ?_
  unfold sh_landfalllaw15_ChartDigests
  refine box_i fun g w1 x1 hat1 hg1 _ => ?_
  refine callF_ret (head15_ret w1 (hT.ext x1)) ?_
  rintro _ w2 ⟨rfl, x2⟩
  have x02 := x1.trans x2
  rw [SChart.g_all (has_of_at (hat1.ext x2))]
  refine callF_ret (usable_ret w2 (hc.ext x02)) ?_
  rintro _ w3 ⟨⟨t, rfl, ht⟩, x3⟩
  have x03 := x02.trans x3
  rw [un_not]
  refine Br_i (fun hb => hR _ _ ⟨rfl, x03⟩) fun hb => ?_
  have hG := (ht.1 (nd hb)).2
  have hS := good_size hG
  have hat3 := hat1.ext (x2.trans x3)
  have hg : ∀ V, Ext w3 V → Has V g 0 s.cells := fun V x => has_of_at (hat3.ext x)
  rw [SChart.g_all (hg w3 (Ext.refl _))]
  refine callF_ret (changed15_ret w3 (hc.ext x03) hok hG hwh hby) ?_
  rintro _ w4 ⟨⟨o, D, rfl, hD, hokD, hSD, hone⟩, x4⟩
  refine chart_new fun b10 w5 x5 hat10 hb10 => ?_
  have x35 := x4.trans x5
  have hc5 := hc.ext (x03.trans x35)
  have hD5 := hD.ext x5
  refine same_region hc5 hS (hat3.ext x35) hat10 fun pv W xW e2 e1 => ?_
  rw [e2]
  have x3W := x35.trans xW
  refine callF_ret (refInts_ret W (hD5.ext xW) hSD) ?_
  rintro vy w6 ⟨hy, x6⟩
  have hx := e1.ext x6
  have x36 := x3W.trans x6
  have hlen := hone.len
  have hle := Sl.le e1
  have ho : ∀ V, Ext w5 V → Has V b10 0 o.cells := fun V x => has_of_at (hat10.ext x)
  rw [hx.len]
  refine loop1 (fun x V => ∃ i : Nat, i ≤ (ints C).length ∧ x = .int .i64 i ∧ Ext w6 V ∧ ∀ j (h1 : j < (ints C).length) (h2 : j < (ints D).length), j < i → ¬ ((ints C)[j] < 0 ∧ (ints D)[j] = 0)) (fun x _ => (ints C).length - (intOf x).toNat) ⟨0, by omega, rfl, Ext.refl _, fun j _ _ hj => by omega⟩ ?_
  rintro h _ V hx34 ⟨i, hi, rfl, xV, hz⟩ K hK
  rw [hx34, bin_lss]
  have x3V := x36.trans xV
  refine Br_i (fun hb1 => ?_) fun hb1 => ?_
  · have hlt : i < (ints C).length := by have := dec_t hb1; omega
    have hlt2 : i < (ints D).length := by omega
    obtain ⟨a1, i1, g1⟩ := hx.at_ hlt
    obtain ⟨a2, i2, g2⟩ := hy.at_ hlt2
    refine join0 (fun U => U = V ∧ ¬ ((ints C)[i] < 0 ∧ (ints D)[i] = 0)) ?_ fun K1 hK1 => ?_
    · rintro _ U ⟨hU, hn⟩
      subst U
      rw [bin_add, i64_wrap (by omega) (by omega)]
      refine hK _ _ ⟨i + 1, by omega, by simp, xV, fun j h1 h2 hj => ?_⟩ (by simp [intOf]; omega)
      by_cases hji : j < i
      · exact hz j h1 h2 hji
      · have : j = i := by omega
        subst this
        exact hn
    · refine join1 (fun y U => ∃ t, y = .bool t ∧ U = V ∧ (t = false → ¬ ((ints C)[i] < 0 ∧ (ints D)[i] = 0))) ?_ fun K2 hK2 => ?_
      · rintro h2 y U hy2 ⟨t, rfl, hU, hf⟩
        subst U
        rw [hy2]
        exact Br_i (fun _ => hR _ _ ⟨rfl, x03.trans x3V⟩) fun hb => hK1 _ ⟨rfl, hf hb⟩
      rw [i1, g1 V xV, bin_lss]
      refine Gd_i (fun hn => ?_) fun hn => hK2 _ _ ⟨false, rfl, rfl, fun _ hh => dec_f hn hh.1⟩
      rw [i2, g2 V xV, bin_eql]
      exact hK2 _ _ ⟨_, rfl, rfl, fun ht hh => of_decide_eq_false ht hh.2⟩
  · have hie : i = (ints C).length := by have := dec_f hb1; omega
    have hdig := hone.digest (d := Dig.begin64) fun j h1 h2 => hz j h1 h2 (by omega)
    have x5V := (xW.trans x6).trans xV
    rw [SChart.g_all (hg V x3V)]
    refine callF_ret (chDigest_ret V (hc.ext (x03.trans x3V)) hok (hT.ext (x03.trans x3V))) ?_
    rintro _ v1 ⟨rfl, y1⟩
    have x5v1 := x5V.trans y1
    have dC : digestV C = (Dig.sum (ints C), 0) := by unfold digestV; rw [if_pos hG]
    rw [dC]
    dsimp only
    rw [ext2_0, ext2_1, SChart.g_all (ho v1 x5v1)]
    refine callF_ret (chDigest_ret v1 (hD5.ext x5v1) hokD (hT.ext (x03.trans (x35.trans x5v1)))) ?_
    rintro _ v2 ⟨rfl, y2⟩
    have x5v2 := x5v1.trans y2
    have x3v2 := x35.trans x5v2
    rw [ext2_0, ext2_1]
    refine join0 (fun U => U = v2 ∧ GoodC D) ?_ fun K1 hK1 => ?_
    · rintro _ U ⟨hU, hGD⟩
      subst U
      have dD : digestV D = (Dig.sum (ints D), 0) := by unfold digestV; rw [if_pos hGD]
      rw [dD]
      refine gd_t ?_
      rw [eql_u64 (by kernel_rfl), SChart.g_all (hg v2 x3v2), SChart.g_all (ho v2 x5v2)]
      refine callF_ret (refSame_ret v2 (hc.ext (x03.trans x3v2)) (hD5.ext x5v2) hS hSD) ?_
      rintro _ v3 ⟨rfl, y3⟩
      rw [eql_bool15]
      refine hR _ _ ⟨?_, (x03.trans x3v2).trans y3⟩
      rw [decide_eq_true]
      rw [decide_eq_decide]
      exact hdig
    · refine join1 (fun y U => y = .bool (decide (¬ (digestV D).2 = 0)) ∧ U = v2) ?_ fun K2 hK2 => ?_
      · rintro h2 y U hy2 ⟨rfl, hU⟩
        subst U
        rw [hy2]
        refine Br_i (fun hbad => ?_) fun hgood => ?_
        · have hn := of_decide_eq_true hbad
          have hnG : ¬ GoodC D := fun hGD => hn (by unfold digestV; rw [if_pos hGD])
          have dD : digestV D = (0, 1) := by unfold digestV; rw [if_neg hnG]
          rw [dD]
          refine gd_t ?_
          rw [bin_eql]; refine gd_d rfl ?_
          rw [bin_eql]; refine gd_d rfl ?_
          rw [SChart.g_all (ho v2 x5v2)]
          refine callF_ret (refChValid_ret v2 (hD5.ext x5v2)) ?_
          rintro _ v3 ⟨rfl, y3⟩
          rw [valid_f hnG, un_not]
          exact hR _ _ ⟨rfl, (x03.trans x3v2).trans y3⟩
        · have hn := of_decide_eq_false hgood
          refine hK1 _ ⟨rfl, ?_⟩
          by_cases hGD : GoodC D
          · exact hGD
          · exact absurd (by unfold digestV; rw [if_neg hGD]; decide) hn
      rw [bin_neq]
      refine Gd_i (fun _ => ?_) fun hb3 => by cases hb3
      rw [bin_neq]
      refine hK2 _ _ ⟨?_, rfl⟩
      simp
end Go.Proofs.YtdfpdfahcbflpabDoor
