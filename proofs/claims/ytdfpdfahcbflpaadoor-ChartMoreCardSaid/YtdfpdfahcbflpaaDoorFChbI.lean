/- The law ChartSquares. -/
import Derived.Test.YtdfpdfahcbflpaaDoorFChbH
set_option linter.unusedVariables false
set_option linter.unusedSimpArgs false
namespace Go.Proofs.YtdfpdfahcbflpaaDoor
set_option maxRecDepth 100000
set_option maxHeartbeats 16000000
open Sh Go.RowKit
theorem bool_ty15 : Tryd.prog.underlying 4 = some .bool := by kernel_rfl
theorem eql_bool15 {w : World} {K : Value → World → Prop} {X : List PanicEntry → World → Prop} {ox oy : Operand} {a b : Bool} : DoV Tryd.prog (binS .eql 4 ox oy (.bool a) (.bool b)) w K X = K (.bool (decide (a = b))) w :=
  DoV_ok (by cases a <;> cases b <;> simp [binS, eqGuard, run_eql_bool w _ _ _ bool_ty15])
namespace Cha
theorem sq_diff {C : Cht} {i : Int} : (highC C i).x - (lowC C i).x = C.size - 1 ∧ (highC C i).y - (lowC C i).y = C.size - 1 := by unfold highC; simp only; omega
theorem low_rng {C : Cht} {i : Int} (h : inC C i) : (-1000000000 ≤ (lowC C i).x ∧ (lowC C i).x ≤ 1000000000) ∧ (-1000000000 ≤ (lowC C i).y ∧ (lowC C i).y ≤ 1000000000) ∧ (-1000000000 ≤ (highC C i).x ∧ (highC C i).x ≤ 1000000000) ∧ (-1000000000 ≤ (highC C i).y ∧ (highC C i).y ≤ 1000000000) := by
  obtain ⟨_, _, _, _, c5, c6⟩ := low_bnd h
  have hz := h.1.1.2.2.2.1
  have p0 := Hul.place_iff.1 h.1.1.2.2.2.2.2.2.1
  simp only at p0
  unfold highC lowC
  simp only
  omega
open Classical in
noncomputable def inB (C : Cht) (x : SPoint) (i : Int) : Bool := decide (meets C x x i)
open Classical in
theorem inB_iff {C : Cht} {x : SPoint} {i : Int} : inB C x i = true ↔ meets C x x i := decide_eq_true_iff
end Cha
open Cha in
theorem ChartSquares_ret {s : SChart} {C : Cht} {x : SPoint} (w : World) (hc : ChartIs w s C) (hok : ChartOk C) (hxo : x.Ok) (hT : Tab w) : Ret Tryd.prog 3 #[.agg s.cells.toArray, .agg x.cells.toArray] w (TrueQ w) := by
  refine ret_of (fun _ _ => sh_landfalllaw15_ChartSquares_ok _ _) fun R hR => ?_
  unfold sh_landfalllaw15_ChartSquares
  refine box_i fun g w1 x1 hat1 hg1 _ => ?_
  refine box_i fun b3 w2 x2 hat2 hb2 _ => ?_
  have x02 := x1.trans x2
  refine callF_ret (head15_ret w2 (hT.ext x02)) ?_
  rintro _ w3 ⟨rfl, x3⟩
  have x03 := x02.trans x3
  have hc3 := hc.ext x03
  have hg : ∀ V, Ext w3 V → Has V g 0 s.cells := fun V y => has_of_at ((hat1.ext (x2.trans x3)).ext y)
  have hq : ∀ V, Ext w3 V → Has V b3 0 x.cells := fun V y => has_of_at ((hat2.ext x3).ext y)
  refine join0 (fun W => Ext w3 W ∧ GoodC C ∧ Hul.place x = true) ?_ fun K hK => ?_
  · rintro _ W ⟨xW, hG, hp⟩
    obtain ⟨_, hw, hh, hz, hwh, hmax, hp0, _⟩ := id hG.1
    have p0 := Hul.place_iff.1 hp0
    have px := Hul.place_iff.1 hp
    simp only at p0
    obtain ⟨e0, e1, e2⟩ := at_props hG hp
    have e3 := at_in hG hp
    rw [SChart.g_all (hg W xW), SPoint.g_all (hq W xW)]
    refine callF_ret (chAt_ret W (hc3.ext xW) hok hxo) ?_
    rintro _ w4 ⟨rfl, x4⟩
    generalize hav : atV C x = av at *
    obtain ⟨k, is, er⟩ := av
    simp only at e0 e1 e2 e3
    subst e0
    rw [ext3_0, ext3_1, ext3_2]
    have x34 := xW.trans x4
    have hle := hc.cells.le
    rw [SChart.g_cs (hg w4 x34), SCell.row_len (Sl.ext hc3.cells x34)]
    have hcl : C.cells.length ≤ 4000 := by omega
    refine loop3 (fun a b c V => ∃ i : Nat, i ≤ C.cells.length ∧ a = .bool true ∧ b = .int .i64 (if is = true ∧ k < i then 1 else 0) ∧ c = .int .i64 i ∧ Ext w3 V) (fun a b c _ => C.cells.length - (intOf c).toNat) ⟨0, by omega, rfl, ?_, rfl, x34⟩ ?_
    · rw [if_neg]
      rintro ⟨h1, h2⟩
      have := (e2 h1).1.1
      omega
    rintro h av bv cv V h5 h9 h35 ⟨i, hi, rfl, rfl, rfl, xV⟩ K1 hK1
    rw [h35, bin_lss]
    refine Br_i (fun hb => ?_) fun hb => ?_
    · have hlt : (i : Int) < C.cells.length := dec_t hb
      have hin : inC C i := ⟨hG, by omega, hlt⟩
      refine join2 (fun a b V2 => a = .bool true ∧ b = .int .i64 (if is = true ∧ k < ((i + 1 : Nat) : Int) then 1 else 0) ∧ Ext w3 V2) ?_ fun K2 hK2 => ?_
      · rintro h2 a b V2 ha hb2 ⟨rfl, rfl, xV2⟩
        rw [ha, hb2, bin_add, i64_wrap (by omega) (by omega)]
        exact hK1 _ _ _ _ ⟨i + 1, by omega, rfl, rfl, by simp, xV2⟩ (by simp [intOf]; omega)
      rw [SChart.g_all (hg V xV)]
      refine callF_ret (chSquare_ret (i := i) V (hc3.ext xV) hok ⟨by omega, by omega⟩) ?_
      rintro _ V3 ⟨rfl, y3⟩
      have hs : squareV C i = (lowC C i, highC C i, 0) := by unfold squareV; rw [if_pos hin]
      obtain ⟨lx, ly, hx', hy'⟩ := low_rng hin
      obtain ⟨d1, d2⟩ := @sq_diff C i
      rw [hs]
      dsimp only
      rw [ext3_0, ext3_1, ext3_2]
      refine two_new fun ba bb V4 y4 hata hatb => ?_
      have xV4 := (xV.trans y3).trans y4
      have ha := fun U (y : Ext V4 U) => has_of_at (hata.ext y)
      have hb' := fun U (y : Ext V4 U) => has_of_at (hatb.ext y)
      refine join0 (fun U => U = V4) ?_ fun K3 hK3 => ?_
      · rintro _ U hU
        subst U
        have qa := ha V4 (Ext.refl _)
        have qb := hb' V4 (Ext.refl _)
        have qx := hq V4 xV4
        refine join1 (fun a U => a = .bool (inB C x i) ∧ U = V4) ?_ fun K4 hK4 => ?_
        · rintro h3 a U h94 ⟨rfl, hU⟩
          subst U
          rw [h94]
          refine Br_i (fun hm => ?_) fun hm => ?_
          · have hme := inB_iff.1 hm
            obtain ⟨f1, f2⟩ := e1 i (by omega) hlt hme
            rw [h9, bin_add, i64_wrap (by split <;> omega) (by split <;> omega), h5]
            refine gd_t ?_
            rw [bin_eql]
            refine hK2 _ _ _ ⟨by rw [decide_eq_true f2], ?_, xV4⟩
            rw [if_neg (by omega), if_pos ⟨f1, by omega⟩]; rfl
          · rw [h5, h9]
            refine hK2 _ _ _ ⟨rfl, ?_, xV4⟩
            have hne : is = true → k ≠ i := fun h1 h2 => by
              have := (e2 h1).2
              rw [h2, ← inB_iff, hm] at this
              cases this
            congr 1
            by_cases h1 : is = true
            · have := hne h1
              by_cases h2 : k < (i : Int)
              · rw [if_pos ⟨h1, h2⟩, if_pos ⟨h1, by omega⟩]
              · rw [if_neg (fun h => h2 h.2), if_neg (fun h => by omega)]
            · rw [if_neg (fun h => h1 h.1), if_neg (fun h => h1 h.1)]
        have nom : ¬ meets C x x i → K4 [.bool false] V4 := fun hn => hK4 _ _ ⟨by
          cases hh : inB C x i with
          | false => rfl
          | true => exact absurd (inB_iff.1 hh) hn, rfl⟩
        unfold meets at nom
        rw [SPoint.g_x qa, SPoint.g_x qx, bin_leq]
        refine Gd_i (fun m1 => ?_) fun hb3 => nom fun hn => dec_f hb3 hn.2.1
        rw [SPoint.g_x qx, SPoint.g_x qb, bin_leq]
        refine Gd_i (fun m2 => ?_) fun hb3 => nom fun hn => dec_f hb3 hn.1
        rw [SPoint.g_y qa, SPoint.g_y qx, bin_leq]
        refine Gd_i (fun m3 => ?_) fun hb3 => nom fun hn => dec_f hb3 hn.2.2.2
        rw [SPoint.g_y qx, SPoint.g_y qb, bin_leq]
        refine hK4 _ _ ⟨?_, rfl⟩
        congr 1
        rw [Bool.eq_iff_iff, inB_iff, decide_eq_true_iff]
        exact ⟨fun hn => ⟨dec_t m2, dec_t m1, hn, dec_t m3⟩, fun hn => hn.2.2.1⟩
      · refine join1 (fun a U => a = .bool false ∧ U = V4) ?_ fun K4 hK4 => ?_
        · rintro h3 a U h68 ⟨rfl, hU⟩
          subst U
          rw [h68]
          exact br_f (hK3 _ rfl)
        have qa := ha V4 (Ext.refl _)
        have qb := hb' V4 (Ext.refl _)
        have qg := hg V4 xV4
        rw [bin_neq]
        refine Gd_i (fun _ => ?_) fun hb3 => by cases hb3
        rw [SPoint.g_x qb, SPoint.g_x qa, bin_sub, i64_wrap (by omega) (by omega), SChart.g_size qg, hc.size, bin_sub, i64_wrap (by omega) (by omega), bin_neq, decide_eq_true d1]
        refine Gd_i (fun _ => ?_) fun hb3 => by cases hb3
        rw [SPoint.g_y qb, SPoint.g_y qa, bin_sub, i64_wrap (by omega) (by omega), SChart.g_size qg, hc.size, bin_sub, i64_wrap (by omega) (by omega), bin_neq, decide_eq_true d2]
        exact hK4 _ _ ⟨rfl, rfl⟩
    · have hie : i = C.cells.length := by have := dec_f hb; omega
      have hmany : (if is = true ∧ k < (i : Int) then (1 : Int) else 0) = if is = true then 1 else 0 := by
        by_cases h1 : is = true
        · rw [if_pos ⟨h1, by have := (e2 h1).1; omega⟩, if_pos h1]
        · rw [if_neg (fun h => h1 h.1), if_neg h1]
      rw [hmany] at h9
      have qx := hq V xV
      have qg := hg V xV
      obtain ⟨b3', b4⟩ := mul_bnd hw hz
      obtain ⟨b5, b6⟩ := mul_bnd hh hz
      refine join1 (fun a U => a = .bool is ∧ U = V) ?_ fun K2 hK2 => ?_
      · rintro h3 a U h14 ⟨rfl, hU⟩
        subst U
        rw [h5, h9, h14]
        refine gd_t ?_
        rw [bin_eql]
        refine gd_d rfl ?_
        rw [eql_bool15]
        refine gd_d rfl ?_
        cases is with
        | true =>
          refine gd_t ?_
          rw [bin_eql]
          refine Gd_i (fun hb3 => by exact absurd hb3 (by decide)) fun _ => ?_
          exact hR _ _ ⟨rfl, x03.trans xV⟩
        | false =>
          refine Gd_i (fun hb3 => by cases hb3) fun _ => ?_
          rw [un_not]
          refine gd_t ?_
          rw [bin_eql]
          exact hR _ _ ⟨rfl, x03.trans xV⟩
      have nois : is = false → K2 [.bool false] V := fun hn => hK2 _ _ ⟨by rw [hn], rfl⟩
      have noin : ¬ (C.x ≤ x.x ∧ x.x < C.x + C.w * C.size ∧ C.y ≤ x.y ∧ x.y < C.y + C.h * C.size) → K2 [.bool false] V := fun hn => nois (by
        cases hh : is with
        | false => rfl
        | true => exact absurd (e3.1 hh) hn)
      rw [SPoint.g_x qx, SChart.g_x qg, hc.x, bin_geq]
      refine Gd_i (fun m1 => ?_) fun hb3 => noin fun hn => dec_f hb3 hn.1
      rw [SPoint.g_x qx, SChart.g_x qg, SChart.g_w qg, SChart.g_size qg, hc.x, hc.w, hc.size, bin_mul, i64_wrap (by omega) (by omega), bin_add, i64_wrap (by omega) (by omega), bin_lss]
      refine Gd_i (fun m2 => ?_) fun hb3 => noin fun hn => dec_f hb3 hn.2.1
      rw [SPoint.g_y qx, SChart.g_y qg, hc.y, bin_geq]
      refine Gd_i (fun m3 => ?_) fun hb3 => noin fun hn => dec_f hb3 hn.2.2.1
      rw [SPoint.g_y qx, SChart.g_y qg, SChart.g_h qg, SChart.g_size qg, hc.y, hc.h, hc.size, bin_mul, i64_wrap (by omega) (by omega), bin_add, i64_wrap (by omega) (by omega), bin_lss]
      refine hK2 _ _ ⟨?_, rfl⟩
      congr 1
      rw [Bool.eq_iff_iff, e3, decide_eq_true_iff]
      exact ⟨fun hn => ⟨dec_t m1, dec_t m2, dec_t m3, hn⟩, fun hn => hn.2.2.2⟩
  · refine join1 (fun y V => ∃ t, y = .bool t ∧ Ext w3 V ∧ (t = false → GoodC C ∧ Hul.place x = true)) ?_ fun K3 hK3 => ?_
    · rintro h2 _ V hx2 ⟨t, rfl, xV, hf⟩
      rw [hx2]
      exact Br_i (fun hb => hR _ _ ⟨rfl, x03.trans xV⟩) fun hb => hK _ ⟨xV, hf hb⟩
    rw [SChart.g_all (hg w3 (Ext.refl _))]
    refine callF_ret (usable_ret w3 hc3) ?_
    rintro _ w6 ⟨⟨t, rfl, ht⟩, x6⟩
    rw [un_not]
    refine Gd_i (fun b1 => ?_) fun hb => hK3 _ _ ⟨true, rfl, x6, fun ht => (by cases ht)⟩
    rw [SPoint.g_all (hq w6 x6)]
    refine callF_ret (Place_ret w6) ?_
    rintro _ w7 ⟨rfl, x7⟩
    rw [un_not]
    exact hK3 _ _ ⟨_, rfl, x6.trans x7, fun ht' => ⟨(ht.1 (nd b1)).2, nd ht'⟩⟩
end Go.Proofs.YtdfpdfahcbflpaaDoor
