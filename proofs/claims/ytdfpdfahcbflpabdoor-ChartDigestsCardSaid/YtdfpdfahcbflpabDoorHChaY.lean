/- chart.Valid. -/
import Derived.Test.YtdfpdfahcbflpabDoorHChaX
set_option linter.unusedVariables false
set_option linter.unusedSimpArgs false
namespace Go.Proofs.YtdfpdfahcbflpabDoor
set_option maxRecDepth 100000
set_option maxHeartbeats 16000000
open Sh Go.RowKit
theorem Sl.uniq {w : World} {sz n m : Nat} {v : Value} {xs ys : List Value} (h : Sl w sz v n xs) (h' : Sl w sz v m ys) : n = m ∧ xs = ys := by
  obtain ⟨a, c, rfl, _, _, l1, r1⟩ := h
  obtain ⟨a', c', e, _, _, l2, r2⟩ := h'
  injection e with e1 e2 e3
  subst e1 e2 e3
  refine ⟨rfl, ?_⟩
  rcases r1 with rfl | ⟨b, o, rfl, _, g1⟩
  · exact (List.eq_nil_of_length_eq_zero (by rw [l2, ← l1]; rfl)).symm
  · rcases r2 with rfl | ⟨b', o', e', _, g2⟩
    · exact List.eq_nil_of_length_eq_zero (by rw [l1, ← l2]; rfl)
    · injection e' with e'; injection e' with e1 e2
      subst e1 e2
      refine List.ext_getElem (by rw [l1, l2]) fun i h1 h2 => ?_
      have q1 := g1 i _ (List.getElem?_eq_getElem h1)
      have q2 := g2 i _ (List.getElem?_eq_getElem h2)
      rw [q1] at q2
      injection q2
theorem SPoint.row_uniq {w : World} {v : Value} {l m : List SPoint} (h : SPoint.Row w v l) (h' : SPoint.Row w v m) : l = m :=
  fl_inj SPoint.len SPoint.inj (by decide) (Sl.uniq h h').2
theorem LineIs.uniq {w : World} {s : SLine} {l m : Line} (h : LineIs w s l) (h' : LineIs w s m) : l = m :=
  Prod.ext (h.1.symm.trans h'.1) (SPoint.row_uniq h.2 h'.2)
namespace Cha
open Classical in
noncomputable def lineOk (w : World) (s : SLine) : Bool := decide (∃ l : Line, LineIs w s l ∧ pathOk l = true)
open Classical in
theorem lineOk_eq {w : World} {s : SLine} {l : Line} (h : LineIs w s l) : lineOk w s = pathOk l := by
  unfold lineOk
  rw [Bool.eq_iff_iff, decide_eq_true_iff]
  exact ⟨fun ⟨m, h1, h2⟩ => by rw [h.uniq h1]; exact h2, fun hp => ⟨l, h, hp⟩⟩
end Cha
theorem chAreLines_ret {v : Value} {l : List Line} (w : World) (hv : LinesIs w v l) (hok : ∀ x ∈ l, I64 x.1 ∧ ∀ p ∈ x.2, p.Ok) :
    Ret Tryd.prog 45 #[v, .int .i64 50, .func (.func 46) #[] #[], .func (.func 27) #[] #[]] w fun r w' => r = .bool (l.all Cha.pathOk && decide ((l.map (·.1)).Nodup) && decide ((l.length : Int) ≤ 50)) ∧ Ext w w' := by
  obtain ⟨ss, h1, h2, h3⟩ := hv
  have get : ∀ s ∈ ss, ∃ x ∈ l, LineIs w s x := by
    intro s hs
    obtain ⟨i, hi, rfl⟩ := List.mem_iff_getElem.1 hs
    exact ⟨l[i]'(by omega), List.getElem_mem _, h3 i _ _ (List.getElem?_eq_getElem hi) (List.getElem?_eq_getElem (by omega))⟩
  have e1 : ss.all (Cha.lineOk w) = l.all Cha.pathOk := by
    rw [Bool.eq_iff_iff, List.all_eq_true, List.all_eq_true]
    constructor
    · intro h x hx
      obtain ⟨i, hi, rfl⟩ := List.mem_iff_getElem.1 hx
      have hl := h3 i _ _ (List.getElem?_eq_getElem (by omega)) (List.getElem?_eq_getElem hi)
      rw [← Cha.lineOk_eq hl]
      exact h _ (List.getElem_mem _)
    · intro h s hs
      obtain ⟨x, hx, hl⟩ := get s hs
      rw [Cha.lineOk_eq hl]; exact h x hx
  have e2 : ss.map (·.id) = l.map (·.1) := by
    refine List.ext_getElem (by simp [h2]) fun i hi hi' => ?_
    simp only [List.getElem_map]
    simp only [List.length_map] at hi hi'
    exact (h3 i _ _ (List.getElem?_eq_getElem hi) (List.getElem?_eq_getElem hi')).1
  have := areLines_ret (ok := Cha.lineOk w) (fv := .func (.func 46) #[] #[]) (most := 50) w h1 (fun s hs => ?_) fun s hs W K X x hk => ?_
  · rw [e1, e2, h2] at this; exact this
  · obtain ⟨x, hx, hl⟩ := get s hs
    rw [hl.1]; exact (hok x hx).1
  · obtain ⟨y, hy, hl⟩ := get s hs
    rw [callV_func (by kernel_rfl)]
    refine callF_ret (chLine_ret W (hl.ext x) (hok y hy).2) ?_
    rintro _ W' ⟨rfl, x'⟩
    rw [← Cha.lineOk_eq hl]
    exact hk W' x'
open Cha in
theorem chValid_ret {s : SChart} {C : Cht} (w : World) (hc : ChartIs w s C) (hok : ChartOk C) : Ret Tryd.prog 22 #[.agg s.cells.toArray] w fun r w' => r = .bool (Cha.valid C) ∧ Ext w w' := by
  refine ret_of (fun _ _ => sh_chart_Valid_ok _) fun R hR => ?_
  unfold sh_chart_Valid
  refine box_i fun g w1 x1 hat _ _ => ?_
  have hg : ∀ W, Ext w1 W → Has W g 0 s.cells := fun W x => has_of_at (hat.ext x)
  have no : ∀ W, Ext w1 W → ¬ GoodC C → R (.returned (.bool false)) W := fun W x hn => hR _ _ ⟨by rw [valid_f hn], x1.trans x⟩
  have hle := hc.cells.le
  refine join0 (fun W => Ext w1 W ∧ isID C.ver = true ∧ (1 ≤ C.w ∧ C.w ≤ 4000) ∧ (1 ≤ C.h ∧ C.h ≤ 4000) ∧ (1 ≤ C.size ∧ C.size ≤ 10000) ∧ C.w * C.h = C.cells.length ∧ C.w * C.h ≤ 4000) ?_ fun K hK => ?_
  · rintro _ W ⟨xW, hv, hw, hh, hz, hwh, hmax⟩
    obtain ⟨b1, b2⟩ := mul_bnd hw hh
    obtain ⟨b3, b4⟩ := mul_bnd hw hz
    obtain ⟨b5, b6⟩ := mul_bnd hh hz
    refine join0 (fun V => Ext w1 V ∧ FrameP C) ?_ fun K2 hK2 => ?_
    · rintro _ V ⟨xV, hf⟩
      rw [SChart.g_cs (hg V xV)]
      refine callF_ret (badCells_ret V (Sl.ext hc.cells (x1.trans xV))) ?_
      rintro _ V2 ⟨rfl, x2⟩
      have x12 := xV.trans x2
      refine Br_i (fun hb => no _ x12 fun hn => ?_) fun hb => ?_
      · rw [hn.2.1] at hb; cases hb
      have hcs := nd hb
      rw [SChart.g_bs (hg V2 x12)]
      refine callF_ret (areBeacons_ret (ok := beaconOk) V2 (Sl.ext hc.beacons (x1.trans x12)) (fun b hb => (hok.beacons b hb).1) fun b hb W K X _ hk => ?_) ?_
      · rw [callV_func (by kernel_rfl)]
        refine callF_ret (valid2_ret15 (hok.beacons b hb) W) ?_
        rintro _ W' ⟨rfl, x⟩
        exact hk W' x
      rintro _ V3 ⟨rfl, x3⟩
      have x13 := x12.trans x3
      refine Gd_i (fun hb2 => ?_) fun hb2 => no _ x13 fun hn => ?_
      · simp only [Bool.and_eq_true, decide_eq_true_eq] at hb2
        rw [SChart.g_ls (hg V3 x13)]
        refine callF_ret (chAreLines_ret V3 (hc.lines.ext (x1.trans x13)) hok.lines) ?_
        rintro _ V4 ⟨rfl, x4⟩
        refine hR _ _ ⟨?_, x1.trans (x13.trans x4)⟩
        congr 1
        rw [Bool.eq_iff_iff, valid_iff]
        simp only [Bool.and_eq_true, decide_eq_true_eq]
        constructor
        · rintro ⟨⟨q1, q2⟩, q3⟩
          exact ⟨hf, hcs, ⟨hb2.1.1, hb2.1.2, by omega⟩, q1, q2, by omega⟩
        · rintro ⟨_, _, _, q1, q2, q3⟩
          exact ⟨⟨q1, q2⟩, by omega⟩
      · rw [hn.2.2.1.1, decide_eq_true hn.2.2.1.2.1, decide_eq_true (show (C.beacons.length : Int) ≤ 100 by have := hn.2.2.1.2.2; omega)] at hb2
        cases hb2
    · refine join1 (fun x V => ∃ t, x = .bool t ∧ Ext w1 V ∧ (t = true → ¬ FrameP C) ∧ (t = false → FrameP C)) ?_ fun K3 hK3 => ?_
      · rintro h2 _ V hx ⟨t, rfl, xV, ht, hf⟩
        rw [hx]
        exact Br_i (fun hb => no _ xV fun hn => ht hb hn.1) fun hb => hK2 _ ⟨xV, hf hb⟩
      rw [SChart.g_x (hg W xW), SChart.g_y (hg W xW), hc.x, hc.y, build_i (new_pt15 _ _)]
      refine callF_ret (chPlace_ret (p := ⟨C.x, C.y⟩) ⟨hok.nums.2.1, hok.nums.2.2.1⟩ W) ?_
      rintro _ V ⟨rfl, x2⟩
      have xV := xW.trans x2
      rw [un_not]
      refine Gd_i (fun hb => ?_) fun hb => hK3 _ _ ⟨true, rfl, xV, fun _ hf => ?_, fun ht => by cases ht⟩
      · have e3 := nd hb
        have hp := Hul.place_iff.1 e3
        simp only at hp
        rw [SChart.g_x (hg V xV), SChart.g_w (hg V xV), SChart.g_size (hg V xV), hc.x, hc.w, hc.size, bin_mul, i64_wrap (by omega) (by omega), bin_add, i64_wrap (by omega) (by omega), bin_sub, i64_wrap (by omega) (by omega)]
        rw [SChart.g_y (hg V xV), SChart.g_h (hg V xV), SChart.g_size (hg V xV), hc.y, hc.h, hc.size, bin_mul, i64_wrap (by omega) (by omega), bin_add, i64_wrap (by omega) (by omega), bin_sub, i64_wrap (by omega) (by omega), build_i (new_pt15 _ _)]
        refine callF_ret (chPlace_ret (p := ⟨C.x + C.w * C.size - 1, C.y + C.h * C.size - 1⟩) ⟨by unfold I64; simp only; omega, by unfold I64; simp only; omega⟩ V) ?_
        rintro _ V2 ⟨rfl, x3⟩
        rw [un_not]
        refine hK3 _ _ ⟨_, rfl, xV.trans x3, fun ht hf => ?_, fun ht => ⟨hv, hw, hh, hz, hwh, hmax, e3, nd ht⟩⟩
        rw [hf.2.2.2.2.2.2.2] at ht; cases ht
      · have := nf hb
        rw [hf.2.2.2.2.2.2.1] at this; cases this
  · refine join1 (fun x V => ∃ t, x = .bool t ∧ Ext w1 V ∧ (t = true → ¬ FrameP C) ∧ (t = false → isID C.ver = true ∧ (1 ≤ C.w ∧ C.w ≤ 4000) ∧ (1 ≤ C.h ∧ C.h ≤ 4000) ∧ (1 ≤ C.size ∧ C.size ≤ 10000) ∧ C.w * C.h = C.cells.length ∧ C.w * C.h ≤ 4000)) ?_ fun K3 hK3 => ?_
    · rintro h2 _ V hx ⟨t, rfl, xV, ht, hf⟩
      rw [hx]
      exact Br_i (fun hb => no _ xV fun hn => ht hb hn.1) fun hb => hK _ ⟨xV, hf hb⟩
    have bad : ∀ V, Ext w1 V → ¬ FrameP C → K3 [.bool true] V := fun V xV hn => hK3 _ _ ⟨true, rfl, xV, fun _ => hn, fun ht => by cases ht⟩
    rw [SChart.g_ver (hg w1 (Ext.refl _)), hc.ver]
    refine callF_ret (chID_ret _ w1) ?_
    rintro _ w2 ⟨rfl, x2⟩
    have h2 := hg w2 x2
    rw [un_not]
    refine Gd_i (fun b1 => ?_) fun hb => bad _ x2 fun hf => by have := nf hb; rw [hf.1] at this; cases this
    rw [SChart.g_w h2, hc.w, bin_lss]
    refine Gd_i (fun b2 => ?_) fun hb => bad _ x2 fun hf => by have := dec_t hb; have := hf.2.1; omega
    have b2 := dec_f b2
    rw [SChart.g_h h2, hc.h, bin_lss]
    refine Gd_i (fun b3 => ?_) fun hb => bad _ x2 fun hf => by have := dec_t hb; have := hf.2.2.1; omega
    have b3 := dec_f b3
    rw [SChart.g_w h2, hc.w, bin_gtr]
    refine Gd_i (fun b4 => ?_) fun hb => bad _ x2 fun hf => by have := dec_t hb; have := hf.2.1; omega
    have b4 := dec_f b4
    rw [SChart.g_h h2, hc.h, bin_gtr]
    refine Gd_i (fun b5 => ?_) fun hb => bad _ x2 fun hf => by have := dec_t hb; have := hf.2.2.1; omega
    have b5 := dec_f b5
    obtain ⟨m1, m2⟩ := mul_bnd (a := C.w) (b := C.h) (A := 4000) (B := 4000) (by omega) (by omega)
    rw [SChart.g_w h2, SChart.g_h h2, hc.w, hc.h, bin_mul, i64_wrap (by omega) (by omega), SChart.g_cs h2, SCell.row_len (Sl.ext hc.cells (x1.trans x2)), bin_neq]
    refine Gd_i (fun b6 => ?_) fun hb => bad _ x2 fun hf => by have := of_decide_eq_false (nf hb); exact this hf.2.2.2.2.1
    have b6 : C.w * C.h = (C.cells.length : Int) := of_decide_eq_true (nd b6)
    rw [SChart.g_cs h2, SCell.row_len (Sl.ext hc.cells (x1.trans x2)), bin_gtr]
    refine Gd_i (fun b7 => ?_) fun hb => bad _ x2 fun hf => by have := dec_t hb; have := hf.2.2.2.2.2.1; omega
    have b7 := dec_f b7
    rw [SChart.g_size h2, hc.size, bin_lss]
    refine Gd_i (fun b8 => ?_) fun hb => bad _ x2 fun hf => by have := dec_t hb; have := hf.2.2.2.1; omega
    have b8 := dec_f b8
    rw [SChart.g_size h2, hc.size, bin_gtr]
    refine hK3 _ _ ⟨_, rfl, x2, fun ht hf => ?_, fun ht => ⟨nd b1, ⟨by omega, by omega⟩, ⟨by omega, by omega⟩, ⟨by omega, ?_⟩, b6, by omega⟩⟩
    · have := of_decide_eq_true ht; have := hf.2.2.2.1; omega
    · have := of_decide_eq_false ht; omega
end Go.Proofs.YtdfpdfahcbflpabDoor
