/- Charts; the reference's frame and Valid. -/
import Derived.Test.YtdfpdfahcbflpabDoorHChaS
set_option linter.unusedVariables false
set_option linter.unusedSimpArgs false
namespace Go.Proofs.YtdfpdfahcbflpabDoor
set_option maxRecDepth 100000
set_option maxHeartbeats 16000000
open Sh Go.RowKit
structure Cht where
  ver : Int
  x : Int
  y : Int
  w : Int
  h : Int
  size : Int
  cells : List SCell
  beacons : List SBeacon
  lines : List Line
structure ChartIs (W : World) (s : SChart) (C : Cht) : Prop where
  ver : s.ver = C.ver
  x : s.x = C.x
  y : s.y = C.y
  w : s.w = C.w
  h : s.h = C.h
  size : s.size = C.size
  cells : SCell.Row W s.cs.val C.cells
  beacons : SBeacon.Row W s.bs.val C.beacons
  lines : LinesIs W s.ls.val C.lines
theorem ChartIs.ext {w w' : World} {s : SChart} {C : Cht} (h : ChartIs w s C) (x : Ext w w') : ChartIs w' s C :=
  ⟨h.ver, h.x, h.y, h.w, h.h, h.size, Sl.ext h.cells x, Sl.ext h.beacons x, h.lines.ext x⟩
structure ChartOk (C : Cht) : Prop where
  nums : I64 C.ver ∧ I64 C.x ∧ I64 C.y ∧ I64 C.w ∧ I64 C.h ∧ I64 C.size
  cells : ∀ c ∈ C.cells, c.Ok
  beacons : ∀ b ∈ C.beacons, b.Ok
  lines : ∀ l ∈ C.lines, I64 l.1 ∧ ∀ p ∈ l.2, p.Ok
namespace Cha
def FrameP (C : Cht) : Prop := isID C.ver = true ∧ (1 ≤ C.w ∧ C.w ≤ 4000) ∧ (1 ≤ C.h ∧ C.h ≤ 4000) ∧ (1 ≤ C.size ∧ C.size ≤ 10000) ∧ C.w * C.h = C.cells.length ∧ C.w * C.h ≤ 4000 ∧ Hul.place ⟨C.x, C.y⟩ = true ∧ Hul.place ⟨C.x + C.w * C.size - 1, C.y + C.h * C.size - 1⟩ = true
def GoodC (C : Cht) : Prop := FrameP C ∧ C.cells.all cellOk = true ∧ (C.beacons.all beaconOk = true ∧ (C.beacons.map (·.id)).Nodup ∧ C.beacons.length ≤ 100) ∧ (C.lines.all pathOk = true ∧ (C.lines.map (·.1)).Nodup ∧ C.lines.length ≤ 50)
open Classical in
noncomputable def frame (C : Cht) : Bool := decide (FrameP C)
open Classical in
noncomputable def valid (C : Cht) : Bool := decide (GoodC C)
open Classical in
theorem frame_iff {C : Cht} : frame C = true ↔ FrameP C := by unfold frame; exact decide_eq_true_iff
open Classical in
theorem valid_iff {C : Cht} : valid C = true ↔ GoodC C := by unfold valid; exact decide_eq_true_iff
theorem frame_f {C : Cht} (h : ¬ FrameP C) : frame C = false := by cases hq : frame C with
  | false => rfl
  | true => exact absurd (frame_iff.1 hq) h
theorem valid_f {C : Cht} (h : ¬ GoodC C) : valid C = false := by cases hq : valid C with
  | false => rfl
  | true => exact absurd (valid_iff.1 hq) h
theorem mul_bnd {a b A B : Int} (ha : 1 ≤ a ∧ a ≤ A) (hb : 1 ≤ b ∧ b ≤ B) : 1 ≤ a * b ∧ a * b ≤ A * B :=
  ⟨by have := Int.mul_le_mul ha.1 hb.1 (by omega) (by omega); simpa using this, Int.mul_le_mul ha.2 hb.2 (by omega) (by omega)⟩
theorem nd {p : Bool} (h : (!p) = false) : p = true := by cases p <;> simp_all
theorem nf {p : Bool} (h : (!p) = !false) : p = false := by cases p <;> simp_all
end Cha
theorem new_pt15 (a b : Int) : Tryd.prog.built 31 [(0, .int .i64 a), (1, .int .i64 b)] = some (SPoint.mk a b).cells.toArray := by kernel_rfl
open Cha in
theorem refFrame_ret {s : SChart} {C : Cht} (w : World) (hc : ChartIs w s C) : Ret Tryd.prog 33 #[.agg s.cells.toArray] w fun r w' => r = .bool (Cha.frame C) ∧ Ext w w' := by
  refine ret_of (fun _ _ => sh_landfallref15_frame_ok _) fun R hR => ?_
  unfold sh_landfallref15_frame
  refine box_i fun g w1 x1 hat _ _ => ?_
  have hg : ∀ W, Ext w1 W → Has W g 0 s.cells := fun W x => has_of_at (hat.ext x)
  have no : ∀ W, Ext w1 W → ¬ FrameP C → R (.returned (.bool false)) W := fun W x hn => hR _ _ ⟨by rw [frame_f hn], x1.trans x⟩
  refine join0 (fun W => Ext w1 W ∧ isID C.ver = true ∧ (1 ≤ C.w ∧ C.w ≤ 4000) ∧ (1 ≤ C.h ∧ C.h ≤ 4000) ∧ (1 ≤ C.size ∧ C.size ≤ 10000)) ?_ fun K hK => ?_
  · rintro _ W ⟨xW, hv, hw, hh, hz⟩
    obtain ⟨b1, b2⟩ := mul_bnd hw hh
    obtain ⟨b3, b4⟩ := mul_bnd hw hz
    obtain ⟨b5, b6⟩ := mul_bnd hh hz
    refine join0 (fun V => Ext w1 V ∧ C.w * C.h = C.cells.length ∧ C.w * C.h ≤ 4000 ∧ Hul.place ⟨C.x, C.y⟩ = true) ?_ fun K2 hK2 => ?_
    · rintro _ V ⟨xV, e1, e2, e3⟩
      have hp := Hul.place_iff.1 e3
      simp only at hp
      rw [SChart.g_x (hg V xV), SChart.g_w (hg V xV), SChart.g_size (hg V xV), hc.x, hc.w, hc.size, bin_mul, i64_wrap (by omega) (by omega), bin_add, i64_wrap (by omega) (by omega), bin_sub, i64_wrap (by omega) (by omega)]
      rw [SChart.g_y (hg V xV), SChart.g_h (hg V xV), SChart.g_size (hg V xV), hc.y, hc.h, hc.size, bin_mul, i64_wrap (by omega) (by omega), bin_add, i64_wrap (by omega) (by omega), bin_sub, i64_wrap (by omega) (by omega), build_i (new_pt15 _ _)]
      refine callF_ret (Place_ret V) ?_
      rintro _ V2 ⟨rfl, x2⟩
      refine hR _ _ ⟨?_, (x1.trans xV).trans x2⟩
      cases hq : Hul.place ⟨C.x + C.w * C.size - 1, C.y + C.h * C.size - 1⟩ with
      | true => rw [frame_iff.2 ⟨hv, hw, hh, hz, e1, e2, e3, hq⟩]
      | false => rw [frame_f fun hf => by rw [hf.2.2.2.2.2.2.2] at hq; cases hq]
    refine join1 (fun x V => ∃ t, x = .bool t ∧ Ext w1 V ∧ (t = true → ¬ FrameP C) ∧ (t = false → C.w * C.h = C.cells.length ∧ C.w * C.h ≤ 4000 ∧ Hul.place ⟨C.x, C.y⟩ = true)) ?_ fun K3 hK3 => ?_
    · rintro h2 _ V hx ⟨t, rfl, xV, ht, hf⟩
      rw [hx]
      exact Br_i (fun hb => no _ xV (ht hb)) fun hb => hK2 _ ⟨xV, hf hb⟩
    rw [SChart.g_w (hg W xW), SChart.g_h (hg W xW), hc.w, hc.h, bin_mul, i64_wrap (by omega) (by omega), SChart.g_cs (hg W xW), SCell.row_len (Sl.ext hc.cells (x1.trans xW)), bin_neq]
    refine Gd_i (fun hb => ?_) fun hb => hK3 _ _ ⟨true, rfl, xW, fun _ hf => ?_, fun ht => by cases ht⟩
    · have e1 : C.w * C.h = C.cells.length := of_decide_eq_true (nd hb)
      rw [SChart.g_w (hg W xW), SChart.g_h (hg W xW), hc.w, hc.h, bin_mul, i64_wrap (by omega) (by omega), bin_gtr]
      refine Gd_i (fun hb => ?_) fun hb => hK3 _ _ ⟨true, rfl, xW, fun _ hf => ?_, fun ht => by cases ht⟩
      · have e2 : C.w * C.h ≤ 4000 := by have := dec_f hb; omega
        rw [SChart.g_x (hg W xW), SChart.g_y (hg W xW), hc.x, hc.y, build_i (new_pt15 _ _)]
        refine callF_ret (Place_ret W) ?_
        rintro _ V ⟨rfl, x2⟩
        rw [un_not]
        refine hK3 _ _ ⟨_, rfl, xW.trans x2, fun ht hf => ?_, fun ht => ⟨e1, e2, nd ht⟩⟩
        rw [hf.2.2.2.2.2.2.1] at ht; cases ht
      · have := dec_t hb
        have := hf.2.2.2.2.2.1
        omega
    · have hn : ¬ (C.w * C.h = (C.cells.length : Int)) := of_decide_eq_false (nf hb)
      exact hn hf.2.2.2.2.1
  · refine join1 (fun x V => ∃ t, x = .bool t ∧ Ext w1 V ∧ (t = true → ¬ FrameP C) ∧ (t = false → isID C.ver = true ∧ (1 ≤ C.w ∧ C.w ≤ 4000) ∧ (1 ≤ C.h ∧ C.h ≤ 4000) ∧ (1 ≤ C.size ∧ C.size ≤ 10000))) ?_ fun K3 hK3 => ?_
    · rintro h2 _ V hx ⟨t, rfl, xV, ht, hf⟩
      rw [hx]
      exact Br_i (fun hb => no _ xV (ht hb)) fun hb => hK _ ⟨xV, hf hb⟩
    have bad : ∀ V, Ext w1 V → ¬ FrameP C → K3 [.bool true] V := fun V xV hn => hK3 _ _ ⟨true, rfl, xV, fun _ => hn, fun ht => by cases ht⟩
    rw [SChart.g_ver (hg w1 (Ext.refl _)), hc.ver]
    refine callF_ret (refIn15_ret _ _ _ w1) ?_
    rintro _ w2 ⟨rfl, x2⟩
    rw [un_not]
    refine Gd_i (fun b1 => ?_) fun hb => bad _ x2 fun hf => by have h1 := of_decide_eq_true hf.1; exact of_decide_eq_false (nf hb) h1
    rw [SChart.g_w (hg w2 x2), hc.w]
    refine callF_ret (refIn15_ret _ _ _ w2) ?_
    rintro _ w3 ⟨rfl, x3⟩
    have x13 := x2.trans x3
    rw [un_not]
    refine Gd_i (fun b2 => ?_) fun hb => bad _ x13 fun hf => of_decide_eq_false (nf hb) hf.2.1
    rw [SChart.g_h (hg w3 x13), hc.h]
    refine callF_ret (refIn15_ret _ _ _ w3) ?_
    rintro _ w4 ⟨rfl, x4⟩
    have x14 := x13.trans x4
    rw [un_not]
    refine Gd_i (fun b3 => ?_) fun hb => bad _ x14 fun hf => of_decide_eq_false (nf hb) hf.2.2.1
    rw [SChart.g_size (hg w4 x14), hc.size]
    refine callF_ret (refIn15_ret _ _ _ w4) ?_
    rintro _ w5 ⟨rfl, x5⟩
    rw [un_not]
    refine hK3 _ _ ⟨_, rfl, x14.trans x5, fun ht hf => ?_, fun ht => ⟨nd b1, of_decide_eq_true (nd b2), of_decide_eq_true (nd b3), of_decide_eq_true (nd ht)⟩⟩
    rw [decide_eq_true hf.2.2.2.1] at ht; cases ht
open Cha in
theorem refChValid_ret {s : SChart} {C : Cht} (w : World) (hc : ChartIs w s C) : Ret Tryd.prog 14 #[.agg s.cells.toArray] w fun r w' => r = .bool (Cha.valid C) ∧ Ext w w' := by
  refine ret_of (fun _ _ => sh_landfallref15_Valid_ok _) fun R hR => ?_
  unfold sh_landfallref15_Valid
  refine box_i fun g w1 x1 hat _ _ => ?_
  have hg : ∀ W, Ext w1 W → Has W g 0 s.cells := fun W x => has_of_at (hat.ext x)
  have no : ∀ W, Ext w1 W → ¬ GoodC C → R (.returned (.bool false)) W := fun W x hn => hR _ _ ⟨by rw [valid_f hn], x1.trans x⟩
  have hle := hc.cells.le
  refine join0 (fun W => Ext w1 W ∧ FrameP C ∧ (C.beacons.all beaconOk = true ∧ (C.beacons.map (·.id)).Nodup ∧ C.beacons.length ≤ 100) ∧ (C.lines.all pathOk = true ∧ (C.lines.map (·.1)).Nodup ∧ C.lines.length ≤ 50)) ?_ fun K hK => ?_
  · rintro _ W ⟨xW0, hf, hbs, hls⟩
    refine loop1 (fun x W => ∃ k : Nat, k ≤ C.cells.length ∧ x = .int .i64 k ∧ Ext w1 W ∧ (C.cells.take k).all cellOk = true) (fun x _ => C.cells.length - (intOf x).toNat) ⟨0, by omega, rfl, xW0, by simp⟩ ?_
    rintro hh _ W hx ⟨k, hk, rfl, xW, hall⟩ K2 hK2
    rw [SChart.g_cs (hg W xW), SCell.row_len (Sl.ext hc.cells (x1.trans xW)), hx, bin_lss]
    refine Br_i (fun hb => ?_) fun hb => ?_
    · have hlt : k < C.cells.length := by have := dec_t hb; omega
      have hmem := List.getElem_mem hlt
      obtain ⟨pb, po, hhp, _, hix⟩ := SCell.row_at hc.cells hlt
      rw [SChart.g_cs (hg W xW), hix, SCell.g_all (hhp W (x1.trans xW))]
      refine callF_ret (refCell_ret _ W) ?_
      rintro _ w5 ⟨rfl, x5⟩
      rw [un_not]
      refine Br_i (fun hb => no _ (xW.trans x5) fun hn => ?_) fun hb => ?_
      · rw [List.all_eq_true.1 hn.2.1 _ hmem] at hb; cases hb
      · rw [bin_add, i64_wrap (by omega) (by omega)]
        refine hK2 _ _ ⟨k + 1, by omega, by simp, xW.trans x5, ?_⟩ (by simp [intOf]; omega)
        rw [List.take_succ_eq_append_getElem hlt, List.all_append, hall]; simp [nd hb]
    · have hke : k = C.cells.length := by have := dec_f hb; omega
      subst hke
      rw [List.take_length] at hall
      exact hR _ _ ⟨by rw [valid_iff.2 ⟨hf, hall, hbs, hls⟩], x1.trans xW⟩
  · refine join1 (fun x V => ∃ t, x = .bool t ∧ Ext w1 V ∧ (t = true → ¬ GoodC C) ∧ (t = false → FrameP C ∧ (C.beacons.all beaconOk = true ∧ (C.beacons.map (·.id)).Nodup ∧ C.beacons.length ≤ 100) ∧ (C.lines.all pathOk = true ∧ (C.lines.map (·.1)).Nodup ∧ C.lines.length ≤ 50))) ?_ fun K3 hK3 => ?_
    · rintro h2 _ V hx ⟨t, rfl, xV, ht, hf⟩
      rw [hx]
      exact Br_i (fun hb => no _ xV (ht hb)) fun hb => hK _ ⟨xV, hf hb⟩
    have bad : ∀ V, Ext w1 V → ¬ GoodC C → K3 [.bool true] V := fun V xV hn => hK3 _ _ ⟨true, rfl, xV, fun _ => hn, fun ht => by cases ht⟩
    rw [SChart.g_all (hg w1 (Ext.refl _))]
    refine callF_ret (refFrame_ret w1 (hc.ext x1)) ?_
    rintro _ w2 ⟨rfl, x2⟩
    rw [un_not]
    refine Gd_i (fun b1 => ?_) fun hb => bad _ x2 fun hn => ?_
    · rw [SChart.g_bs (hg w2 x2)]
      refine callF_ret (refBeacons_ret w2 (Sl.ext hc.beacons (x1.trans x2))) ?_
      rintro _ w3 ⟨rfl, x3⟩
      have x13 := x2.trans x3
      rw [un_not]
      refine Gd_i (fun b2 => ?_) fun hb => bad _ x13 fun hn => ?_
      · rw [SChart.g_ls (hg w3 x13)]
        refine callF_ret (refLines_ret w3 (hc.lines.ext (x1.trans x13))) ?_
        rintro _ w4 ⟨rfl, x4⟩
        rw [un_not]
        have e2 := nd b2
        simp only [Bool.and_eq_true, decide_eq_true_eq] at e2
        refine hK3 _ _ ⟨_, rfl, x13.trans x4, fun ht hn => ?_, fun ht => ?_⟩
        · rw [hn.2.2.2.1, decide_eq_true hn.2.2.2.2.1, decide_eq_true (show (C.lines.length : Int) ≤ 50 by have := hn.2.2.2.2.2; omega)] at ht
          cases ht
        · have e3 := nd ht
          simp only [Bool.and_eq_true, decide_eq_true_eq] at e3
          exact ⟨frame_iff.1 (nd b1), ⟨e2.1.1, e2.1.2, by omega⟩, ⟨e3.1.1, e3.1.2, by omega⟩⟩
      · have e := nf hb
        rw [hn.2.2.1.1, decide_eq_true hn.2.2.1.2.1, decide_eq_true (show (C.beacons.length : Int) ≤ 100 by have := hn.2.2.1.2.2; omega)] at e
        cases e
    · have e := nf hb
      rw [frame_iff.2 hn.1] at e; cases e
end Go.Proofs.YtdfpdfahcbflpabDoor
