/- The laws EditionMatchesReference, EditionRight. -/
import Derived.Test.YtnbcdaonkdffkaaGreatDoorEEdnC
set_option linter.unusedVariables false
set_option linter.unusedSimpArgs false
namespace Go.Proofs.YtnbcdaonkdffkaaGreatDoor
set_option maxRecDepth 100000
set_option maxHeartbeats 16000000
open Sh Go.RowKit Edi Cha
theorem no_size : SizeP noC := ⟨by decide, by decide, by decide, fun _ h => by cases h⟩
theorem makeV_size {C : Cht} {l : List Int} {s o : Int} : SizeP (makeV C l s o).2.1 := by
  rcases makeV_cases C l s o with h | ⟨e, _, h⟩
  · rw [makeV_ok h]; exact good_size (next_good h.good h.ver)
  · rw [h]; exact no_size
theorem applyB_good {C : Cht} {I : Iss} {p : Int} (h : ∀ j, j < 6 → applyB C I p j = true) : GoodC C ∧ Sig.member p = true ∧ I.ver = C.ver + 1 ∧ C.ver < 1000000 ∧ I.before = (digestV C).1 ∧ VoidsP C I.void ∧ I.after = (digestV (nextC C I.void)).1 := by
  have h0 := h 0 (by omega)
  have h1 := h 1 (by omega)
  have h2 := h 2 (by omega)
  have h3 := h 3 (by omega)
  have h4 := h 4 (by omega)
  rw [applyB_0, Bool.and_eq_true] at h0
  rw [applyB_1, Bool.and_eq_true, decide_eq_true_eq, decide_eq_true_eq] at h1
  rw [applyB_2, decide_eq_true_eq] at h2
  rw [applyB_3] at h3
  rw [applyB_4, decide_eq_true_eq] at h4
  exact ⟨valid_iff.1 h0.1, h0.2, h1.1, by omega, h2, voids_iff.1 h3, h4⟩
theorem applyV_size {C : Cht} {I : Iss} {p : Int} : SizeP (applyV C I p).1 := by
  rcases apply_cases C I p with ⟨h, e, _⟩ | ⟨k, _, _, _, e, _⟩
  · rw [e]
    have hg := applyB_good h
    exact good_size (next_good hg.1 hg.2.2.2.1)
  · rw [e]; exact no_size
theorem EditionMatchesReference_ret {c : SChart} {C : Cht} {v : Value} {l : List Int} {s o p : Int} {i : SIssue} {I : Iss} (w : World) (hc : ChartIs w c C) (hok : ChartOk C) (hv : IntsIs w v l) (hl : ∀ n ∈ l, I64 n) (hi : IssueIs w i I) (hIok : IssueOk I) (hT : Tab w) :
    Ret Tryz.prog 4 #[.agg c.cells.toArray, v, .int .i64 s, .int .i64 o, .agg i.cells.toArray, .int .i64 p] w (TrueQ w) := by
  refine ret_of (fun _ _ => sh_landfalllaw29_EditionMatchesReference_ok _ _ _ _ _ _) fun R hR => ?_
  unfold sh_landfalllaw29_EditionMatchesReference
  refine box_i fun g w1 x1 hat1 hg1 _ => ?_
  refine box_i fun b10 w2 x2 hat2 hg2 _ => ?_
  have hat1 : At w1 g (.cells c.cells.toArray 26 (0, 0)) := hat1
  have hat2 : At w2 b10 (.cells i.cells.toArray 55 (0, 0)) := hat2
  have x02 := x1.trans x2
  refine callF_ret (head29_ret w2 (hT.ext x02)) ?_
  rintro _ w3 ⟨rfl, x3⟩
  have x03 := x02.trans x3
  have h1 := hat1.ext (x2.trans x3)
  have h2 := hat2.ext x3
  have hg : ∀ V, Ext w3 V → Has V g 0 c.cells := fun V x => has_of_at (h1.ext x)
  have hb : ∀ V, Ext w3 V → Has V b10 0 i.cells := fun V x => has_of_at (h2.ext x)
  refine join0 (fun W => Ext w3 W ∧ l.length ≤ 60 ∧ I.void.length ≤ 60) ?_ fun K4 hK4 => ?_
  · rintro _ W ⟨xW, hn, hn2⟩
    have x0W := x03.trans xW
    rw [SChart.g_all (hg W xW)]
    refine callF_ret (ediMake_ret (s := s) (o := o) w W x0W (hc.ext x0W) (hc.pts.ext x0W) hok (hv.ext x0W) hl hn (hT.ext x0W)) ?_
    rintro _ w4 ⟨⟨t, u, rfl, ht, hu⟩, x4⟩
    rw [ext3_0, ext3_1, ext3_2]
    refine pair_new fun b14 b15 w5 x5 hat14 hat15 hb14 hb15 _ => ?_
    have x35 := (xW.trans x4).trans x5
    have x05 := x03.trans x35
    rw [SChart.g_all (hg w5 x35)]
    refine callF_ret (refMake_ret (s := s) (o := o) w w5 x05 hc hok (hv.ext x05) hl hn) ?_
    rintro _ w6 ⟨⟨t', u', rfl, ht', hu'⟩, x6⟩
    rw [ext3_0, ext3_1, ext3_2]
    refine pair_new fun b17 b18 w7 x7 hat17 hat18 hb17 hb18 _ => ?_
    have x37 := (x35.trans x6).trans x7
    have x57 := x6.trans x7
    have l14 := hat14.lt
    have l15 := hat15.lt
    have l18 := hat18.lt
    have z0W := x0W.size
    have z4 := x4.size
    have z5 := x5.size
    have z6 := x6.size
    have z7 := x7.size
    refine join1 (fun q V => q = .bool true ∧ Ext w7 V) ?_ fun K35 hK35 => ?_
    · rintro _ _ V hq ⟨rfl, xV⟩
      have x3V := x37.trans xV
      have x0V := x03.trans x3V
      rw [SChart.g_all (hg V x3V), SIssue.g_all (hb V x3V)]
      refine callF_ret (ediCheck_ret (p := p) V (hc.ext x0V) hok (hi.ext x0V) hIok hn2 (hT.ext x0V)) ?_
      rintro _ V1 ⟨rfl, y1⟩
      have x3V1 := x3V.trans y1
      have x0V1 := x03.trans x3V1
      rw [ext2_0, ext2_1, SChart.g_all (hg V1 x3V1), SIssue.g_all (hb V1 x3V1)]
      refine callF_ret (refCheck29_ret (p := p) V1 fun V' x' => refApply_ret V' V' (Ext.refl _) (hc.ext (x0V1.trans x')) hok (hi.ext (x0V1.trans x')) hIok hn2) ?_
      rintro _ V2 ⟨rfl, y2⟩
      have x3V2 := x3V1.trans y2
      have x0V2 := x03.trans x3V2
      rw [ext2_0, ext2_1]
      have x7V2 := (xV.trans y1).trans y2
      refine join1 (fun q V => q = .bool true ∧ V = V2) ?_ fun K54 hK54 => ?_
      · rintro _ _ V hq2 ⟨rfl, hV⟩
        subst V
        rw [SChart.g_all (hg V2 x3V2), SIssue.g_all (hb V2 x3V2)]
        refine callF_ret (ediApply_ret (p := p) w V2 x0V2 (hc.ext x0V2) (hc.pts.ext x0V2) hok (hi.ext x0V2) hIok hn2 hT) ?_
        rintro _ V3 ⟨⟨y, rfl, hy⟩, y3⟩
        rw [ext2_0, ext2_1]
        have x7V3 := x7V2.trans y3
        refine SChart.set (r := u) (hat15.ext (x57.trans x7V3)) fun V4 m4 h15 s4 => ?_
        have x4V3 : Ext w4 V3 := (x5.trans x57).trans x7V3
        have x4V4 : Ext w4 V4 := ((Mod.of_ext x4V3 : Mod (w4.heap.size ≤ ·) w4 V3).trans (m4.mono fun k _ h => by omega)).new
        have x3V4 : Ext w3 V4 := (xW.trans x4).trans x4V4
        have x0V4 := x03.trans x3V4
        have q7 := x7V2.size
        have b1518 : b18 ≠ b15 := by omega
        have h18 := (hat18.ext x7V3).mod m4 b1518
        rw [SChart.g_all (hg V4 x3V4), SIssue.g_all (hb V4 x3V4)]
        refine callF_ret (refApply_ret (p := p) w V4 x0V4 hc hok (hi.ext x0V4) hIok hn2) ?_
        rintro _ V5 ⟨⟨y', rfl, hy'⟩, y5⟩
        rw [ext2_0, ext2_1]
        have q4 := m4.size
        have q3 := y3.size
        refine SChart.set (r := u') (h18.ext y5) fun V6 m6 h18' s6 => ?_
        have h15' := (h15.ext y5).mod m6 (fun e => b1518 e.symm)
        have hyF := ((hy.mod (m4.mono fun k _ h => by omega)).mod (Mod.of_ext y5)).mod (m6.mono fun k _ h => by omega)
        have hyF' := hy'.mod (m6.mono fun k _ h => by omega)
        have x0V6 : Ext w V6 := ((Mod.of_ext (x0V4.trans y5) : Mod (w.heap.size ≤ ·) w V5).trans (m6.mono fun k _ h => by omega)).new
        rw [hq2]
        refine Gd_i (fun _ => ?_) fun hb => by cases hb
        rw [SChart.g_all (has_of_at h15'), SChart.g_all (has_of_at h18')]
        refine callF_ret (refSame_ret V6 hyF.is hyF'.is applyV_size applyV_size) ?_
        rintro _ V7 ⟨rfl, y7⟩
        refine gd_d rfl ?_
        rw [bin_eql]
        exact hR _ _ ⟨by rw [decide_eq_true rfl], x0V6.trans y7⟩
      · rw [hq]
        refine Gd_i (fun _ => ?_) fun hb => by cases hb
        rw [eql_bool15]
        refine gd_d rfl ?_
        rw [bin_eql]
        exact hK54 _ _ ⟨by rw [decide_eq_true rfl], rfl⟩
    · refine Gd_i (fun _ => ?_) fun hb => by cases hb
      have g14 := has_of_at (hat14.ext x57)
      rw [SIssue.g_all g14, SIssue.g_all (has_of_at hat17)]
      refine callF_ret (refIssSame_ret w7 (ht.ext (x5.trans x57)) (ht'.ext x7)) ?_
      rintro _ w8 ⟨rfl, x8⟩
      refine Gd_i (fun _ => ?_) fun hb => by cases hb
      rw [SChart.g_all (has_of_at ((hat15.ext x57).ext x8)), SChart.g_all (has_of_at (hat18.ext x8))]
      refine callF_ret (refSame_ret w8 (hu.mod (Mod.of_ext ((x5.trans x57).trans x8))).is (hu'.mod (Mod.of_ext (x7.trans x8))).is makeV_size makeV_size) ?_
      rintro _ w9 ⟨rfl, x9⟩
      refine gd_d rfl ?_
      rw [bin_eql]
      exact hK35 _ _ ⟨by rw [decide_eq_true rfl], x8.trans x9⟩
  · refine join1 (fun q W => ∃ t : Bool, q = .bool t ∧ Ext w3 W ∧ (t = false → l.length ≤ 60 ∧ I.void.length ≤ 60)) ?_ fun K5 hK5 => ?_
    · rintro _ _ W hq ⟨t, rfl, xW, ht⟩
      rw [hq]
      exact Br_i (fun _ => hR _ _ ⟨rfl, x03.trans xW⟩) fun hb => hK4 _ ⟨xW, ht hb⟩
    · rw [SChart.g_all (hg w3 (Ext.refl _))]
      refine callF_ret (few15_ret w3 (hc.ext x03)) ?_
      rintro _ w4 ⟨⟨t, rfl, _⟩, x4⟩
      rw [un_not]
      refine Gd_i (fun _ => ?_) fun hb => hK5 _ _ ⟨true, rfl, x4, fun h => by cases h⟩
      rw [(hv.ext (x03.trans x4)).len, bin_gtr]
      refine Gd_i (fun hb => ?_) fun hb => hK5 _ _ ⟨true, rfl, x4, fun h => by cases h⟩
      have hn : ¬ (60 : Int) < l.length := by simpa using hb
      rw [SIssue.g_void (has_of_at (h2.ext x4)), ((hi.ext (x03.trans x4)).void).len, bin_gtr]
      refine hK5 _ _ ⟨_, rfl, x4, fun h => ?_⟩
      have h2 := dec_f h
      exact ⟨by omega, by omega⟩
end Go.Proofs.YtnbcdaonkdffkaaGreatDoor
namespace Go.Proofs.YtnbcdaonkdffkaaGreatDoor
set_option maxRecDepth 100000
set_option maxHeartbeats 16000000
open Sh Go.RowKit Edi Cha
theorem applyE_k {k : Nat} (h0 : k ≠ 0) (hk : k < 6) : applyE k ≠ 1 := by
  match k, h0, hk with
  | 1, _, _ => decide
  | 2, _, _ => decide
  | 3, _, _ => decide
  | 4, _, _ => decide
  | 5, _, _ => decide
theorem EditionRight_ret {c : SChart} {C : Cht} {p : Int} {i : SIssue} {I : Iss} (w : World) (hc : ChartIs w c C) (hok : ChartOk C) (hi : IssueIs w i I) (hIok : IssueOk I) (hT : Tab w) :
    Ret Tryz.prog 6 #[.agg c.cells.toArray, .agg i.cells.toArray, .int .i64 p] w (TrueQ w) := by
  refine ret_of (fun _ _ => sh_landfalllaw29_EditionRight_ok _ _ _) fun R hR => ?_
  unfold sh_landfalllaw29_EditionRight
  refine box_i fun g w1 x1 hat1 hg1 _ => ?_
  refine box_i fun b10 w2 x2 hat2 hg2 _ => ?_
  have hat1 : At w1 g (.cells c.cells.toArray 26 (0, 0)) := hat1
  have hat2 : At w2 b10 (.cells i.cells.toArray 55 (0, 0)) := hat2
  have x02 := x1.trans x2
  refine callF_ret (head29_ret w2 (hT.ext x02)) ?_
  rintro _ w3 ⟨rfl, x3⟩
  have x03 := x02.trans x3
  have h1 := hat1.ext (x2.trans x3)
  have h2 := hat2.ext x3
  have hg : ∀ V, Ext w3 V → Has V g 0 c.cells := fun V x => has_of_at (h1.ext x)
  have hb : ∀ V, Ext w3 V → Has V b10 0 i.cells := fun V x => has_of_at (h2.ext x)
  refine join0 (fun W => Ext w3 W ∧ I.void.length ≤ 60) ?_ fun K4 hK4 => ?_
  · rintro _ W ⟨xW, hn2⟩
    have x0W := x03.trans xW
    rw [SChart.g_all (hg W xW), SIssue.g_all (hb W xW)]
    refine callF_ret (ediCheck_ret (p := p) W (hc.ext x0W) hok (hi.ext x0W) hIok hn2 (hT.ext x0W)) ?_
    rintro _ w4 ⟨rfl, x4⟩
    have x34 := xW.trans x4
    have x04 := x03.trans x34
    rw [ext2_0, ext2_1, SChart.g_all (hg w4 x34), SIssue.g_all (hb w4 x34)]
    refine callF_ret (ediApply_ret (p := p) w w4 x04 (hc.ext x04) (hc.pts.ext x04) hok (hi.ext x04) hIok hn2 hT) ?_
    rintro _ w5 ⟨⟨u, rfl, hu⟩, x5⟩
    rw [ext2_0, ext2_1]
    refine chart_new fun b w6 x6 hat6 hb6 => ?_
    have x06 := (x04.trans x5).trans x6
    have hu6 := (hu.mod (Mod.of_ext x6)).is
    rcases apply_cases C I p with ⟨_, ea, ec⟩ | ⟨k, hk, _, _, ea, ec⟩
    · rw [ec, ea, bin_neq]
      refine Br_i (fun hb => absurd hb (by simp)) fun _ => ?_
      refine Gd_i (fun _ => ?_) fun hb => by cases hb
      rw [bin_eql, eql_bool15]
      refine Gd_i (fun _ => ?_) fun hb => absurd hb (by simp)
      rw [bin_neq]
      refine Gd_i (fun _ => ?_) fun hb => absurd hb (by simp)
      exact Gd_i (fun hb => absurd hb (by decide)) fun _ => hR _ _ ⟨rfl, x06⟩
    · rw [ea] at hu6
      rw [ec, ea]
      by_cases hk0 : k = 0
      · subst hk0
        rw [bin_neq]
        refine Br_i (fun _ => ?_) fun hb => absurd hb (by decide)
        refine Gd_i (fun _ => ?_) fun hb => by cases hb
        rw [bin_eql]
        refine Gd_i (fun _ => ?_) fun hb => absurd hb (by decide)
        rw [bin_eql]
        refine Gd_i (fun _ => ?_) fun hb => absurd hb (by decide)
        rw [un_not]
        exact hR _ _ ⟨rfl, x06⟩
      · rw [if_neg hk0, bin_neq]
        refine Br_i (fun hb => absurd hb (by simp)) fun _ => ?_
        refine Gd_i (fun _ => ?_) fun hb => by cases hb
        rw [bin_eql, eql_bool15]
        refine Gd_i (fun _ => ?_) fun hb => absurd hb (by simp [applyE_ne])
        rw [bin_neq]
        refine Gd_i (fun _ => ?_) fun hb => absurd hb (by simp [applyE_k hk0 hk])
        refine Gd_i (fun _ => ?_) fun hb => absurd hb (by decide)
        rw [SChart.g_cs (has_of_at hat6), SCell.row_len hu6.cells, bin_eql]
        exact hR _ _ ⟨rfl, x06⟩
  · refine join1 (fun q W => ∃ t : Bool, q = .bool t ∧ Ext w3 W ∧ (t = false → I.void.length ≤ 60)) ?_ fun K5 hK5 => ?_
    · rintro _ _ W hq ⟨t, rfl, xW, ht⟩
      rw [hq]
      exact Br_i (fun _ => hR _ _ ⟨rfl, x03.trans xW⟩) fun hb => hK4 _ ⟨xW, ht hb⟩
    · rw [SChart.g_all (hg w3 (Ext.refl _))]
      refine callF_ret (few15_ret w3 (hc.ext x03)) ?_
      rintro _ w4 ⟨⟨t, rfl, _⟩, x4⟩
      rw [un_not]
      refine Gd_i (fun _ => ?_) fun hb => hK5 _ _ ⟨true, rfl, x4, fun h => by cases h⟩
      rw [SIssue.g_void (has_of_at (h2.ext x4)), ((hi.ext (x03.trans x4)).void).len, bin_gtr]
      refine hK5 _ _ ⟨_, rfl, x4, fun h => ?_⟩
      have h2 := dec_f h
      omega
theorem digest_ok {C : Cht} (h : GoodC C) : (digestV C).2 = 0 := by unfold digestV; rw [if_pos h]
theorem EditionMakes_ret {c : SChart} {C : Cht} {v : Value} {l : List Int} {s o : Int} (w : World) (hc : ChartIs w c C) (hok : ChartOk C) (hv : IntsIs w v l) (hl : ∀ n ∈ l, I64 n) (hT : Tab w) :
    Ret Tryz.prog 5 #[.agg c.cells.toArray, v, .int .i64 s, .int .i64 o] w (TrueQ w) := by
  refine ret_of (fun _ _ => sh_landfalllaw29_EditionMakes_ok _ _ _ _) fun R hR => ?_
  unfold sh_landfalllaw29_EditionMakes
  refine box_i fun g w1 x1 hat1 hg1 _ => ?_
  have hat1 : At w1 g (.cells c.cells.toArray 26 (0, 0)) := hat1
  refine callF_ret (head29_ret w1 (hT.ext x1)) ?_
  rintro _ w3 ⟨rfl, x3⟩
  have x03 := x1.trans x3
  have h1 := hat1.ext x3
  have hg : ∀ V, Ext w3 V → Has V g 0 c.cells := fun V x => has_of_at (h1.ext x)
  refine join0 (fun W => Ext w3 W ∧ l.length ≤ 60) ?_ fun K4 hK4 => ?_
  · rintro _ W ⟨xW, hn⟩
    have x0W := x03.trans xW
    rw [SChart.g_all (hg W xW)]
    refine callF_ret (ediMake_ret (s := s) (o := o) w W x0W (hc.ext x0W) (hc.pts.ext x0W) hok (hv.ext x0W) hl hn (hT.ext x0W)) ?_
    rintro _ w4 ⟨⟨t, u, rfl, ht, hu⟩, x4⟩
    rw [ext3_0, ext3_1, ext3_2]
    refine pair_new fun b10 b11 w5 x5 hat10 hat11 hb10 hb11 _ => ?_
    have x35 := (xW.trans x4).trans x5
    have x05 := x03.trans x35
    have htV : ∀ V, Ext w5 V → IssueIs V t (makeV C l s o).1 := fun V x => ht.ext (x5.trans x)
    have huV : ∀ V, Ext w5 V → ChartIs V u (makeV C l s o).2.1 := fun V x => (hu.mod (Mod.of_ext (x5.trans x))).is
    have g10 : ∀ V, Ext w5 V → Has V b10 0 t.cells := fun V x => has_of_at (hat10.ext x)
    have g11 : ∀ V, Ext w5 V → Has V b11 0 u.cells := fun V x => has_of_at (hat11.ext x)
    rcases makeV_cases C l s o with hm | ⟨e, he, hm⟩
    · rw [makeV_ok hm] at htV huV ⊢
      have htV : ∀ V, Ext w5 V → IssueIs V t (issOf C l s o) := htV
      have huV : ∀ V, Ext w5 V → ChartIs V u (nextC C l) := huV
      have hG := hm.good
      obtain ⟨v1, v2⟩ := good_ver hG
      have hnG := next_good (l := l) hG hm.ver
      have hnok := next_ok (l := l) hok v2
      have hIok := iss_made_ok hm hl
      have hmade := apply_made hm
      have hp := pub_ok hm.s
      rw [bin_neq]
      refine Br_i (fun hb => absurd hb (by simp)) fun _ => ?_
      refine callF_ret (Public_ret s w5) ?_
      rintro _ w6 ⟨rfl, x6⟩
      rw [ext2_0, ext2_1, SChart.g_all (hg w6 (x35.trans x6)), SIssue.g_all (g10 w6 x6)]
      have x06 := x05.trans x6
      refine callF_ret (ediCheck_ret w6 (hc.ext x06) hok (htV _ x6) hIok hn (hT.ext x06)) ?_
      rintro _ w7 ⟨rfl, x7⟩
      have x57 := x6.trans x7
      have x07 := x05.trans x57
      rw [check_of hmade, ext2_0, ext2_1, SChart.g_all (hg w7 (x35.trans x57)), SIssue.g_all (g10 w7 x57)]
      refine callF_ret (ediApply_ret w w7 x07 (hc.ext x07) (hc.pts.ext x07) hok (htV _ x57) hIok hn hT) ?_
      rintro _ w8 ⟨⟨y, rfl, hy⟩, x8⟩
      rw [hmade] at hy ⊢
      rw [ext2_0, ext2_1]
      refine chart_new fun b17 w9 x9 hat17 hb17 => ?_
      have x59 := (x57.trans x8).trans x9
      have x09 := x05.trans x59
      rw [SChart.g_all (hg w9 (x35.trans x59))]
      refine callF_ret (chDigest_ret w9 (hc.ext x09) hok (hT.ext x09)) ?_
      rintro _ w10 ⟨rfl, x10⟩
      have x510 := x59.trans x10
      have x010 := x05.trans x510
      rw [ext2_0, ext2_1, SChart.g_all (g11 w10 x510)]
      refine callF_ret (chDigest_ret w10 (huV _ x510) hnok (hT.ext x010)) ?_
      rintro _ w11 ⟨rfl, x11⟩
      have x511 := x510.trans x11
      have x011 := x05.trans x511
      rw [ext2_0, ext2_1]
      refine join1 (fun q V => q = .bool true ∧ V = w11) ?_ fun K48 hK48 => ?_
      · rintro _ _ V hq ⟨rfl, hV⟩
        subst V
        rw [hq]
        refine Gd_i (fun _ => ?_) fun hb => by cases hb
        refine Gd_i (fun _ => ?_) fun hb => by cases hb
        rw [SChart.g_all (has_of_at ((hat17.ext x10).ext x11)), SChart.g_all (g11 w11 x511)]
        have hyV : ∀ V, Ext w9 V → ChartIs V y (nextC C l) := fun V xx => (hy.mod (Mod.of_ext (x9.trans xx))).is
        refine callF_ret (refSame_ret w11 (hyV _ (x10.trans x11)) (huV _ x511) (good_size hnG) (good_size hnG)) ?_
        rintro _ w12 ⟨rfl, x12⟩
        refine gd_d rfl ?_
        have x512 := x511.trans x12
        rw [SChart.g_all (g11 w12 x512)]
        refine callF_ret (chValid_ret w12 (huV _ x512) hnok) ?_
        rintro _ w13 ⟨rfl, x13⟩
        have x513 := x512.trans x13
        rw [valid_iff.2 hnG]
        refine Gd_i (fun _ => ?_) fun hb => by cases hb
        rw [SIssue.g_before (g10 w13 x513), ((htV _ x513).before : t.before = (digestV C).1), eql_u64c]
        refine gd_d rfl ?_
        rw [SIssue.g_after (g10 w13 x513), ((htV _ x513).after : t.after = (digestV (nextC C l)).1), eql_u64c]
        refine gd_d rfl ?_
        rw [SChart.g_ver (g11 w13 x513), ((huV _ x513).ver : u.ver = C.ver + 1), SChart.g_ver (hg w13 (x35.trans x513)), hc.ver, bin_add, i64_wrap (by omega) (by omega), bin_eql]
        exact hR _ _ ⟨by rw [decide_eq_true (show (nextC C l).ver = C.ver + 1 from rfl)], x05.trans x513⟩
      · refine Gd_i (fun _ => ?_) fun hb => by cases hb
        rw [hp, bin_eql]
        refine gd_d rfl ?_
        rw [bin_eql]
        refine gd_d rfl ?_
        rw [bin_eql]
        refine gd_d rfl ?_
        rw [digest_ok hG, bin_eql]
        refine gd_d rfl ?_
        rw [digest_ok hnG, bin_eql]
        exact hK48 _ _ ⟨by rw [decide_eq_true rfl], rfl⟩
    · rw [hm] at htV ⊢
      rw [bin_neq]
      refine Br_i (fun _ => ?_) fun hb => absurd hb (by simp [he])
      refine Gd_i (fun _ => ?_) fun hb => by cases hb
      rw [SIssue.g_all (g10 w5 (Ext.refl _)), build_i new_noissue15]
      refine callF_ret (refIssSame_ret w5 (htV _ (Ext.refl _)) (noissue_is _)) ?_
      rintro _ w6 ⟨rfl, x6⟩
      exact hR _ _ ⟨rfl, x05.trans x6⟩
  · refine join1 (fun q W => ∃ t : Bool, q = .bool t ∧ Ext w3 W ∧ (t = false → l.length ≤ 60)) ?_ fun K5 hK5 => ?_
    · rintro _ _ W hq ⟨t, rfl, xW, ht⟩
      rw [hq]
      exact Br_i (fun _ => hR _ _ ⟨rfl, x03.trans xW⟩) fun hb => hK4 _ ⟨xW, ht hb⟩
    · rw [SChart.g_all (hg w3 (Ext.refl _))]
      refine callF_ret (few15_ret w3 (hc.ext x03)) ?_
      rintro _ w4 ⟨⟨t, rfl, _⟩, x4⟩
      rw [un_not]
      refine Gd_i (fun _ => ?_) fun hb => hK5 _ _ ⟨true, rfl, x4, fun h => by cases h⟩
      rw [(hv.ext (x03.trans x4)).len, bin_gtr]
      refine hK5 _ _ ⟨_, rfl, x4, fun h => ?_⟩
      have h2 := dec_f h
      omega
end Go.Proofs.YtnbcdaonkdffkaaGreatDoor
namespace Go.Proofs.YtnbcdaonkdffkaaGreatDoor
set_option maxRecDepth 100000
set_option maxHeartbeats 16000000
open Sh Go.RowKit Edi Cha
theorem once_next {C : Cht} {l : List Int} {s o : Int} (hm : MkOk C l s o) : applyV (nextC C l) (issOf C l s o) (Sig.pubV s).1 = (noC, 40) := by
  refine applyV_bad (k := 1) (by decide) (fun j hj => ?_) ?_
  · have : j = 0 := by omega
    subst this
    rw [applyB_0, valid_iff.2 (next_good hm.good hm.ver), pub_mem hm.s]; rfl
  · rw [applyB_1, decide_eq_false (show ¬ (issOf C l s o).ver = (nextC C l).ver + 1 by show ¬ C.ver + 1 = C.ver + 1 + 1; omega)]; rfl
theorem EditionOnce_ret {c d : SChart} {C D : Cht} {v : Value} {l : List Int} {s o : Int} (w : World) (hc : ChartIs w c C) (hok : ChartOk C) (hd : ChartIs w d D) (hokD : ChartOk D) (hv : IntsIs w v l) (hl : ∀ n ∈ l, I64 n) (hT : Tab w) :
    Ret Tryz.prog 8 #[.agg c.cells.toArray, .agg d.cells.toArray, v, .int .i64 s, .int .i64 o] w (TrueQ w) := by
  refine ret_of (fun _ _ => sh_landfalllaw29_EditionOnce_ok _ _ _ _ _) fun R hR => ?_
  unfold sh_landfalllaw29_EditionOnce
  refine box_i fun g w1 x1 hat1 hg1 _ => ?_
  have hat1 : At w1 g (.cells c.cells.toArray 26 (0, 0)) := hat1
  refine box_i fun b6 w2 x2 hat2 hg2 _ => ?_
  have hat2 : At w2 b6 (.cells d.cells.toArray 26 (0, 0)) := hat2
  have x02 := x1.trans x2
  refine callF_ret (head29_ret w2 (hT.ext x02)) ?_
  rintro _ w3 ⟨rfl, x3⟩
  have x03 := x02.trans x3
  have h1 := hat1.ext (x2.trans x3)
  have h2 := hat2.ext x3
  have hg : ∀ V, Ext w3 V → Has V g 0 c.cells := fun V x => has_of_at (h1.ext x)
  have h6 : ∀ V, Ext w3 V → Has V b6 0 d.cells := fun V x => has_of_at (h2.ext x)
  refine join0 (fun W => Ext w3 W ∧ l.length ≤ 60) ?_ fun K4 hK4 => ?_
  · rintro _ W ⟨xW, hn⟩
    have x0W := x03.trans xW
    rw [SChart.g_all (hg W xW)]
    refine callF_ret (ediMake_ret (s := s) (o := o) w W x0W (hc.ext x0W) (hc.pts.ext x0W) hok (hv.ext x0W) hl hn (hT.ext x0W)) ?_
    rintro _ w4 ⟨⟨t, u, rfl, ht, hu⟩, x4⟩
    rw [ext3_0, ext3_1, ext3_2]
    refine pair_new fun b10 b11 w5 x5 hat10 hat11 hb10 hb11 _ => ?_
    have x35 := (xW.trans x4).trans x5
    have x05 := x03.trans x35
    have htV : ∀ V, Ext w5 V → IssueIs V t (makeV C l s o).1 := fun V x => ht.ext (x5.trans x)
    have huV : ∀ V, Ext w5 V → ChartIs V u (makeV C l s o).2.1 := fun V x => (hu.mod (Mod.of_ext (x5.trans x))).is
    have g10 : ∀ V, Ext w5 V → Has V b10 0 t.cells := fun V x => has_of_at (hat10.ext x)
    have g11 : ∀ V, Ext w5 V → Has V b11 0 u.cells := fun V x => has_of_at (hat11.ext x)
    rcases makeV_cases C l s o with hm | ⟨e, he, hm⟩
    · rw [makeV_ok hm] at htV huV ⊢
      have htV : ∀ V, Ext w5 V → IssueIs V t (issOf C l s o) := htV
      have huV : ∀ V, Ext w5 V → ChartIs V u (nextC C l) := huV
      have hG := hm.good
      obtain ⟨v1, v2⟩ := good_ver hG
      have hnok := next_ok (l := l) hok v2
      have hIok := iss_made_ok hm hl
      have hp := pub_ok hm.s
      rw [bin_neq]
      refine Br_i (fun hb => absurd hb (by simp)) fun _ => ?_
      refine callF_ret (Public_ret s w5) ?_
      rintro _ w6 ⟨rfl, x6⟩
      rw [ext2_0, ext2_1, SChart.g_all (g11 w6 x6), SIssue.g_all (g10 w6 x6)]
      have x06 := x05.trans x6
      refine callF_ret (ediApply_ret w6 w6 (Ext.refl _) (huV _ x6) (huV _ x6).pts hnok (htV _ x6) hIok hn (hT.ext x06)) ?_
      rintro _ w7 ⟨⟨y, rfl, hy⟩, x7⟩
      rw [once_next hm, ext2_0, ext2_1]
      refine chart_new fun b17 w8 x8 hat17 hb17 => ?_
      have x58 := (x6.trans x7).trans x8
      have x38 := x35.trans x58
      have x08 := x05.trans x58
      rw [SChart.g_all (h6 w8 x38), SIssue.g_all (g10 w8 x58)]
      refine callF_ret (ediCheck_ret w8 (hd.ext x08) hokD (htV _ x58) hIok hn (hT.ext x08)) ?_
      rintro _ w9 ⟨rfl, x9⟩
      have x39 := x38.trans x9
      have x09 := x08.trans x9
      have x59 := x58.trans x9
      rw [ext2_0, ext2_1]
      refine join1 (fun q V => q = .bool true ∧ V = w9) ?_ fun K41 hK41 => ?_
      · rintro _ _ V hq ⟨rfl, hV⟩
        subst V
        have full : ∀ {b : Bool}, GoodC D → (b = true → (digestV D).1 = (digestV C).1 ∧ D.ver = C.ver) → checkV D (issOf C l s o) (Sig.pubV s).1 = (b, 0) → _ := fun {b} _ _ _ => True.intro
        rcases apply_cases D (issOf C l s o) (Sig.pubV s).1 with ⟨hall, _, ec⟩ | ⟨k, hk, hno, hf, _, ec⟩
        · have hgd := applyB_good hall
          rw [ec, bin_neq]
          refine Br_i (fun hb => absurd hb (by simp)) fun _ => ?_
          rw [SChart.g_all (h6 w9 x39)]
          refine callF_ret (chDigest_ret w9 (hd.ext x09) hokD (hT.ext x09)) ?_
          rintro _ w10 ⟨rfl, x10⟩
          rw [ext2_0, ext2_1, hq]
          refine Gd_i (fun _ => ?_) fun hb => by cases hb
          rw [digest_ok hgd.1, bin_eql]
          refine gd_d rfl ?_
          rw [un_not]
          refine Gd_i (fun _ => ?_) fun hb => absurd hb (by simp)
          have hbf : t.before = (digestV D).1 := ((htV _ (Ext.refl _)).before).trans hgd.2.2.2.2.1
          rw [SIssue.g_before (g10 w10 (x59.trans x10)), hbf, eql_u64c]
          refine gd_d rfl ?_
          have hvr : D.ver = C.ver := by
            have h9 : C.ver + 1 = D.ver + 1 := hgd.2.2.1
            omega
          rw [SChart.g_ver (h6 w10 (x39.trans x10)), hd.ver, SChart.g_ver (hg w10 (x39.trans x10)), hc.ver, bin_eql]
          exact hR _ _ ⟨by rw [decide_eq_true hvr], x09.trans x10⟩
        · by_cases hk0 : k = 0
          · subst hk0
            have hnv : Cha.valid D = false := by
              rw [applyB_0, pub_mem hm.s, Bool.and_true] at hf
              exact hf
            rw [ec, bin_neq]
            refine Br_i (fun _ => ?_) fun hb => absurd hb (by simp)
            rw [hq]
            refine Gd_i (fun _ => ?_) fun hb => by cases hb
            rw [un_not]
            refine Gd_i (fun _ => ?_) fun hb => absurd hb (by simp)
            rw [SChart.g_all (h6 w9 x39)]
            refine callF_ret (chValid_ret w9 (hd.ext x09) hokD) ?_
            rintro _ w10 ⟨rfl, x10⟩
            rw [hnv, un_not]
            exact hR _ _ ⟨rfl, x09.trans x10⟩
          · have hgd : GoodC D := by
              have h0 := hno 0 (by omega)
              rw [applyB_0, Bool.and_eq_true] at h0
              exact valid_iff.1 h0.1
            rw [ec, if_neg hk0, bin_neq]
            refine Br_i (fun hb => absurd hb (by simp)) fun _ => ?_
            rw [SChart.g_all (h6 w9 x39)]
            refine callF_ret (chDigest_ret w9 (hd.ext x09) hokD (hT.ext x09)) ?_
            rintro _ w10 ⟨rfl, x10⟩
            rw [ext2_0, ext2_1, hq]
            refine Gd_i (fun _ => ?_) fun hb => by cases hb
            rw [digest_ok hgd, bin_eql]
            refine gd_d rfl ?_
            rw [un_not]
            exact Gd_i (fun hb => absurd hb (by simp)) fun _ => hR _ _ ⟨rfl, x09.trans x10⟩
      · refine Gd_i (fun _ => ?_) fun hb => by cases hb
        rw [hp, bin_eql]
        refine gd_d rfl ?_
        rw [bin_eql]
        exact hK41 _ _ ⟨by rw [decide_eq_true rfl], rfl⟩
    · rw [hm]
      rw [bin_neq]
      exact Br_i (fun _ => hR _ _ ⟨rfl, x05⟩) fun hb => absurd hb (by simp [he])
  · refine join1 (fun q W => ∃ t : Bool, q = .bool t ∧ Ext w3 W ∧ (t = false → l.length ≤ 60)) ?_ fun K5 hK5 => ?_
    · rintro _ _ W hq ⟨t, rfl, xW, ht⟩
      rw [hq]
      exact Br_i (fun _ => hR _ _ ⟨rfl, x03.trans xW⟩) fun hb => hK4 _ ⟨xW, ht hb⟩
    · rw [SChart.g_all (hg w3 (Ext.refl _))]
      refine callF_ret (few15_ret w3 (hc.ext x03)) ?_
      rintro _ w4 ⟨⟨t, rfl, _⟩, x4⟩
      rw [un_not]
      refine Gd_i (fun _ => ?_) fun hb => hK5 _ _ ⟨true, rfl, x4, fun h => by cases h⟩
      rw [SChart.g_all (h6 w4 x4)]
      refine callF_ret (few15_ret w4 (hd.ext (x03.trans x4))) ?_
      rintro _ w5 ⟨⟨t', rfl, _⟩, x5⟩
      rw [un_not]
      refine Gd_i (fun _ => ?_) fun hb => hK5 _ _ ⟨true, rfl, x4.trans x5, fun h => by cases h⟩
      rw [(hv.ext (x03.trans (x4.trans x5))).len, bin_gtr]
      refine hK5 _ _ ⟨_, rfl, x4.trans x5, fun h => ?_⟩
      have h2 := dec_f h
      omega
theorem u64_plus {w : World} {K : Value → World → Prop} {X : List PanicEntry → World → Prop} {t : TypeId} {ox oy : Operand} {d e : BitVec 64} : DoV Tryz.prog (binS .add t ox oy (u64v d) (u64v e)) w K X = K (u64v (d + e)) w := by
  unfold u64v
  rw [bin_add, u64w]
  congr 2
theorem add_ne {a b : BitVec 64} (h : b ≠ 0) : a + b ≠ a := by
  intro e
  apply h
  have e2 := congrArg BitVec.toNat e
  rw [BitVec.toNat_add] at e2
  have h1 := a.isLt
  have h2 := b.isLt
  apply BitVec.eq_of_toNat_eq
  show b.toNat = 0
  omega
theorem u64_r1000 {d : BitVec 64} : IntKind.i64.wrap ((d.toNat : Int).tmod 1000) = ((d.toNat % 1000 : Nat) : Int) := by
  have e : (d.toNat : Int).tmod 1000 = ((d.toNat % 1000 : Nat) : Int) := by
    rw [Int.tmod_eq_emod_of_nonneg (by omega)]; omega
  rw [e]
  exact i64_wrap (by omega) (by omega)
def ChgOk (C : Cht) (I J : Iss) (p : Int) (other : List Int) (m : Int) : Prop :=
  (m < 3 → ∃ k, k < 6 ∧ applyB C J p k = false) ∧ (¬ m < 3 → J = { I with void := other })
theorem EditionChanged_ret {c : SChart} {C : Cht} {v v2 : Value} {l other : List Int} {s o how : Int} {by_ : BitVec 64} (w : World) (hc : ChartIs w c C) (hok : ChartOk C) (hv : IntsIs w v l) (hl : ∀ n ∈ l, I64 n) (hv2 : IntsIs w v2 other) (hl2 : ∀ n ∈ other, I64 n) (hhow : 0 ≤ how ∧ how < 256) (hT : Tab w) :
    Ret Tryz.prog 7 #[.agg c.cells.toArray, v, v2, .int .i64 s, .int .i64 o, .int .u8 how, u64v by_] w (TrueQ w) := by
  refine ret_of (fun _ _ => sh_landfalllaw29_EditionChanged_ok _ _ _ _ _ _ _) fun R hR => ?_
  unfold sh_landfalllaw29_EditionChanged
  refine box_i fun g w1 x1 hat1 hg1 _ => ?_
  have hat1 : At w1 g (.cells c.cells.toArray 26 (0, 0)) := hat1
  refine callF_ret (head29_ret w1 (hT.ext x1)) ?_
  rintro _ w3 ⟨rfl, x3⟩
  have x03 := x1.trans x3
  have h1 := hat1.ext x3
  have hg : ∀ V, Ext w3 V → Has V g 0 c.cells := fun V x => has_of_at (h1.ext x)
  refine join0 (fun W => Ext w3 W ∧ l.length ≤ 60 ∧ other.length ≤ 60 ∧ by_ ≠ 0) ?_ fun K4 hK4 => ?_
  · rintro _ W ⟨xW, hn, hn2, hby⟩
    have x0W := x03.trans xW
    rw [SChart.g_all (hg W xW)]
    refine callF_ret (ediMake_ret (s := s) (o := o) w W x0W (hc.ext x0W) (hc.pts.ext x0W) hok (hv.ext x0W) hl hn (hT.ext x0W)) ?_
    rintro _ w4 ⟨⟨t, u, rfl, ht, hu⟩, x4⟩
    rw [ext3_0, ext3_1, ext3_2]
    refine pair_new fun b10 b11 w5 x5 hat10 hat11 hb10 hb11 _ => ?_
    have x35 := (xW.trans x4).trans x5
    have x05 := x03.trans x35
    have htV : ∀ V, Ext w5 V → IssueIs V t (makeV C l s o).1 := fun V x => ht.ext (x5.trans x)
    have g10 : ∀ V, Ext w5 V → Has V b10 0 t.cells := fun V x => has_of_at (hat10.ext x)
    rcases makeV_cases C l s o with hm | ⟨e, he, hm⟩
    · rw [makeV_ok hm] at htV ⊢
      have htV : ∀ V, Ext w5 V → IssueIs V t (issOf C l s o) := htV
      have hG := hm.good
      obtain ⟨v1, v2'⟩ := good_ver hG
      have hIok := iss_made_ok hm hl
      have hp := pub_ok hm.s
      rw [bin_neq]
      refine Br_i (fun hb => absurd hb (by simp)) fun _ => ?_
      refine callF_ret (Public_ret s w5) ?_
      rintro _ w6 ⟨rfl, x6⟩
      rw [ext2_0, ext2_1, SIssue.g_all (g10 w6 x6)]
      refine alloc_i Ty.SIssue_zero fun b21 w7 x7 hat7 hb7 _ => ?_
      refine SIssue.set (s := t) (r := SIssue.zero) hat7 fun w8 m8 hat8 s8 => ?_
      have x68 : Ext w6 w8 := ext_step15 x7 m8 (by omega)
      have x58 := x6.trans x68
      have z68 := x68.size
      obtain ⟨hd2, rfl⟩ := Hdr.of_sl hv2
      refine join0 (fun V => ∃ t' J, Ext w6 V ∧ At V b21 (.cells t'.cells.toArray 55 (0, 0)) ∧ IssueIs V t' J ∧ IssueOk J ∧ J.void.length ≤ 60 ∧ ChgOk C (issOf C l s o) J (Sig.pubV s).1 other (how.tmod 4)) ?_ fun K31 hK31 => ?_
      · rintro _ V ⟨t', J, x6V, hat21, hJ, hJok, hJn, hchg⟩
        have x5V := x6.trans x6V
        have x3V := x35.trans x5V
        have x0V := x05.trans x5V
        rw [SChart.g_all (hg V x3V), SIssue.g_all (has_of_at hat21)]
        refine callF_ret (ediCheck_ret V (hc.ext x0V) hok hJ hJok hJn (hT.ext x0V)) ?_
        rintro _ w9 ⟨rfl, x9⟩
        have x59 := x5V.trans x9
        have x39 := x3V.trans x9
        have x09 := x0V.trans x9
        rw [ext2_0, ext2_1]
        have hb0 : applyB C J (Sig.pubV s).1 0 = true := by rw [applyB_0, valid_iff.2 hG, pub_mem hm.s]; rfl
        have hck : ∃ b : Bool, checkV C J (Sig.pubV s).1 = (b, 0) ∧ (b = true → ∀ j, j < 6 → applyB C J (Sig.pubV s).1 j = true) := by
          rcases apply_cases C J (Sig.pubV s).1 with ⟨hall, _, ec⟩ | ⟨k, hk, hno, hf, _, ec⟩
          · exact ⟨true, ec, fun _ => hall⟩
          · have hk0 : k ≠ 0 := fun e => by rw [e, hb0] at hf; cases hf
            exact ⟨false, by rw [ec, if_neg hk0], fun h => by cases h⟩
        obtain ⟨b, ec, hall⟩ := hck
        rw [ec, hp]
        refine join0 (fun V => V = w9) ?_ fun K63 hK63 => ?_
        · rintro _ V hV
          subst V
          have hm4 : how.tmod 4 = how % 4 := Int.tmod_eq_emod_of_nonneg hhow.1
          refine join0 (fun V => V = w9 ∧ b = true ∧ ¬ how.tmod 4 < 3) ?_ fun K69 hK69 => ?_
          · rintro _ V ⟨hV, hbt, hm3⟩
            subst V
            have hJe := hchg.2 hm3
            have hgd := applyB_good (hall hbt)
            have hvoid : J.void = other := by rw [hJe]
            rw [hvoid] at hgd
            rw [SChart.g_all (hg w9 x39)]
            refine callF_ret (refNext_ret w w9 x09 hc (good_size hG) (by constructor <;> omega) (good_pos hG) (hv2.ext x09) (voids_rng hgd.2.2.2.2.2.1)) ?_
            rintro _ w10 ⟨⟨n, rfl, hn'⟩, x10⟩
            have x010 := x09.trans x10
            refine callF_ret (chDigest_ret w10 hn'.is (next_ok hok v2') (hT.ext x010)) ?_
            rintro _ w11 ⟨rfl, x11⟩
            have x911 := x10.trans x11
            rw [ext2_0, ext2_1]
            refine Gd_i (fun _ => ?_) fun hb => by cases hb
            rw [digest_ok (next_good hG hm.ver), bin_eql]
            refine gd_d rfl ?_
            rw [SChart.g_all (hg w11 (x39.trans x911))]
            refine callF_ret (refVoids_ret w11 (hc.ext (x09.trans x911)) (hv2.ext (x09.trans x911))) ?_
            rintro _ w12 ⟨rfl, x12⟩
            rw [voids_iff.2 hgd.2.2.2.2.2.1]
            refine Gd_i (fun _ => ?_) fun hb => by cases hb
            have hta : t.after = (digestV (nextC C other)).1 := by
              have e1 := (htV _ (Ext.refl _)).after
              have e2 : J.after = (issOf C l s o).after := by rw [hJe]
              rw [e1, ← e2]
              exact hgd.2.2.2.2.2.2
            rw [SIssue.g_after (g10 w12 ((x59.trans x911).trans x12)), hta, eql_u64c]
            exact hR _ _ ⟨by rw [decide_eq_true rfl], (x09.trans x911).trans x12⟩
          · refine join1 (fun q V => V = w9 ∧ ∃ a : Bool, q = .bool a ∧ (a = true → b = false) ∧ (a = false → b = true ∧ ¬ how.tmod 4 < 3)) ?_ fun K70 hK70 => ?_
            · rintro _ _ V hq ⟨hV, a, rfl, ha1, ha2⟩
              subst V
              rw [hq]
              refine Br_i (fun hb => ?_) fun hb => hK69 _ ⟨rfl, ha2 hb⟩
              refine Gd_i (fun _ => ?_) fun hb => by cases hb
              rw [un_not, ha1 hb]
              exact hR _ _ ⟨rfl, x09⟩
            · rw [bin_rem (by decide), bin_lss]
              refine Gd_i (fun hb => ?_) fun hb => ?_
              · have h3 : ¬ how.tmod 4 < 3 := by simpa using hb
                rw [un_not]
                refine hK70 _ _ ⟨rfl, _, rfl, fun h => by simpa using h, fun h => ⟨by simpa using h, h3⟩⟩
              · have h3 : how.tmod 4 < 3 := by simpa using hb
                refine hK70 _ _ ⟨rfl, true, rfl, fun _ => ?_, fun h => by cases h⟩
                obtain ⟨k, hk, hf⟩ := hchg.1 h3
                cases hq : b with
                | false => rfl
                | true => rw [hall hq k hk] at hf; cases hf
        · refine join1 (fun q V => V = w9 ∧ q = .bool false) ?_ fun K64 hK64 => ?_
          · rintro _ _ V hq ⟨hV, rfl⟩
            rw [hq]
            exact Br_i (fun hb => by cases hb) fun _ => hK63 _ hV
          · rw [bin_neq]
            refine Gd_i (fun _ => ?_) fun hb => absurd hb (by simp)
            rw [bin_neq]
            exact hK64 _ _ ⟨rfl, by simp⟩
      · have hm4 : how.tmod 4 = how % 4 := Int.tmod_eq_emod_of_nonneg hhow.1
        have ht8 := htV w8 x58
        have hfin : ∀ {V : World} {t' : SIssue} {J : Iss}, Mod (· = b21) w8 V → At V b21 (.cells t'.cells.toArray 55 (0, 0)) → (Ext w6 V → IssueIs V t' J) → IssueOk J → J.void.length ≤ 60 → ChgOk C (issOf C l s o) J (Sig.pubV s).1 other (how.tmod 4) → K31 [] V := fun {V t' J} m hat hJ h1 h2 h3 => by
          have x6V : Ext w6 V := ((Mod.of_ext x68 : Mod (w6.heap.size ≤ ·) w6 w8).trans (m.mono fun k _ h => by omega)).new
          exact hK31 _ ⟨t', J, x6V, hat, hJ x6V, h1, h2, h3⟩
        have hvI : (issOf C l s o).ver = C.ver + 1 := rfl
        rw [bin_rem (by decide), bin_eql]
        refine Br_i (fun hb => ?_) fun hb => ?_
        · have hm0 : how.tmod 4 = 0 := dec_t hb
          rw [SIssue.g_ver (has_of_at hat8), ht8.ver]
          rw [show u64v by_ = .int .u64 (by_.toNat : Int) from rfl, bin_rem (by decide), conv_int Ty.u64 Ty.int, u64_r1000, bin_add, i64_wrap (by omega) (by omega), bin_add]
          rw [hvI, i64_wrap (by omega) (by omega)]
          refine SIssue.s_ver (x := C.ver + 1 + (1 + ((by_.toNat % 1000 : Nat) : Int))) hat8 fun w9 m9 hat9 s9 => ?_
          refine hfin (J := { issOf C l s o with ver := C.ver + 1 + (1 + ((by_.toNat % 1000 : Nat) : Int)) }) m9 hat9 (fun x => ?_) ⟨by show I64 (C.ver + 1 + (1 + ((by_.toNat % 1000 : Nat) : Int))); constructor <;> omega, hIok.void, hIok.sig⟩ hn ⟨fun _ => ⟨1, by decide, ?_⟩, fun h => absurd h (by omega)⟩
          · have ht := htV _ (x6.trans x)
            exact ⟨rfl, ht.before, ht.after, ht.void, ht.sig⟩
          · rw [applyB_1, decide_eq_false (show ¬ C.ver + 1 + (1 + ((by_.toNat % 1000 : Nat) : Int)) = C.ver + 1 by omega)]; rfl
        · have hm0 : ¬ how.tmod 4 = 0 := dec_f hb
          rw [bin_eql]
          refine Br_i (fun hb => ?_) fun hb => ?_
          · have hm1 : how.tmod 4 = 1 := dec_t hb
            rw [SIssue.g_before (has_of_at hat8), ht8.before, u64_plus]
            refine SIssue.s_before (x := (issOf C l s o).before + by_) hat8 fun w9 m9 hat9 s9 => ?_
            refine hfin (J := { issOf C l s o with before := (issOf C l s o).before + by_ }) m9 hat9 (fun x => ?_) ⟨hIok.ver, hIok.void, hIok.sig⟩ hn ⟨fun _ => ⟨2, by decide, ?_⟩, fun h => absurd h (by omega)⟩
            · have ht := htV _ (x6.trans x)
              exact ⟨ht.ver, rfl, ht.after, ht.void, ht.sig⟩
            · rw [applyB_2]
              exact decide_eq_false (add_ne hby)
          · have hm1 : ¬ how.tmod 4 = 1 := dec_f hb
            rw [bin_eql]
            refine Br_i (fun hb => ?_) fun hb => ?_
            · have hm2 : how.tmod 4 = 2 := dec_t hb
              rw [SIssue.g_after (has_of_at hat8), ht8.after, u64_plus]
              refine SIssue.s_after (x := (issOf C l s o).after + by_) hat8 fun w9 m9 hat9 s9 => ?_
              refine hfin (J := { issOf C l s o with after := (issOf C l s o).after + by_ }) m9 hat9 (fun x => ?_) ⟨hIok.ver, hIok.void, hIok.sig⟩ hn ⟨fun _ => ⟨4, by decide, ?_⟩, fun h => absurd h (by omega)⟩
              · have ht := htV _ (x6.trans x)
                exact ⟨ht.ver, ht.before, rfl, ht.void, ht.sig⟩
              · rw [applyB_4]
                exact decide_eq_false (add_ne hby)
            · have hm2 : ¬ how.tmod 4 = 2 := dec_f hb
              rw [bin_eql]
              refine Br_i (fun hb => ?_) fun hb => absurd (dec_f hb) (by omega)
              have hm3 : how.tmod 4 = 3 := dec_t hb
              refine SIssue.s_void (x := hd2) hat8 fun w9 m9 hat9 s9 => ?_
              refine hfin (J := { issOf C l s o with void := other }) m9 hat9 (fun x => ?_) ⟨hIok.ver, hl2, hIok.sig⟩ hn2 ⟨fun h => absurd h (by omega), fun _ => rfl⟩
              have ht := htV _ (x6.trans x)
              exact ⟨ht.ver, ht.before, ht.after, hv2.ext (x05.trans (x6.trans x)), ht.sig⟩
    · rw [hm]
      rw [bin_neq]
      exact Br_i (fun _ => hR _ _ ⟨rfl, x05⟩) fun hb => absurd hb (by simp [he])
  · refine join1 (fun q W => ∃ t : Bool, q = .bool t ∧ Ext w3 W ∧ (t = false → l.length ≤ 60 ∧ other.length ≤ 60 ∧ by_ ≠ 0)) ?_ fun K5 hK5 => ?_
    · rintro _ _ W hq ⟨t, rfl, xW, ht⟩
      rw [hq]
      exact Br_i (fun _ => hR _ _ ⟨rfl, x03.trans xW⟩) fun hb => hK4 _ ⟨xW, ht hb⟩
    · rw [SChart.g_all (hg w3 (Ext.refl _))]
      refine callF_ret (few15_ret w3 (hc.ext x03)) ?_
      rintro _ w4 ⟨⟨t, rfl, _⟩, x4⟩
      rw [un_not]
      refine Gd_i (fun _ => ?_) fun hb => hK5 _ _ ⟨true, rfl, x4, fun h => by cases h⟩
      rw [(hv.ext (x03.trans x4)).len, bin_gtr]
      refine Gd_i (fun hb => ?_) fun hb => hK5 _ _ ⟨true, rfl, x4, fun h => by cases h⟩
      have hn : ¬ (60 : Int) < l.length := by simpa using hb
      rw [(hv2.ext (x03.trans x4)).len, bin_gtr]
      refine Gd_i (fun hb2 => ?_) fun hb => hK5 _ _ ⟨true, rfl, x4, fun h => by cases h⟩
      have hn2 : ¬ (60 : Int) < other.length := by simpa using hb2
      rw [show (Value.int .u64 0) = u64v 0 from rfl, eql_u64c]
      exact hK5 _ _ ⟨_, rfl, x4, fun h => ⟨by omega, by omega, dec_f h⟩⟩
end Go.Proofs.YtnbcdaonkdffkaaGreatDoor
namespace Go.Proofs.YtnbcdaonkdffkaaGreatDoor
set_option maxRecDepth 100000
set_option maxHeartbeats 16000000
open Sh Go.RowKit Edi Cha
namespace Edi
theorem voidsP_iff {C : Cht} {l : List Int} : VoidsP C l ↔ l.Pairwise (· < ·) ∧ ∀ x ∈ l, 0 ≤ x ∧ x < C.cells.length ∧ voidAt C x = false := by
  constructor
  · intro h
    refine ⟨?_, fun x hx => ?_⟩
    · rw [List.pairwise_iff_getElem]
      have step : ∀ k (hk : k + 1 < l.length), l[k] < l[k + 1] := fun k hk => by
        have := (h (k + 1) hk hk).1
        rw [prev_succ (by omega)] at this
        exact this
      have mono : ∀ d i (hi : i + d + 1 < l.length), l[i] < l[i + d + 1] := fun d => by
        induction d with
        | zero => exact fun i hi => step i hi
        | succ d ih =>
          intro i hi
          have h1 := ih i (by omega)
          have h2 := step (i + d + 1) (by omega)
          exact Int.lt_trans h1 h2
      intro i j hi hj hij
      have := mono (j - i - 1) i (by omega)
      have e : i + (j - i - 1) + 1 = j := by omega
      simp only [e] at this
      exact this
    · obtain ⟨k, hk, rfl⟩ := List.getElem_of_mem hx
      exact ⟨(void_rng h hk).1, (void_rng h hk).2, (h k hk hk).2.2⟩
  · rintro ⟨h1, h2⟩ k hk hk'
    have hx := h2 _ (List.getElem_mem hk)
    refine ⟨?_, hx.2.1, hx.2.2⟩
    unfold prev
    by_cases h0 : k = 0
    · rw [if_pos h0]; omega
    · rw [if_neg h0, List.getElem?_eq_getElem (by omega)]
      exact List.pairwise_iff_getElem.1 h1 (k - 1) k (by omega) hk (by omega)
theorem setVoid_get {cs : List SCell} {n : Int} (h0 : 0 ≤ n) (i : Nat) : (setVoid cs n)[i]? = (cs[i]?).map fun c => { c with void := c.void || decide ((i : Int) = n) } := by
  have idn : ∀ c : SCell, { c with void := c.void || false } = c := fun c => by cases c; simp
  unfold setVoid
  by_cases hi : (i : Int) = n
  · have e : n.toNat = i := by omega
    rw [e]
    cases hq : cs[i]? with
    | none => simp [hq]
    | some c =>
      have hl := (List.getElem?_eq_some_iff.1 hq).1
      simp only [List.getElem?_set_self hl, Option.map_some, hi, decide_true, Bool.or_true]
  · have hne : n.toNat ≠ i := by omega
    rw [decide_eq_false hi]
    cases hq : cs[n.toNat]? with
    | none => cases cs[i]? <;> simp
    | some c =>
      simp only [List.getElem?_set_ne hne]
      cases cs[i]? <;> simp
theorem voided_get {i : Nat} : ∀ {l : List Int}, (∀ x ∈ l, 0 ≤ x) → ∀ {cs : List SCell}, (voided cs l)[i]? = (cs[i]?).map fun c => { c with void := c.void || decide ((i : Int) ∈ l) }
  | [], _, cs => by
    show cs[i]? = _
    cases cs[i]? <;> simp
  | n :: l, h, cs => by
    show (voided (setVoid cs n) l)[i]? = _
    rw [voided_get (cs := setVoid cs n) (l := l) fun x hx => h x (List.mem_cons_of_mem _ hx)]
    rw [setVoid_get (h n (List.mem_cons_self ..))]
    cases cs[i]? with
    | none => rfl
    | some c =>
      simp only [Option.map_some, Option.some.injEq]
      congr 1
      rw [Bool.or_assoc]
      congr 1
      rw [Bool.eq_iff_iff]
      simp only [Bool.or_eq_true, decide_eq_true_eq, List.mem_cons]
inductive Split : List Int → List Int → List Int → Prop
  | nil : Split [] [] []
  | left {l A B : List Int} {x : Int} : Split l A B → Split (l ++ [x]) (A ++ [x]) B
  | right {l A B : List Int} {x : Int} : Split l A B → Split (l ++ [x]) A (B ++ [x])
theorem Split.perm {l A B : List Int} (h : Split l A B) : (A ++ B).Perm l := by
  induction h with
  | nil => exact .refl _
  | @left l A B x _ ih =>
    have h1 : ((A ++ [x]) ++ B).Perm ((A ++ B) ++ [x]) := by
      rw [List.append_assoc, List.append_assoc]
      exact List.Perm.append_left A List.perm_append_comm
    exact h1.trans (ih.append_right [x])
  | @right l A B x _ ih =>
    rw [← List.append_assoc]
    exact ih.append_right [x]
theorem Split.subl {l A B : List Int} (h : Split l A B) : A.Sublist l ∧ B.Sublist l := by
  induction h with
  | nil => exact ⟨.slnil, .slnil⟩
  | left _ ih => exact ⟨ih.1.append_right _, ih.2.trans (List.sublist_append_left _ _)⟩
  | right _ ih => exact ⟨ih.1.trans (List.sublist_append_left _ _), ih.2.append_right _⟩
theorem Split.len {l A B : List Int} (h : Split l A B) : A.length ≤ l.length ∧ B.length ≤ l.length := ⟨h.subl.1.length_le, h.subl.2.length_le⟩
theorem Split.mem {l A B : List Int} (h : Split l A B) (x : Int) : x ∈ l ↔ x ∈ A ∨ x ∈ B := by
  rw [← h.perm.mem_iff, List.mem_append]
theorem Split.disj {l A B : List Int} (h : Split l A B) (hn : l.Nodup) {x : Int} (ha : x ∈ A) (hb : x ∈ B) : False := by
  have := (h.perm.nodup_iff).2 hn
  exact (List.nodup_append.1 this).2.2 x ha x hb rfl
theorem voids_nodup {C : Cht} {l : List Int} (h : VoidsP C l) : l.Nodup := (voidsP_iff.1 h).1.imp fun h e => by omega
theorem split_first {C : Cht} {l A B : List Int} (h : VoidsP C l) (hs : Split l A B) : VoidsP C A := by
  obtain ⟨h1, h2⟩ := voidsP_iff.1 h
  exact voidsP_iff.2 ⟨h1.sublist hs.subl.1, fun x hx => h2 x (hs.subl.1.subset hx)⟩
theorem split_second {C : Cht} {l A B : List Int} (h : VoidsP C l) (hs : Split l A B) : VoidsP (nextC C A) B := by
  obtain ⟨h1, h2⟩ := voidsP_iff.1 h
  refine voidsP_iff.2 ⟨h1.sublist hs.subl.2, fun x hx => ?_⟩
  have hx2 := h2 x (hs.subl.2.subset hx)
  refine ⟨hx2.1, ?_, ?_⟩
  · show x < ((voided C.cells A).length : Int)
    rw [voided_len]; exact hx2.2.1
  · have hA : ∀ y ∈ A, 0 ≤ y := fun y hy => (h2 y (hs.subl.1.subset hy)).1
    have hnx : ¬ ((x.toNat : Nat) : Int) ∈ A := fun hm => hs.disj (voids_nodup h) (by rw [show ((x.toNat : Nat) : Int) = x by omega] at hm; exact hm) hx
    have hv := hx2.2.2
    unfold voidAt at hv ⊢
    show (((voided C.cells A)[x.toNat]?).map _).getD false = false
    rw [voided_get (cs := C.cells) hA, decide_eq_false hnx]
    cases hq : C.cells[x.toNat]? with
    | none => rfl
    | some c => rw [hq] at hv; simpa using hv
theorem split_cells {C : Cht} {l A B : List Int} (h : VoidsP C l) (hs : Split l A B) : (nextC (nextC C A) B).cells = (nextC C l).cells := by
  obtain ⟨h1, h2⟩ := voidsP_iff.1 h
  have hl : ∀ y ∈ l, 0 ≤ y := fun y hy => (h2 y hy).1
  have hA : ∀ y ∈ A, 0 ≤ y := fun y hy => hl y (hs.subl.1.subset hy)
  have hB : ∀ y ∈ B, 0 ≤ y := fun y hy => hl y (hs.subl.2.subset hy)
  show voided (voided C.cells A) B = voided C.cells l
  apply List.ext_getElem?
  intro i
  rw [voided_get (cs := voided C.cells A) hB, voided_get (cs := C.cells) hA, voided_get (cs := C.cells) hl]
  cases C.cells[i]? with
  | none => rfl
  | some c =>
    simp only [Option.map_some, Option.some.injEq]
    congr 1
    rw [Bool.or_assoc]
    congr 1
    rw [Bool.eq_iff_iff]
    simp only [Bool.or_eq_true, decide_eq_true_eq]
    exact (hs.mem _).symm
end Edi
theorem app_int2 {base : Nat} {w : World} {K : Value → World → Prop} {X : List PanicEntry → World → Prop} {v : Value} {l : List Int} {n : Int} {cs : Array Bool} (hown : w.ownsRow base 3 1 v l.length (iv l)) (hl : l.length < 100000000) (hb : base ≤ w.heap.size)
    (hk : ∀ v' w1, w1.ownsRow base 3 1 v' (l ++ [n]).length (iv (l ++ [n])) → Mod (fun k => v.ownBlock = some k) w w1 → (∀ k, v'.ownBlock = some k → v.ownBlock = some k ∨ w.heap.size ≤ k) → K v' w1) :
    DoV Tryz.prog (Instr.buildSlice 36 1 #[(0, .int .i64 n)]) w (fun s w1 => CallB Tryz.prog .append #[36, 36] 36 cs #[v, s] w1 K X) X := by
  obtain ⟨i, hi, hz, hs, hby⟩ := Ty.info_parts Ty.int_info
  refine lit_ints [n] rfl (by decide) (by decide) rfl fun v1 w1 x1 ho1 _ => ?_
  have z1 := x1.size
  refine app_own2 Ty.ints hi hz hs hby rfl (by omega) (Own.ext hown x1) (Sl.of_owns ho1) (iv_one [n]) (by simp; omega) (by simp; omega) (by omega) fun v' w2 h1 hm hblk => ?_
  refine hk v' w2 (by simpa [iv] using h1) ((Mod.of_ext x1).trans hm) fun k hk => ?_
  rcases hblk k hk with h | h
  · exact .inl h
  · exact .inr (by omega)
theorem EditionSeveral_ret {c : SChart} {C : Cht} {v : Value} {l : List Int} {s o : Int} {keep : BitVec 64} (w : World) (hc : ChartIs w c C) (hok : ChartOk C) (hv : IntsIs w v l) (hl : ∀ n ∈ l, I64 n) (hT : Tab w) :
    Ret Tryz.prog 9 #[.agg c.cells.toArray, v, u64v keep, .int .i64 s, .int .i64 o] w (TrueQ w) := by
  refine ret_of (fun _ _ => sh_landfalllaw29_EditionSeveral_ok _ _ _ _ _) fun R hR => ?_
  unfold sh_landfalllaw29_EditionSeveral
  refine box_i fun g w1 x1 hat1 hg1 _ => ?_
  have hat1 : At w1 g (.cells c.cells.toArray 26 (0, 0)) := hat1
  refine callF_ret (head29_ret w1 (hT.ext x1)) ?_
  rintro _ w3 ⟨rfl, x3⟩
  have x03 := x1.trans x3
  have h1 := hat1.ext x3
  have hg : ∀ V, Ext w3 V → Has V g 0 c.cells := fun V x => has_of_at (h1.ext x)
  refine join0 (fun W => Ext w3 W ∧ l.length ≤ 60) ?_ fun K4 hK4 => ?_
  · rintro _ W ⟨xW, hn⟩
    have x0W := x03.trans xW
    rw [SChart.g_all (hg W xW)]
    refine callF_ret (ediMake_ret (s := s) (o := o) w W x0W (hc.ext x0W) (hc.pts.ext x0W) hok (hv.ext x0W) hl hn (hT.ext x0W)) ?_
    rintro _ w4 ⟨⟨t, u, rfl, ht, hu⟩, x4⟩
    rw [ext3_0, ext3_1, ext3_2]
    refine pair_new fun b10 b11 w5 x5 hat10 hat11 hb10 hb11 _ => ?_
    have x35 := (xW.trans x4).trans x5
    have x05 := x03.trans x35
    have huV : ∀ V, Ext w5 V → ChartIs V u (makeV C l s o).2.1 := fun V x => (hu.mod (Mod.of_ext (x5.trans x))).is
    have g11 : ∀ V, Ext w5 V → Has V b11 0 u.cells := fun V x => has_of_at (hat11.ext x)
    rcases makeV_cases C l s o with hm | ⟨e, he, hm⟩
    · rw [makeV_ok hm] at huV ⊢
      have huV : ∀ V, Ext w5 V → ChartIs V u (nextC C l) := huV
      have hG := hm.good
      obtain ⟨v1, v2⟩ := good_ver hG
      rw [bin_neq]
      refine Br_i (fun hb => absurd hb (by simp)) fun _ => ?_
      rw [(hv.ext x05).len]
      refine loop3 (fun a b k V => ∃ (i : Nat) (A B : List Int), i ≤ l.length ∧ k = .int .i64 i ∧ Split (l.take i) A B ∧ Ext w5 V ∧ V.ownsRow w5.heap.size 3 1 a A.length (iv A) ∧ V.ownsRow w5.heap.size 3 1 b B.length (iv B) ∧ (∀ j, a.ownBlock = some j → b.ownBlock = some j → False)) (fun _ _ k _ => l.length - (intOf k).toNat)
        ⟨0, [], [], by omega, rfl, .nil, Ext.refl _, Own.nil _ _ _ _, Own.nil _ _ _ _, fun j h => by cases h⟩ ?_
      rintro hh a b _ V ha hb hk ⟨i, A, B, hi, rfl, hsp, x5V, hoA, hoB, hdis⟩ K hK
      rw [hk, bin_lss]
      have hAl := hsp.len
      have htl : (l.take i).length ≤ l.length := by rw [List.length_take]; omega
      refine Br_i (fun hb' => ?_) fun hb' => ?_
      · have hlt : i < l.length := by have := dec_t hb'; omega
        obtain ⟨a1, i1, g1⟩ := hv.at_ hlt
        have z5V := x5V.size
        have htk : l.take (i + 1) = l.take i ++ [l[i]] := List.take_succ_eq_append_getElem hlt
        refine join2 (fun a' b' V' => ∃ A' B', Split (l.take (i + 1)) A' B' ∧ Ext w5 V' ∧ V'.ownsRow w5.heap.size 3 1 a' A'.length (iv A') ∧ V'.ownsRow w5.heap.size 3 1 b' B'.length (iv B') ∧ (∀ j, a'.ownBlock = some j → b'.ownBlock = some j → False)) ?_ fun K25 hK25 => ?_
        · rintro _ a' b' V' ha' hb' ⟨A', B', h1, h2, h3, h4, h5⟩
          rw [bin_add, i64_wrap (by omega) (by omega), ha', hb']
          exact hK _ _ _ _ ⟨i + 1, A', B', by omega, by simp, h1, h2, h3, h4, h5⟩ (by simp [intOf]; omega)
        · rw [i1, g1 V (x05.trans x5V), bin_rem (by decide), show u64v keep = .int .u64 (keep.toNat : Int) from rfl, bin_shr (by rw [Int.tmod_eq_emod_of_nonneg (by omega)]; omega), bin_and, bin_eql]
          refine Br_i (fun _ => ?_) fun _ => ?_
          · rw [ha]
            refine app_int2 hoA (by omega) z5V fun a' V' ho' m' hblk => ?_
            have x5V' : Ext w5 V' := ((Mod.of_ext x5V : Mod (w5.heap.size ≤ ·) w5 V).trans (m'.mono fun k _ hk => (Own.block hoA hk).1)).new
            refine hK25 _ _ _ ⟨A ++ [l[i]], B, by rw [htk]; exact .left hsp, x5V', ho', by rw [hb]; exact Own.mod hoB m' fun j hj hja => hdis j hja hj, fun j h1 h2 => ?_⟩
            rw [hb] at h2
            rcases hblk j h1 with h | h
            · exact hdis j h h2
            · have := (Own.block hoB h2).2; omega
          · rw [hb]
            refine app_int2 hoB (by omega) z5V fun b' V' ho' m' hblk => ?_
            have x5V' : Ext w5 V' := ((Mod.of_ext x5V : Mod (w5.heap.size ≤ ·) w5 V).trans (m'.mono fun k _ hk => (Own.block hoB hk).1)).new
            refine hK25 _ _ _ ⟨A, B ++ [l[i]], by rw [htk]; exact .right hsp, x5V', by rw [ha]; exact Own.mod hoA m' fun j hj hja => hdis j hj hja, ho', fun j h1 h2 => ?_⟩
            rw [ha] at h1
            rcases hblk j h2 with h | h
            · exact hdis j h1 h
            · have := (Own.block hoA h1).2; omega
      · have hie : i = l.length := by have := dec_f hb'; omega
        subst hie
        rw [List.take_length] at hsp
        clear hK
        have x3V := x35.trans x5V
        have x0V := x05.trans x5V
        have hlA : ∀ n ∈ A, I64 n := fun n hn => hl n (hsp.subl.1.subset hn)
        have hlB : ∀ n ∈ B, I64 n := fun n hn => hl n (hsp.subl.2.subset hn)
        have hAl := hsp.len
        have mA : MkOk C A s o := ⟨hG, hm.s, hm.o, split_first hm.void hsp, hm.ver⟩
        rw [SChart.g_all (hg V x3V), ha]
        refine callF_ret (ediMake_ret (s := s) (o := o) V V (Ext.refl _) (hc.ext x0V) (hc.ext x0V).pts hok (Sl.of_owns hoA) hlA (by omega) (hT.ext x0V)) ?_
        rintro _ w6 ⟨⟨t6, u6, rfl, ht6, hu6⟩, x6⟩
        rw [makeV_ok mA] at hu6 ⊢
        rw [ext3_0, ext3_1, ext3_2]
        refine pair_new fun b19 b20 w7 x7 hat19 hat20 hb19 hb20 _ => ?_
        have hu7 : ChartIs w7 u6 (nextC C A) := (hu6.mod (Mod.of_ext x7)).is
        have xV7 := x6.trans x7
        have x07 := x0V.trans xV7
        have hnG := next_good (l := A) hG hm.ver
        have hnok := next_ok (l := A) hok v2
        rw [SChart.g_all (has_of_at hat20), hb]
        refine callF_ret (ediMake_ret (s := s) (o := o) w7 w7 (Ext.refl _) hu7 hu7.pts hnok (Sl.of_owns (Own.ext hoB xV7)) hlB (by omega) (hT.ext x07)) ?_
        rintro _ w8 ⟨⟨t8, u8, rfl, ht8, hu8⟩, x8⟩
        by_cases hver : 1000000 ≤ (nextC C A).ver
        · have hmk : makeV (nextC C A) B s o = (noI, noC, 2) := by
            unfold makeV
            rw [if_pos (by rw [valid_iff.2 hnG, hm.s, hm.o]; rfl), if_pos (voids_iff.2 (split_second hm.void hsp)), if_pos hver]
          rw [hmk, ext3_0, ext3_1, ext3_2]
          refine pair_new fun b22 b23 w9 x9 _ _ _ _ _ => ?_
          rw [bin_eql]
          refine Br_i (fun _ => ?_) fun hb => absurd hb (by simp)
          refine Gd_i (fun _ => ?_) fun hb => by cases hb
          have hv9 : C.ver = 999999 := by
            have h9 : (1000000 : Int) ≤ C.ver + 1 := hver
            have := hm.ver
            omega
          rw [SChart.g_ver (hg w9 (((x3V.trans xV7).trans x8).trans x9)), hc.ver, bin_eql]
          exact hR _ _ ⟨by rw [decide_eq_true hv9], (x07.trans x8).trans x9⟩
        · have mB : MkOk (nextC C A) B s o := ⟨hnG, hm.s, hm.o, split_second hm.void hsp, by omega⟩
          rw [makeV_ok mB] at hu8 ⊢
          rw [ext3_0, ext3_1, ext3_2]
          refine pair_new fun b22 b23 w9 x9 hat22 hat23 hb22 hb23 _ => ?_
          have hu8' : ChartIs w8 u8 (nextC (nextC C A) B) := hu8.is
          have hve : u8.ver = C.ver + 1 + 1 := hu8'.ver
          rw [bin_eql]
          refine Br_i (fun hb => absurd hb (by simp)) fun _ => ?_
          rw [SChart.g_ver (has_of_at hat23), hve, bin_sub, i64_wrap (by omega) (by omega), show C.ver + 1 + 1 - 1 = C.ver + 1 by omega]
          refine SChart.s_ver (x := C.ver + 1) hat23 fun w10 m10 hat23' s10 => ?_
          have x810 : Ext w8 w10 := ext_step15 x9 m10 (by omega)
          have x710 := x8.trans x810
          have x510 := (x5V.trans xV7).trans x710
          have hfin : ∀ V', Ext w10 V' → ChartIs V' { u8 with ver := C.ver + 1 } (nextC C l) := fun V' x => by
            have h := hu8'.ext (x810.trans x)
            exact ⟨rfl, h.x, h.y, h.w, h.h, h.size, by rw [← split_cells hm.void hsp]; exact h.cells, h.beacons, h.lines⟩
          refine Gd_i (fun _ => ?_) fun hb => by cases hb
          rw [bin_eql]
          refine gd_d rfl ?_
          rw [bin_eql]
          refine gd_d rfl ?_
          rw [SChart.g_all (has_of_at hat23'), SChart.g_all (g11 w10 x510)]
          have hS := good_size (next_good (l := l) hG hm.ver)
          refine callF_ret (refSame_ret w10 (hfin _ (Ext.refl _)) (huV _ x510) hS hS) ?_
          rintro _ w11 ⟨rfl, x11⟩
          exact hR _ _ ⟨by rw [decide_eq_true rfl], (x07.trans x710).trans x11⟩
    · rw [hm]
      rw [bin_neq]
      exact Br_i (fun _ => hR _ _ ⟨rfl, x05⟩) fun hb => absurd hb (by simp [he])
  · refine join1 (fun q W => ∃ t : Bool, q = .bool t ∧ Ext w3 W ∧ (t = false → l.length ≤ 60)) ?_ fun K5 hK5 => ?_
    · rintro _ _ W hq ⟨t, rfl, xW, ht⟩
      rw [hq]
      exact Br_i (fun _ => hR _ _ ⟨rfl, x03.trans xW⟩) fun hb => hK4 _ ⟨xW, ht hb⟩
    · rw [SChart.g_all (hg w3 (Ext.refl _))]
      refine callF_ret (few15_ret w3 (hc.ext x03)) ?_
      rintro _ w4 ⟨⟨t, rfl, _⟩, x4⟩
      rw [un_not]
      refine Gd_i (fun _ => ?_) fun hb => hK5 _ _ ⟨true, rfl, x4, fun h => by cases h⟩
      rw [(hv.ext (x03.trans x4)).len, bin_gtr]
      refine hK5 _ _ ⟨_, rfl, x4, fun h => ?_⟩
      have h2 := dec_f h
      omega
end Go.Proofs.YtnbcdaonkdffkaaGreatDoor
namespace Go.Proofs.YtnbcdaonkdffkaaGreatDoor
set_option maxRecDepth 100000
set_option maxHeartbeats 16000000
open Sh Go.RowKit Edi Cha
def KJ (W0 : World) (f : Nat → Value) (X : SCell) (pv : Nat → Option Value) (W : World) : Prop :=
  Ext W0 W ∧ (∀ k, k < 10 → pv k ≠ none → vl pv k = f k) ∧
  (pv 10 ≠ none → ∃ a, vl pv 10 = .pointer (some ⟨a, 0, none⟩) ∧ W0.heap.size ≤ a ∧ At W a (.cells (if pv 12 = none then SCell.zero else X).cells.toArray 78 (0, 0))) ∧
  (pv 11 ≠ none → ∃ b, vl pv 11 = .pointer (some ⟨b, 0, none⟩) ∧ W0.heap.size ≤ b ∧ At W b (.cells SCell.zero.cells.toArray 78 (0, 0))) ∧
  (pv 10 ≠ none → pv 11 ≠ none → vl pv 10 ≠ vl pv 11) ∧ (pv 12 ≠ none → pv 10 ≠ none ∧ pv 11 ≠ none)
theorem KJ.step {W0 : World} {f : Nat → Value} {X : SCell} {pv : Nat → Option Value} {W : World} (h : KJ W0 f X pv W) {j : Nat} (hj : j < 10) {v : Value} (hv : v = f j) : KJ W0 f X (pvSet pv j v) W := by
  obtain ⟨x, h1, h2, h3, h4, h5⟩ := h
  have e10 : pvSet pv j v 10 = pv 10 := by rw [pv_set15, if_neg (by omega)]
  have e11 : pvSet pv j v 11 = pv 11 := by rw [pv_set15, if_neg (by omega)]
  have e12 : pvSet pv j v 12 = pv 12 := by rw [pv_set15, if_neg (by omega)]
  have l10 : vl (pvSet pv j v) 10 = vl pv 10 := by rw [vl_set15, if_neg (by omega)]
  have l11 : vl (pvSet pv j v) 11 = vl pv 11 := by rw [vl_set15, if_neg (by omega)]
  refine ⟨x, fun k hk hn => ?_, by rw [e10, e12, l10]; exact h2, by rw [e11, l11]; exact h3, by rw [e10, e11, l10, l11]; exact h4, by rw [e10, e11, e12]; exact h5⟩
  rw [vl_set15]
  by_cases hkj : k = j
  · rw [if_pos hkj, hv, hkj]
  · rw [if_neg hkj]
    rw [pv_set15, if_neg hkj] at hn
    exact h1 k hk hn
theorem keeps_cells {W0 : World} {g b13 : Nat} {kk p q : Value} {c u : SChart} {X Y : SCell} {fin : (Nat → Option Value) → World → Prop}
    (hg : ∀ V, Ext W0 V → Has V g 0 c.cells) (h13 : ∀ V, Ext W0 V → Has V b13 0 u.cells)
    (ip : ∀ (w1 : World) (K : Value → World → Prop) (Z : List PanicEntry → World → Prop), DoV Tryz.prog (Instr.indexAt 22 c.cs.val kk) w1 K Z = K p w1)
    (iq : ∀ (w1 : World) (K : Value → World → Prop) (Z : List PanicEntry → World → Prop), DoV Tryz.prog (Instr.indexAt 22 u.cs.val kk) w1 K Z = K q w1)
    (lp : ∀ V, Ext W0 V → ∀ (K : Value → World → Prop) (Z : List PanicEntry → World → Prop), DoV Tryz.prog (Instr.loadAt 78 p) V K Z = K (.agg X.cells.toArray) V)
    (lq : ∀ V, Ext W0 V → ∀ (K : Value → World → Prop) (Z : List PanicEntry → World → Prop), DoV Tryz.prog (Instr.loadAt 78 q) V K Z = K (.agg Y.cells.toArray) V)
    {Z0 Z1 Z3 Z4 Z5 Z6 Z8 Z9 Z10 Z11 Z12 : List PanicEntry → World → Prop}
    (hf : ∀ pv W a b, Ext W0 W → vl pv 10 = .pointer (some ⟨a, 0, none⟩) → vl pv 11 = .pointer (some ⟨b, 0, none⟩) → vl pv 9 = .agg Y.cells.toArray → W0.heap.size ≤ a → W0.heap.size ≤ b → a ≠ b → At W a (.cells X.cells.toArray 78 (0, 0)) → At W b (.cells SCell.zero.cells.toArray 78 (0, 0)) → fin pv W) :
    JointE W0 (fun J => JOp J 0 [] (fun _ w K => DoV Tryz.prog (Instr.fieldAt 26 (.pointer (some ⟨g, 0, none⟩)) 6) w K Z0) ∧ JOp J 1 [0] (fun pv w K => DoV Tryz.prog (Instr.loadAt 22 (vl pv 0)) w K Z1) ∧ JOp J 2 [] (fun _ w K => K kk w) ∧
      JOp J 3 [1, 2] (fun pv w K => DoV Tryz.prog (Instr.indexAt 22 (vl pv 1) (vl pv 2)) w K Z3) ∧ JOp J 4 [3] (fun pv w K => DoV Tryz.prog (Instr.loadAt 78 (vl pv 3)) w K Z4) ∧
      JOp J 5 [] (fun _ w K => DoV Tryz.prog (Instr.fieldAt 26 (.pointer (some ⟨b13, 0, none⟩)) 6) w K Z5) ∧ JOp J 6 [5] (fun pv w K => DoV Tryz.prog (Instr.loadAt 22 (vl pv 5)) w K Z6) ∧ JOp J 7 [] (fun _ w K => K kk w) ∧
      JOp J 8 [6, 7] (fun pv w K => DoV Tryz.prog (Instr.indexAt 22 (vl pv 6) (vl pv 7)) w K Z8) ∧ JOp J 9 [8] (fun pv w K => DoV Tryz.prog (Instr.loadAt 78 (vl pv 8)) w K Z9) ∧
      JOp J 10 [] (fun _ w K => DoV Tryz.prog (Instr.alloc 78 true (.tuple #[])) w K Z10) ∧ JOp J 11 [] (fun _ w K => DoV Tryz.prog (Instr.alloc 78 true (.tuple #[])) w K Z11) ∧
      JOp J 12 [10, 4, 0, 1, 2, 3, 4, 10, 11] (fun pv w K => DoU Tryz.prog (Instr.storeAt 78 (vl pv 10) (vl pv 4)) w K Z12) ∧ JEnd J 13 fin) := by
  let f : Nat → Value := fun k => if k = 0 then .pointer (some ⟨g, 6, none⟩) else if k = 1 then c.cs.val else if k = 2 then kk else if k = 3 then p else if k = 4 then .agg X.cells.toArray else if k = 5 then .pointer (some ⟨b13, 6, none⟩) else if k = 6 then u.cs.val else if k = 7 then kk else if k = 8 then q else .agg Y.cells.toArray
  have cs_agg : ∀ w, (isAgg 22).run Tryz.prog w = .ok false w := fun w => by kernel_rfl
  refine ⟨KJ W0 f X, ⟨Ext.drew W0, fun k _ h => absurd rfl h, fun h => absurd rfl h, fun h => absurd rfl h, fun h => absurd rfl h, fun h => absurd rfl h⟩, ?_, ?_, ?_, ?_, ?_, ?_, ?_, ?_, ?_, ?_, ?_, ?_, ?_, ?_⟩
  · intro pv W h _ _
    rw [Ty.SChart_f6]
    exact h.step (by decide) (by rw [Nat.zero_add]; rfl)
  · intro pv W h _ hd
    rw [h.2.1 0 (by decide) (hd 0 (by simp))]
    show DoV _ (Instr.loadAt _ (.pointer (some ⟨g, 6, none⟩))) _ _ _
    rw [load_cell (u := c.cs.val) cs_agg (has_at (hg W h.1) (d := 6) rfl rfl)]
    exact h.step (by decide) rfl
  · intro pv W h _ _
    exact h.step (by decide) rfl
  · intro pv W h _ hd
    rw [h.2.1 1 (by decide) (hd 1 (by simp)), h.2.1 2 (by decide) (hd 2 (by simp))]
    show DoV _ (Instr.indexAt _ c.cs.val kk) _ _ _
    rw [ip]
    exact h.step (by decide) rfl
  · intro pv W h _ hd
    rw [h.2.1 3 (by decide) (hd 3 (by simp))]
    show DoV _ (Instr.loadAt _ p) _ _ _
    rw [lp W h.1]
    exact h.step (by decide) rfl
  · intro pv W h _ _
    rw [Ty.SChart_f6]
    exact h.step (by decide) (by rw [Nat.zero_add]; rfl)
  · intro pv W h _ hd
    rw [h.2.1 5 (by decide) (hd 5 (by simp))]
    show DoV _ (Instr.loadAt _ (.pointer (some ⟨b13, 6, none⟩))) _ _ _
    rw [load_cell (u := u.cs.val) cs_agg (has_at (h13 W h.1) (d := 6) rfl rfl)]
    exact h.step (by decide) rfl
  · intro pv W h _ _
    exact h.step (by decide) rfl
  · intro pv W h _ hd
    rw [h.2.1 6 (by decide) (hd 6 (by simp)), h.2.1 7 (by decide) (hd 7 (by simp))]
    show DoV _ (Instr.indexAt _ u.cs.val kk) _ _ _
    rw [iq]
    exact h.step (by decide) rfl
  · intro pv W h _ hd
    rw [h.2.1 8 (by decide) (hd 8 (by simp))]
    show DoV _ (Instr.loadAt _ q) _ _ _
    rw [lq W h.1]
    exact h.step (by decide) rfl
  · rintro pv W ⟨x, h1, h2, h3, h4, h5⟩ hn _
    have h12 : pv 12 = none := by
      cases hq : pv 12 with
      | none => rfl
      | some v => exact absurd hn (h5 (by rw [hq]; simp)).1
    refine alloc_i Ty.SCell_zero fun a W2 x2 hat ha _ => ?_
    have zx := x.size
    refine ⟨x.trans x2, fun k hk hkn => ?_, fun _ => ⟨a, by rw [vl_set15, if_pos rfl], by omega, ?_⟩, fun hk => ?_, fun _ hk => ?_, fun hk => ?_⟩
    · rw [vl_set15, if_neg (by omega)]
      rw [pv_set15, if_neg (by omega)] at hkn
      exact h1 k hk hkn
    · rw [if_pos (show pvSet pv 10 _ 12 = none by rw [pv_set15, if_neg (by decide)]; exact h12)]; exact hat
    · rw [pv_set15, if_neg (by decide)] at hk
      obtain ⟨b, e, hb, hatb⟩ := h3 hk
      exact ⟨b, by rw [vl_set15, if_neg (by decide)]; exact e, hb, hatb.ext x2⟩
    · rw [pv_set15, if_neg (by decide)] at hk
      obtain ⟨b, e, hb, hatb⟩ := h3 hk
      rw [vl_set15, if_pos rfl, vl_set15, if_neg (by decide), e]
      have := hatb.lt
      intro he
      injection he with he; injection he with he; injection he with he
      omega
    · rw [pv_set15, if_neg (by decide)] at hk
      exact absurd h12 hk
  · rintro pv W ⟨x, h1, h2, h3, h4, h5⟩ hn _
    have h12 : pv 12 = none := by
      cases hq : pv 12 with
      | none => rfl
      | some v => exact absurd hn (h5 (by rw [hq]; simp)).2
    refine alloc_i Ty.SCell_zero fun a W2 x2 hat ha _ => ?_
    have zx := x.size
    refine ⟨x.trans x2, fun k hk hkn => ?_, fun hk => ?_, fun _ => ⟨a, by rw [vl_set15, if_pos rfl], by omega, hat⟩, fun hk _ => ?_, fun hk => ?_⟩
    · rw [vl_set15, if_neg (by omega)]
      rw [pv_set15, if_neg (by omega)] at hkn
      exact h1 k hk hkn
    · rw [pv_set15, if_neg (by decide)] at hk
      obtain ⟨b, e, hb, hatb⟩ := h2 hk
      exact ⟨b, by rw [vl_set15, if_neg (by decide)]; exact e, hb, by rw [show pvSet pv 11 _ 12 = pv 12 by rw [pv_set15, if_neg (by decide)]]; exact hatb.ext x2⟩
    · rw [pv_set15, if_neg (by decide)] at hk
      obtain ⟨b, e, hb, hatb⟩ := h2 hk
      rw [vl_set15, if_neg (by decide), vl_set15, if_pos rfl, e]
      have := hatb.lt
      intro he
      injection he with he; injection he with he; injection he with he
      omega
    · rw [pv_set15, if_neg (by decide)] at hk
      exact absurd h12 hk
  · rintro pv W ⟨x, h1, h2, h3, h4, h5⟩ hn hd
    have d10 := hd 10 (by simp)
    have d11 := hd 11 (by simp)
    obtain ⟨a, e, ha, hat⟩ := h2 d10
    obtain ⟨b, e', hb, hatb⟩ := h3 d11
    have hne : a ≠ b := fun h => h4 d10 d11 (by rw [e, e', h])
    rw [if_pos hn] at hat
    rw [e, h1 4 (by decide) (hd 4 (by simp))]
    show DoU _ (Instr.storeAt _ _ (.agg X.cells.toArray)) _ _ _
    refine SCell.set (r := SCell.zero) hat fun W2 m2 hat2 s2 => ?_
    have x2 : Ext W0 W2 := ((Mod.of_ext x : Mod (W0.heap.size ≤ ·) W0 W).trans (m2.mono fun k _ h => by omega)).new
    have p10 : pvSet pv 12 undef 10 = pv 10 := by rw [pv_set15, if_neg (by decide)]
    have p11 : pvSet pv 12 undef 11 = pv 11 := by rw [pv_set15, if_neg (by decide)]
    have q10 : vl (pvSet pv 12 undef) 10 = vl pv 10 := by rw [vl_set15, if_neg (by decide)]
    have q11 : vl (pvSet pv 12 undef) 11 = vl pv 11 := by rw [vl_set15, if_neg (by decide)]
    refine ⟨x2, fun k hk hkn => ?_, fun _ => ⟨a, by rw [q10, e], ha, ?_⟩, fun _ => ⟨b, by rw [q11, e'], hb, hatb.mod m2 (fun h => hne h.symm)⟩, fun _ _ => by rw [q10, q11]; exact h4 d10 d11, fun _ => by rw [p10, p11]; exact ⟨d10, d11⟩⟩
    · rw [vl_set15, if_neg (by omega)]
      rw [pv_set15, if_neg (by omega)] at hkn
      exact h1 k hk hkn
    · rw [if_neg (show pvSet pv 12 undef 12 ≠ none by rw [pv_set15, if_pos rfl]; simp)]; exact hat2
  · rintro pv W ⟨x, h1, h2, h3, h4, h5⟩ hall
    have d10 := hall 10 (by decide)
    have d11 := hall 11 (by decide)
    obtain ⟨a, e, ha, hat⟩ := h2 d10
    obtain ⟨b, e', hb, hatb⟩ := h3 d11
    have hne : a ≠ b := fun h => h4 d10 d11 (by rw [e, e', h])
    rw [if_neg (hall 12 (by decide))] at hat
    exact hf pv W a b x e e' (h1 9 (by decide) (hall 9 (by decide))) ha hb hne hat hatb
def BJ (W0 : World) (b : Nat) (f : Nat → Value) (s t : SChart) (pv : Nat → Option Value) (W : World) : Prop :=
  Mod (· = b) W0 W ∧ (∀ k, k < 5 → pv k ≠ none → vl pv k = f k) ∧ At W b (.cells (if pv 5 = none then s else t).cells.toArray 26 (0, 0))
theorem BJ.step {W0 : World} {b : Nat} {f : Nat → Value} {s t : SChart} {pv : Nat → Option Value} {W : World} (h : BJ W0 b f s t pv W) {j : Nat} (hj : j < 5) {v : Value} (hv : v = f j) : BJ W0 b f s t (pvSet pv j v) W := by
  obtain ⟨m, h1, h2⟩ := h
  have e5 : pvSet pv j v 5 = pv 5 := by rw [pv_set15, if_neg (by omega)]
  refine ⟨m, fun k hk hn => ?_, by rw [e5]; exact h2⟩
  rw [vl_set15]
  by_cases hkj : k = j
  · rw [if_pos hkj, hv, hkj]
  · rw [if_neg hkj]
    rw [pv_set15, if_neg hkj] at hn
    exact h1 k hk hn
theorem keeps_bare {W0 : World} {g b : Nat} {c u : SChart} {fin : (Nat → Option Value) → World → Prop}
    (hg : ∀ V, Mod (· = b) W0 V → Has V g 0 c.cells) (hb : At W0 b (.cells u.cells.toArray 26 (0, 0)))
    {Z0 Z1 Z2 Z3 Z4 Z5 : List PanicEntry → World → Prop}
    (hf : ∀ pv W, Mod (· = b) W0 W → vl pv 3 = c.cs.val → At W b (.cells ({ u with ver := c.ver } : SChart).cells.toArray 26 (0, 0)) → fin pv W) :
    JointE W0 (fun J => JOp J 0 [] (fun _ w K => DoV Tryz.prog (Instr.fieldAt 26 (.pointer (some ⟨g, 0, none⟩)) 0) w K Z0) ∧ JOp J 1 [0] (fun pv w K => DoV Tryz.prog (Instr.loadAt 3 (vl pv 0)) w K Z1) ∧
      JOp J 2 [] (fun _ w K => DoV Tryz.prog (Instr.fieldAt 26 (.pointer (some ⟨g, 0, none⟩)) 6) w K Z2) ∧ JOp J 3 [2] (fun pv w K => DoV Tryz.prog (Instr.loadAt 22 (vl pv 2)) w K Z3) ∧
      JOp J 4 [0, 1] (fun _ w K => DoV Tryz.prog (Instr.fieldAt 26 (.pointer (some ⟨b, 0, none⟩)) 0) w K Z4) ∧ JOp J 5 [4, 1, 0, 1] (fun pv w K => DoU Tryz.prog (Instr.storeAt 3 (vl pv 4) (vl pv 1)) w K Z5) ∧ JEnd J 6 fin) := by
  let f : Nat → Value := fun k => if k = 0 then .pointer (some ⟨g, 0, none⟩) else if k = 1 then .int .i64 c.ver else if k = 2 then .pointer (some ⟨g, 6, none⟩) else if k = 3 then c.cs.val else .pointer (some ⟨b, 0, none⟩)
  have cs_agg : ∀ w, (isAgg 22).run Tryz.prog w = .ok false w := fun w => by kernel_rfl
  refine ⟨BJ W0 b f u { u with ver := c.ver }, ⟨Mod.of_ext (Ext.drew W0), fun k _ h => absurd rfl h, by rw [if_pos rfl]; exact hb.ext (Ext.drew W0)⟩, ?_, ?_, ?_, ?_, ?_, ?_, ?_⟩
  · intro pv W h _ _
    rw [Ty.SChart_f0]
    exact h.step (by decide) rfl
  · intro pv W h _ hd
    rw [h.2.1 0 (by decide) (hd 0 (by simp))]
    show DoV _ (Instr.loadAt _ (.pointer (some ⟨g, 0, none⟩))) _ _ _
    rw [load_cell (u := .int .i64 c.ver) Ty.int_agg (has_at (hg W h.1) (d := 0) (by decide) rfl)]
    exact h.step (by decide) rfl
  · intro pv W h _ _
    rw [Ty.SChart_f6]
    exact h.step (by decide) (by rw [Nat.zero_add]; rfl)
  · intro pv W h _ hd
    rw [h.2.1 2 (by decide) (hd 2 (by simp))]
    show DoV _ (Instr.loadAt _ (.pointer (some ⟨g, 6, none⟩))) _ _ _
    rw [load_cell (u := c.cs.val) cs_agg (has_at (hg W h.1) (d := 6) rfl rfl)]
    exact h.step (by decide) rfl
  · intro pv W h _ _
    rw [Ty.SChart_f0]
    exact h.step (by decide) rfl
  · rintro pv W ⟨m, h1, h2⟩ hn hd
    rw [h1 4 (by decide) (hd 4 (by simp)), h1 1 (by decide) (hd 1 (by simp))]
    rw [if_pos hn] at h2
    show DoU _ (Instr.storeAt _ (.pointer (some ⟨b, 0, none⟩)) (.int .i64 c.ver)) _ _ _
    refine store_i (o := 0) Ty.int_size h2 (by show 0 < 9; omega) rfl fun W2 m2 hat2 s2 => ?_
    refine ⟨m.trans m2, fun k hk hkn => ?_, ?_⟩
    · rw [vl_set15, if_neg (by omega)]
      rw [pv_set15, if_neg (by omega)] at hkn
      exact h1 k hk hkn
    · rw [if_neg (show pvSet pv 5 undef 5 ≠ none by rw [pv_set15, if_pos rfl]; simp)]; exact hat2
  · rintro pv W ⟨m, h1, h2⟩ hall
    rw [if_neg (hall 5 (by decide))] at h2
    exact hf pv W m (h1 3 (by decide) (hall 3 (by decide))) h2
end Go.Proofs.YtnbcdaonkdffkaaGreatDoor
namespace Go.Proofs.YtnbcdaonkdffkaaGreatDoor
set_option maxRecDepth 100000
set_option maxHeartbeats 16000000
open Sh Go.RowKit Edi Cha
theorem square_next {C : Cht} {l : List Int} {i : Int} (hG : GoodC C) (hn : GoodC (nextC C l)) : squareV (nextC C l) i = squareV C i := by
  have hlen : (nextC C l).cells.length = C.cells.length := voided_len _ _
  unfold squareV inC
  rw [hlen]
  by_cases h : 0 ≤ i ∧ i < C.cells.length
  · rw [if_pos ⟨hn, h⟩, if_pos ⟨hG, h⟩]; rfl
  · rw [if_neg fun h' => h h'.2, if_neg fun h' => h h'.2]
theorem EditionKeeps_ret {c : SChart} {C : Cht} {v : Value} {l : List Int} {s o z : Int} (w : World) (hc : ChartIs w c C) (hok : ChartOk C) (hv : IntsIs w v l) (hl : ∀ n ∈ l, I64 n) (hz : 0 ≤ z ∧ z < 65536) (hT : Tab w) :
    Ret Tryz.prog 10 #[.agg c.cells.toArray, v, .int .i64 s, .int .i64 o, .int .u16 z] w (TrueQ w) := by
  refine ret_of (fun _ _ => sh_landfalllaw29_EditionKeeps_ok _ _ _ _ _) fun R hR => ?_
  unfold sh_landfalllaw29_EditionKeeps
  refine box_i fun g w1 x1 hat1 hg1 _ => ?_
  have hat1 : At w1 g (.cells c.cells.toArray 26 (0, 0)) := hat1
  refine callF_ret (head29_ret w1 (hT.ext x1)) ?_
  rintro _ w3 ⟨rfl, x3⟩
  have x03 := x1.trans x3
  have h1 := hat1.ext x3
  have hg : ∀ V, Ext w3 V → Has V g 0 c.cells := fun V x => has_of_at (h1.ext x)
  refine join0 (fun W => Ext w3 W ∧ l.length ≤ 60) ?_ fun K4 hK4 => ?_
  · rintro _ W ⟨xW, hn⟩
    have x0W := x03.trans xW
    rw [SChart.g_all (hg W xW)]
    refine callF_ret (ediMake_ret (s := s) (o := o) w W x0W (hc.ext x0W) (hc.pts.ext x0W) hok (hv.ext x0W) hl hn (hT.ext x0W)) ?_
    rintro _ w4 ⟨⟨t, u, rfl, ht, hu⟩, x4⟩
    rw [ext3_0, ext3_1, ext3_2]
    refine pair_new fun b12 b13 w5 x5 hat12 hat13 hb12 hb13 _ => ?_
    have x35 := (xW.trans x4).trans x5
    have x05 := x03.trans x35
    have huV : ∀ V, Ext w5 V → ChartIs V u (makeV C l s o).2.1 := fun V x => (hu.mod (Mod.of_ext (x5.trans x))).is
    have g13 : ∀ V, Ext w5 V → Has V b13 0 u.cells := fun V x => has_of_at (hat13.ext x)
    refine join0 (fun V => Ext w5 V ∧ MkOk C l s o) ?_ fun K21 hK21 => ?_
    · rintro _ V ⟨x5V, hm⟩
      rw [makeV_ok hm] at huV
      have huV : ∀ V, Ext w5 V → ChartIs V u (nextC C l) := huV
      have hG := hm.good
      obtain ⟨v1, v2⟩ := good_ver hG
      have hnG := next_good (l := l) hG hm.ver
      have hnok := next_ok (l := l) hok v2
      have hlen : (nextC C l).cells.length = C.cells.length := voided_len _ _
      have hsz := (good_size hG).1
      have hl0 : ∀ x ∈ l, 0 ≤ x := fun x hx => ((voidsP_iff.1 hm.void).2 x hx).1
      have hgV : ∀ V, Ext w5 V → Has V g 0 c.cells := fun V x => hg V (x35.trans x)
      have hcV : ∀ V, Ext w5 V → ChartIs V c C := fun V x => hc.ext (x05.trans x)
      rw [SChart.g_cs (g13 V x5V), SCell.row_len (huV V x5V).cells, SChart.g_cs (hgV V x5V), SCell.row_len (hcV V x5V).cells, hlen, bin_neq]
      refine Br_i (fun hb => absurd hb (by simp)) fun _ => ?_
      rw [SChart.g_cs (hgV V x5V), SCell.row_len (hcV V x5V).cells]
      have hvl := Sl.le hv
      refine loop4 (fun a _ k _ W => ∃ i : Nat, i ≤ C.cells.length ∧ a = .bool true ∧ k = .int .i64 i ∧ Ext w5 W) (fun _ _ k _ _ => C.cells.length - (intOf k).toNat) ⟨0, by omega, rfl, rfl, x5V⟩ ?_
      rintro hh _ nm _ jj W2 ha hnm hk hjj ⟨i, hi, rfl, rfl, x5W⟩ K hK
      rw [hk, bin_lss]
      refine Br_i (fun hb => ?_) fun hb => ?_
      · have hlt : i < C.cells.length := by have := dec_t hb; omega
        have hlt2 : i < (nextC C l).cells.length := by omega
        refine join3 (fun a _ _ W => a = .bool true ∧ Ext w5 W) ?_ fun K41 hK41 => ?_
        · rintro _ _ _ _ W3 ha' _ _ ⟨rfl, x5W3⟩
          rw [bin_add, i64_wrap (by omega) (by omega), ha']
          exact hK _ _ _ _ _ ⟨i + 1, by omega, rfl, by simp, x5W3⟩ (by simp [intOf]; omega)
        · rw [(hv.ext (x05.trans x5W)).len]
          refine loop2 (fun a k W => ∃ j : Nat, j ≤ l.length ∧ a = .bool (decide ((i : Int) ∈ l.take j)) ∧ k = .int .i64 j ∧ Ext w5 W) (fun _ k _ => l.length - (intOf k).toNat) ⟨0, by omega, by simp, rfl, x5W⟩ ?_
          rintro h43 _ _ W3 ha3 hk3 ⟨j, hj, rfl, rfl, x5W3⟩ K3 hK3
          rw [hk3, bin_lss]
          refine Br_i (fun hb3 => ?_) fun hb3 => ?_
          · have hjl : j < l.length := by have := dec_t hb3; omega
            obtain ⟨a1, i1, g1⟩ := hv.at_ hjl
            have htk : l.take (j + 1) = l.take j ++ [l[j]] := List.take_succ_eq_append_getElem hjl
            refine join1 (fun a W => a = .bool (decide ((i : Int) ∈ l.take (j + 1))) ∧ Ext w5 W) ?_ fun K45 hK45 => ?_
            · rintro _ _ W4 ha4 ⟨rfl, x5W4⟩
              rw [bin_add, i64_wrap (by omega) (by omega), ha4]
              exact hK3 _ _ _ ⟨j + 1, by omega, rfl, by simp, x5W4⟩ (by simp [intOf]; omega)
            · rw [i1, g1 W3 (x05.trans x5W3), ha3]
              refine Gd_i (fun hb4 => ?_) fun hb4 => ?_
              · have hnot : ¬ (i : Int) ∈ l.take j := by simpa using hb4
                rw [bin_eql]
                refine hK45 _ _ ⟨?_, x5W3⟩
                rw [htk]
                congr 1
                rw [decide_eq_decide, List.mem_append, List.mem_singleton]
                exact ⟨fun h => .inr h.symm, fun h => h.elim (fun h => absurd h hnot) fun h => h.symm⟩
              · have hin : (i : Int) ∈ l.take j := by simpa using hb4
                exact hK45 _ _ ⟨by rw [htk, decide_eq_true (List.mem_append_left _ hin)], x5W3⟩
          · have hje : j = l.length := by have := dec_f hb3; omega
            subst hje
            rw [List.take_length] at ha3
            clear hK3
            obtain ⟨pb, po, ph, _, pix⟩ := SCell.row_at (hcV W3 x5W3).cells hlt
            obtain ⟨qb, qo, qh, _, qix⟩ := SCell.row_at (huV W3 x5W3).cells hlt2
            have hY : (nextC C l).cells[i] = { C.cells[i] with void := C.cells[i].void || decide ((i : Int) ∈ l) } := by
              have h : ((nextC C l).cells)[i]? = _ := voided_get (cs := C.cells) (i := i) hl0
              rw [List.getElem?_eq_getElem hlt, Option.map_some, List.getElem?_eq_getElem hlt2] at h
              injection h
            refine keeps_cells (X := C.cells[i]) (Y := (nextC C l).cells[i]) (c := c) (u := u) (fun V' x' => hgV V' (x5W3.trans x')) (fun V' x' => g13 V' (x5W3.trans x')) (fun w1 K Z => pix w1 K Z) (fun w1 K Z => qix w1 K Z) (fun V' x' K Z => SCell.g_all (ph V' x')) (fun V' x' K Z => SCell.g_all (qh V' x')) fun pv W4 a b x4 e10 e11 e9 ha4 hb4 hne hata hatb => ?_
            rw [e10, e11, e9]
            refine SCell.set (r := SCell.zero) hatb fun W5 m5 hatb5 s5 => ?_
            have hata5 := hata.mod m5 hne
            have x5W5 : Ext w5 W5 := x5W3.trans ((Mod.of_ext x4 : Mod (W3.heap.size ≤ ·) W3 W4).trans (m5.mono fun k _ h => by omega)).new
            have hA := has_of_at hata5
            have hB := has_of_at hatb5
            rw [ha]
            refine Gd_i (fun _ => ?_) fun hb => by cases hb
            rw [SCell.g_depth hB, SCell.g_depth hA, SSpan.eql]
            refine gd_d (by rw [hY]) ?_
            rw [SCell.g_date hB, SCell.g_date hA, bin_eql]
            refine gd_d (by rw [hY]) ?_
            rw [SCell.g_void hB, SCell.g_void hA, ha3]
            refine Gd_i (fun hb6 => ?_) fun hb6 => ?_
            · have hvf : C.cells[i].void = false := by simpa using hb6
              rw [eql_bool15]
              refine hK41 _ _ _ _ ⟨?_, x5W5⟩
              rw [hY, hvf, Bool.false_or, decide_eq_true rfl]
            · have hvt : C.cells[i].void = true := by simpa using hb6
              rw [eql_bool15]
              refine hK41 _ _ _ _ ⟨?_, x5W5⟩
              rw [hY, hvt, Bool.true_or, decide_eq_true rfl]
      · clear hK
        have hpos := good_pos hG
        rw [conv_int Ty.u16 Ty.int, i64_wrap (by omega) (by omega), SChart.g_cs (hgV W2 x5W), SCell.row_len (hcV W2 x5W).cells, bin_rem (by omega), Int.tmod_eq_emod_of_nonneg hz.1]
        have hm0 : 0 ≤ z % (C.cells.length : Int) := Int.emod_nonneg _ (by omega)
        have hm1 : z % (C.cells.length : Int) < C.cells.length := Int.emod_lt_of_pos _ (by omega)
        have hmi : I64 (z % (C.cells.length : Int)) := by constructor <;> omega
        generalize z % (C.cells.length : Int) = m at hm0 hm1 hmi
        rw [SChart.g_all (hgV W2 x5W)]
        refine callF_ret (chSquare_ret W2 (hcV W2 x5W) hok hmi) ?_
        rintro _ W3 ⟨rfl, y3⟩
        rw [ext3_0, ext3_1, ext3_2]
        refine two_new2 fun b22 b23 W4 y4 hat22 hat23 hb22 hb23 => ?_
        have x54 := (x5W.trans y3).trans y4
        rw [SChart.g_all (g13 W4 x54)]
        refine callF_ret (chSquare_ret W4 (huV W4 x54) hnok hmi) ?_
        rintro _ W5 ⟨rfl, y5⟩
        rw [square_next hG hnG, ext3_0, ext3_1, ext3_2]
        refine two_new2 fun b25 b26 W6 y6 hat25 hat26 hb25 hb26 => ?_
        have x56 := (x54.trans y5).trans y6
        rw [SChart.g_all (g13 W6 x56)]
        refine chart_new fun b28 W7 y7 hat28 hb28 => ?_
        have x57 := x56.trans y7
        have l28 := hat28.lt
        have mk7 : ∀ {V}, Mod (· = b28) W7 V → Ext W6 V := fun m => ((Mod.of_ext y7 : Mod (W6.heap.size ≤ ·) W6 W7).trans (m.mono fun k _ h => by omega)).new
        refine keeps_bare (c := c) (u := u) (fun V' m' => hgV V' (x56.trans (mk7 m'))) hat28 fun pv W8 m8 e3 hat8 => ?_
        rw [e3]
        refine SChart.s_cs (x := c.cs) hat8 fun W9 m9 hat9 s9 => ?_
        have x69 := mk7 (m8.trans m9)
        have x59 := x56.trans x69
        have hbare : ChartIs W9 { u with ver := c.ver, cs := c.cs } C := by
          have h1 := hcV W9 x59
          have h2 := huV W9 x59
          exact ⟨h1.ver, h2.x, h2.y, h2.w, h2.h, h2.size, h1.cells, h2.beacons, h2.lines⟩
        have z6 := y6.size
        have sq0 : (squareV C m).2.2 = 0 := by unfold squareV; rw [if_pos ⟨hG, hm0, hm1⟩]
        rw [ha]
        refine Gd_i (fun _ => ?_) fun hb => by cases hb
        rw [sq0, bin_eql]
        refine gd_d rfl ?_
        rw [bin_eql]
        refine gd_d rfl ?_
        rw [SPoint.g_all (has_of_at (((hat22.ext y5).ext y6).ext x69)), SPoint.g_all (has_of_at (hat25.ext x69)), SPoint.eql]
        refine gd_d rfl ?_
        rw [SPoint.g_all (has_of_at (((hat23.ext y5).ext y6).ext x69)), SPoint.g_all (has_of_at (hat26.ext x69)), SPoint.eql]
        refine gd_d rfl ?_
        rw [SChart.g_all (has_of_at hat9), SChart.g_all (hgV W9 x59)]
        refine callF_ret (refSame_ret W9 hbare (hcV W9 x59) (good_size hG) (good_size hG)) ?_
        rintro _ W10 ⟨rfl, y10⟩
        exact hR _ _ ⟨by rw [decide_eq_true rfl], (x05.trans x59).trans y10⟩
    · refine join1 (fun q V => ∃ a : Bool, q = .bool a ∧ Ext w5 V ∧ (a = false → MkOk C l s o)) ?_ fun K22 hK22 => ?_
      · rintro _ _ V hq ⟨a, rfl, x5V, ha⟩
        rw [hq]
        exact Br_i (fun _ => hR _ _ ⟨rfl, x05.trans x5V⟩) fun hb => hK21 _ ⟨x5V, ha hb⟩
      · rcases makeV_cases C l s o with hm | ⟨e, he, hm⟩
        · rw [makeV_ok hm, bin_neq]
          refine Gd_i (fun _ => ?_) fun hb => absurd hb (by simp)
          rw [SChart.g_all (hg w5 x35)]
          refine callF_ret (refChValid_ret w5 (hc.ext x05)) ?_
          rintro _ w6 ⟨rfl, x6⟩
          rw [un_not]
          exact hK22 _ _ ⟨_, rfl, x6, fun _ => hm⟩
        · rw [hm, bin_neq]
          refine Gd_i (fun hb => absurd hb (by simp [he])) fun _ => hK22 _ _ ⟨true, rfl, Ext.refl _, fun h => by cases h⟩
  · refine join1 (fun q W => ∃ t : Bool, q = .bool t ∧ Ext w3 W ∧ (t = false → l.length ≤ 60)) ?_ fun K5 hK5 => ?_
    · rintro _ _ W hq ⟨t, rfl, xW, ht⟩
      rw [hq]
      exact Br_i (fun _ => hR _ _ ⟨rfl, x03.trans xW⟩) fun hb => hK4 _ ⟨xW, ht hb⟩
    · rw [SChart.g_all (hg w3 (Ext.refl _))]
      refine callF_ret (few15_ret w3 (hc.ext x03)) ?_
      rintro _ w4 ⟨⟨t, rfl, _⟩, x4⟩
      rw [un_not]
      refine Gd_i (fun _ => ?_) fun hb => hK5 _ _ ⟨true, rfl, x4, fun h => by cases h⟩
      rw [(hv.ext (x03.trans x4)).len, bin_gtr]
      refine hK5 _ _ ⟨_, rfl, x4, fun h => ?_⟩
      have h2 := dec_f h
      omega
end Go.Proofs.YtnbcdaonkdffkaaGreatDoor
