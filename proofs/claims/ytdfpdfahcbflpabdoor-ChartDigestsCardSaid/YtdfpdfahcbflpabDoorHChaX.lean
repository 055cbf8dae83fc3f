/- chart.isLine and chart.Valid. -/
import Derived.Test.YtdfpdfahcbflpabDoorHChaV
set_option linter.unusedVariables false
set_option linter.unusedSimpArgs false
namespace Go.Proofs.YtdfpdfahcbflpabDoor
set_option maxRecDepth 100000
set_option maxHeartbeats 16000000
open Sh Go.RowKit
def LQ (g : Nat) (s : SLine) (l : Line) : Nat → Value → Prop
  | 0, v => v = .pointer (some ⟨g, 1, none⟩)
  | 1, v => v = s.pts.val
  | 2, v => v = .bool (!l.2.all Hul.place)
  | 3, v => v = .bool (l.2.all Hul.place)
  | 4, v => v = .bool (l.2.all Hul.place)
  | 5, v => l.2.all Hul.place = true → v = .pointer (some ⟨g, 1, none⟩)
  | 6, v => l.2.all Hul.place = true → v = s.pts.val
  | 8, v => l.2.all Hul.place = true → ∃ a n cap, v = .slice a n cap ∧ (n = l.2.length ↔ Cha.Apart l.2)
  | 9, v => l.2.all Hul.place = true → ∃ n : Nat, v = .int .i64 n ∧ (n = l.2.length ↔ Cha.Apart l.2)
  | 10, v => l.2.all Hul.place = true → v = .pointer (some ⟨g, 1, none⟩)
  | 11, v => l.2.all Hul.place = true → v = s.pts.val
  | 12, v => l.2.all Hul.place = true → v = .int .i64 l.2.length
  | _, _ => True
def LJ (W : World) (g : Nat) (s : SLine) (l : Line) (pv : Nat → Option Value) (w1 : World) : Prop :=
  Ext W w1 ∧ (∀ k v, pv k = some v → LQ g s l k v) ∧ (pv 8 = none → ∀ v, pv 7 = some v → l.2.all Hul.place = true → SPoint.Owns W.heap.size w1 v l.2)
theorem LJ.get {W w1 : World} {g k : Nat} {s : SLine} {l : Line} {pv : Nat → Option Value} (h : LJ W g s l pv w1) (hk : pv k ≠ none) : LQ g s l k (vl pv k) := by
  obtain ⟨v, hv⟩ := Option.ne_none_iff_exists'.1 hk
  unfold vl; rw [hv]; exact h.2.1 k v hv
theorem LJ.set {W w1 w2 : World} {g k : Nat} {s : SLine} {l : Line} {pv : Nat → Option Value} {v : Value} (h : LJ W g s l pv w1) (x : Ext w1 w2) (h7 : k ≠ 7) (hq : LQ g s l k v) : LJ W g s l (pvSet pv k v) w2 := by
  refine ⟨h.1.trans x, fun j u hu => ?_, fun h8 u hu ha => ?_⟩
  · unfold pvSet at hu
    split at hu
    · next e => subst e; injection hu with hu; subst hu; exact hq
    · exact h.2.1 j u hu
  · unfold pvSet at h8 hu
    rw [if_neg (fun e => h7 e.symm)] at hu
    split at h8
    · cases h8
    · exact Own.ext (h.2.2 h8 u hu ha) x
theorem chLine_ret {s : SLine} {l : Line} (w : World) (h : LineIs w s l) (hok : ∀ p ∈ l.2, p.Ok) : Ret Tryd.prog 46 #[.agg s.cells.toArray] w fun r w' => r = .bool (Cha.pathOk l) ∧ Ext w w' := by
  refine ret_of (fun _ _ => sh_chart_isLine_ok _) fun R hR => ?_
  unfold sh_chart_isLine
  refine box_i fun g w1 x1 hat _ _ => ?_
  have hg : ∀ W, Ext w1 W → Has W g 0 s.cells := fun W x => has_of_at (hat.ext x)
  have no : ∀ W, Ext w1 W → ¬ (Cha.isID l.1 = true ∧ (2 ≤ l.2.length ∧ l.2.length ≤ 64) ∧ l.2.all Hul.place = true ∧ Cha.Apart l.2) → R (.returned (.bool false)) W := fun W x hn => hR _ _ ⟨by rw [Cha.pathOk_f hn], x1.trans x⟩
  refine join0 (fun W => Ext w1 W ∧ Cha.isID l.1 = true ∧ 2 ≤ l.2.length ∧ l.2.length ≤ 64) ?_ fun K hK => ?_
  · rintro _ W ⟨xW, hid, h2, h64⟩
    have a3 := hat.ext xW
    have hrow := Sl.ext h.2 (x1.trans xW)
    refine ⟨LJ W g s l, ⟨Ext.drew W, fun k v hh => (by cases hh), fun _ v hh => (by cases hh)⟩, ?_, ?_, ?_, ?_, ?_, ?_, ?_, ?_, ?_, ?_, ?_, ?_, ?_, ?_⟩
    · intro pv w4 hj hn _
      rw [Ty.SLine_f1]
      exact hj.set (Ext.refl _) (by decide) rfl
    · intro pv w4 hj hn hd
      rw [show vl pv 0 = _ from hj.get (hd 0 (by simp))]
      have e := @SLine.g_pts s g 0 w4 (fun v w2 => LJ W g s l (pvSet pv 1 v) w2) (Pan R) (Pan R) (has_of_at (a3.ext hj.1))
      rw [Ty.SLine_f1] at e
      rw [e]
      exact hj.set (Ext.refl _) (by decide) rfl
    · intro pv w4 hj hn hd
      rw [show vl pv 1 = _ from hj.get (hd 1 (by simp))]
      refine callF_ret (containsPts_ret (p := fun q => !Hul.place q) w4 (Sl.ext hrow hj.1) fun q hq W K X hk => ?_) ?_
      · rw [callV_func (by kernel_rfl)]
        refine callF_ret (invalidPt_ret (hok q hq) W) ?_
        rintro _ W' ⟨rfl, x⟩
        exact hk W' x
      · rintro _ w5 ⟨rfl, x⟩
        refine hj.set x (by decide) ?_
        show _ = _
        congr 1
        rw [Bool.eq_iff_iff]; simp
    · intro pv w4 hj hn hd
      rw [show vl pv 2 = _ from hj.get (hd 2 (by simp)), un_not]
      exact hj.set (Ext.refl _) (by decide) (by show _ = _; rw [Bool.not_not])
    · intro pv w4 hj hn hd
      exact hj.set (Ext.refl _) (by decide) (hj.get (k := 3) (hd 3 (by simp)))
    · intro pv w4 hj hn hd
      dsimp only
      refine ⟨fun _ => ?_, fun hne => hj.set (Ext.refl _) (by decide) fun ha => ?_⟩
      · rw [Ty.SLine_f1]
        exact hj.set (Ext.refl _) (by decide) fun _ => rfl
      · exact absurd (by rw [show vl pv 4 = _ from hj.get (hd 4 (by simp)), ha]) hne
    · intro pv w4 hj hn hd
      dsimp only
      refine ⟨fun he => ?_, fun hne => hj.set (Ext.refl _) (by decide) fun ha => ?_⟩
      · have ha : l.2.all Hul.place = true := by rw [show vl pv 4 = _ from hj.get (hd 4 (by simp))] at he; injection he
        rw [show vl pv 5 = _ from hj.get (k := 5) (hd 5 (by simp)) ha]
        have e := @SLine.g_pts s g 0 w4 (fun v w2 => LJ W g s l (pvSet pv 6 v) w2) (Pan R) (Pan R) (has_of_at (a3.ext hj.1))
        rw [Ty.SLine_f1] at e
        rw [e]
        exact hj.set (Ext.refl _) (by decide) fun _ => rfl
      · exact absurd (by rw [show vl pv 4 = _ from hj.get (hd 4 (by simp)), ha]) hne
    · intro pv w4 hj hn hd
      dsimp only
      refine ⟨fun he => ?_, fun hne => ⟨hj.1, fun k v hv => ?_, fun h8 v hv ha => ?_⟩⟩
      · have ha : l.2.all Hul.place = true := by rw [show vl pv 4 = _ from hj.get (hd 4 (by simp))] at he; injection he
        rw [show vl pv 6 = _ from hj.get (k := 6) (hd 6 (by simp)) ha]
        refine callF_ret (clonePts_ret w4 (Sl.ext hrow hj.1) (by omega)) ?_
        rintro v w5 ⟨ho, x⟩
        refine ⟨hj.1.trans x, fun k u hu => ?_, fun h8 u hu ha => ?_⟩
        · unfold pvSet at hu
          split at hu
          · next e => subst e; trivial
          · exact hj.2.1 k u hu
        · unfold pvSet at hu
          rw [if_pos rfl] at hu
          injection hu with hu
          subst hu
          exact Own.mono ho hj.1.size
      · unfold pvSet at hv
        split at hv
        · next e => subst e; trivial
        · exact hj.2.1 k v hv
      · exact absurd (by rw [show vl pv 4 = _ from hj.get (hd 4 (by simp)), ha]) hne
    · intro pv w4 hj hn hd
      dsimp only
      refine ⟨fun he => ?_, fun hne => hj.set (Ext.refl _) (by decide) fun ha => ?_⟩
      · have ha : l.2.all Hul.place = true := by rw [show vl pv 4 = _ from hj.get (hd 4 (by simp))] at he; injection he
        obtain ⟨v, hv⟩ := Option.ne_none_iff_exists'.1 (hd 7 (by simp))
        have ho := hj.2.2 hn v hv ha
        rw [show vl pv 7 = v from by unfold vl; rw [hv]; rfl]
        refine callF_ret (chCompact_ret w4 ho h2) ?_
        rintro r w5 ⟨hr, m⟩
        refine ⟨((Mod.of_ext hj.1).trans m).new, fun k u hu => ?_, fun h8 => ?_⟩
        · unfold pvSet at hu
          split at hu
          · next e => subst e; injection hu with hu; subst hu; exact fun _ => hr
          · exact hj.2.1 k u hu
        · unfold pvSet at h8; rw [if_pos rfl] at h8; cases h8
      · exact absurd (by rw [show vl pv 4 = _ from hj.get (hd 4 (by simp)), ha]) hne
    · intro pv w4 hj hn hd
      dsimp only
      refine ⟨fun he => ?_, fun hne => hj.set (Ext.refl _) (by decide) fun ha => ?_⟩
      · have ha : l.2.all Hul.place = true := by rw [show vl pv 4 = _ from hj.get (hd 4 (by simp))] at he; injection he
        obtain ⟨a, n, cap, e, hn⟩ := hj.get (k := 8) (hd 8 (by simp)) ha
        rw [e, len_slice Ty.SPoint_row]
        exact hj.set (Ext.refl _) (by decide) fun _ => ⟨n, rfl, hn⟩
      · exact absurd (by rw [show vl pv 4 = _ from hj.get (hd 4 (by simp)), ha]) hne
    · intro pv w4 hj hn hd
      dsimp only
      refine ⟨fun _ => ?_, fun hne => hj.set (Ext.refl _) (by decide) fun ha => ?_⟩
      · rw [Ty.SLine_f1]
        exact hj.set (Ext.refl _) (by decide) fun _ => rfl
      · exact absurd (by rw [show vl pv 4 = _ from hj.get (hd 4 (by simp)), ha]) hne
    · intro pv w4 hj hn hd
      dsimp only
      refine ⟨fun he => ?_, fun hne => hj.set (Ext.refl _) (by decide) fun ha => ?_⟩
      · have ha : l.2.all Hul.place = true := by rw [show vl pv 4 = _ from hj.get (hd 4 (by simp))] at he; injection he
        rw [show vl pv 10 = _ from hj.get (k := 10) (hd 10 (by simp)) ha]
        have e := @SLine.g_pts s g 0 w4 (fun v w2 => LJ W g s l (pvSet pv 11 v) w2) (Pan R) (Pan R) (has_of_at (a3.ext hj.1))
        rw [Ty.SLine_f1] at e
        rw [e]
        exact hj.set (Ext.refl _) (by decide) fun _ => rfl
      · exact absurd (by rw [show vl pv 4 = _ from hj.get (hd 4 (by simp)), ha]) hne
    · intro pv w4 hj hn hd
      dsimp only
      refine ⟨fun he => ?_, fun hne => hj.set (Ext.refl _) (by decide) fun ha => ?_⟩
      · have ha : l.2.all Hul.place = true := by rw [show vl pv 4 = _ from hj.get (hd 4 (by simp))] at he; injection he
        rw [show vl pv 11 = _ from hj.get (k := 11) (hd 11 (by simp)) ha, SPoint.row_len (Sl.ext hrow hj.1)]
        exact hj.set (Ext.refl _) (by decide) fun _ => rfl
      · exact absurd (by rw [show vl pv 4 = _ from hj.get (hd 4 (by simp)), ha]) hne
    · intro pv w4 hj hd
      rw [show vl pv 4 = _ from hj.get (hd 4 (by decide))]
      refine Gd_i (fun ha => ?_) fun ha => no _ (xW.trans hj.1) fun hn => ?_
      · obtain ⟨n, e, hn⟩ := hj.get (k := 9) (hd 9 (by decide)) ha
        rw [e, show vl pv 12 = _ from hj.get (k := 12) (hd 12 (by decide)) ha, bin_eql]
        refine hR _ _ ⟨?_, x1.trans (xW.trans hj.1)⟩
        by_cases hap : Cha.Apart l.2
        · rw [Cha.pathOk_iff.2 ⟨hid, ⟨h2, h64⟩, ha, hap⟩, decide_eq_true (by rw [hn.2 hap])]
        · rw [Cha.pathOk_f (fun hh => hap hh.2.2.2), decide_eq_false (fun e => hap (hn.1 (by omega)))]
      · rw [hn.2.2.1] at ha; cases ha
  · refine join1 (fun x V => ∃ t, x = .bool t ∧ Ext w1 V ∧ (t = true → ¬ (Cha.isID l.1 = true ∧ 2 ≤ l.2.length ∧ l.2.length ≤ 64)) ∧ (t = false → Cha.isID l.1 = true ∧ 2 ≤ l.2.length ∧ l.2.length ≤ 64)) ?_ fun K3 hK3 => ?_
    · rintro h2 _ V hx ⟨t, rfl, xV, ht, hf⟩
      rw [hx]
      exact Br_i (fun hb => no _ xV fun hn => ht hb ⟨hn.1, hn.2.1⟩) fun hb => hK _ ⟨xV, hf hb⟩
    rw [SLine.g_id (hg w1 (Ext.refl _)), h.1]
    refine callF_ret (chID_ret _ w1) ?_
    rintro _ w2 ⟨rfl, x2⟩
    rw [un_not]
    refine Gd_i (fun b1 => ?_) fun hb => hK3 _ _ ⟨true, rfl, x2, fun _ hn => (by have := Cha.nf hb; rw [hn.1] at this; cases this), fun ht => (by cases ht)⟩
    rw [SLine.g_pts (hg w2 x2), SPoint.row_len (Sl.ext h.2 (x1.trans x2)), bin_lss]
    refine Gd_i (fun b2 => ?_) fun hb => hK3 _ _ ⟨true, rfl, x2, fun _ hn => (by have := dec_t hb; omega), fun ht => (by cases ht)⟩
    rw [SLine.g_pts (hg w2 x2), SPoint.row_len (Sl.ext h.2 (x1.trans x2)), bin_gtr]
    refine hK3 _ _ ⟨_, rfl, x2, fun ht hn => ?_, fun ht => ⟨Cha.nd b1, ?_, ?_⟩⟩
    · have := of_decide_eq_true ht; omega
    · have := dec_f b2; omega
    · have := of_decide_eq_false ht; omega
end Go.Proofs.YtdfpdfahcbflpabDoor
