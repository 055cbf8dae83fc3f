/- The reference implementation of charts: lines. -/
import Derived.Test.YtdfpdfahcbflpabDoorHChaR
set_option linter.unusedVariables false
set_option linter.unusedSimpArgs false
namespace Go.Proofs.YtdfpdfahcbflpabDoor
set_option maxRecDepth 100000
set_option maxHeartbeats 16000000
open Sh Go.RowKit
abbrev Line := Int × List SPoint
def LineIs (w : World) (s : SLine) (l : Line) : Prop := s.id = l.1 ∧ SPoint.Row w s.pts.val l.2
def LinesIs (w : World) (v : Value) (ls : List Line) : Prop := ∃ ss : List SLine, SLine.Row w v ss ∧ ss.length = ls.length ∧ ∀ (i : Nat) (s : SLine) (l : Line), ss[i]? = some s → ls[i]? = some l → LineIs w s l
theorem LineIs.ext {w w' : World} {s : SLine} {l : Line} (h : LineIs w s l) (x : Ext w w') : LineIs w' s l := ⟨h.1, Sl.ext h.2 x⟩
theorem LinesIs.ext {w w' : World} {v : Value} {l : List Line} (h : LinesIs w v l) (x : Ext w w') : LinesIs w' v l := by
  obtain ⟨ss, h1, h2, h3⟩ := h
  exact ⟨ss, Sl.ext h1 x, h2, fun i s r e1 e2 => (h3 i s r e1 e2).ext x⟩
theorem Ty.pts_agg15 (w : World) : (isAgg 37).run Tryd.prog w = .ok false w := by kernel_rfl
namespace Cha
def Apart (l : List SPoint) : Prop := ∀ i (h : i + 1 < l.length), l[i] ≠ l[i + 1]
open Classical in
noncomputable def pathOk (l : Line) : Bool := isID l.1 && decide (2 ≤ l.2.length ∧ l.2.length ≤ 64) && l.2.all Hul.place && decide (Apart l.2)
open Classical in
theorem pathOk_iff {l : Line} : pathOk l = true ↔ isID l.1 = true ∧ (2 ≤ l.2.length ∧ l.2.length ≤ 64) ∧ l.2.all Hul.place = true ∧ Apart l.2 := by
  unfold pathOk
  simp only [Bool.and_eq_true, decide_eq_true_eq, and_assoc]
theorem pathOk_f {l : Line} (h : ¬ (isID l.1 = true ∧ (2 ≤ l.2.length ∧ l.2.length ≤ 64) ∧ l.2.all Hul.place = true ∧ Apart l.2)) : pathOk l = false := by
  cases hq : pathOk l with
  | false => rfl
  | true => exact absurd (pathOk_iff.1 hq) h
end Cha
theorem refPath_ret {s : SLine} {l : Line} (w : World) (h : LineIs w s l) : Ret Tryd.prog 49 #[.agg s.cells.toArray] w fun r w' => r = .bool (Cha.pathOk l) ∧ Ext w w' := by
  refine ret_of (fun _ _ => sh_landfallref15_Path_ok _) fun R hR => ?_
  unfold sh_landfallref15_Path
  refine box_i fun g w1 x1 hat _ _ => ?_
  have hg : ∀ W, Ext w1 W → Has W g 0 s.cells := fun W x => has_of_at (hat.ext x)
  have hle := h.2.le
  have no : ∀ W, Ext w1 W → ¬ (Cha.isID l.1 = true ∧ (2 ≤ l.2.length ∧ l.2.length ≤ 64) ∧ l.2.all Hul.place = true ∧ Cha.Apart l.2) → R (.returned (.bool false)) W := fun W x hn => hR _ _ ⟨by rw [Cha.pathOk_f hn], x1.trans x⟩
  refine join0 (fun W => Ext w1 W ∧ Cha.isID l.1 = true ∧ 2 ≤ l.2.length ∧ l.2.length ≤ 64) ?_ fun K hK => ?_
  · rintro _ W ⟨xW0, hid, h2, h64⟩
    refine loop1 (fun x W => ∃ k : Nat, k ≤ l.2.length ∧ x = .int .i64 k ∧ Ext w1 W ∧ (l.2.take k).all Hul.place = true ∧ ∀ i (hi : i + 1 < l.2.length), i + 1 < k → l.2[i] ≠ l.2[i + 1]) (fun x _ => l.2.length - (intOf x).toNat)
      ⟨0, by omega, rfl, xW0, by simp, fun i _ hi => by omega⟩ ?_
    rintro hh _ W hx ⟨k, hk, rfl, xW, hall, hap⟩ K2 hK2
    rw [SLine.g_pts (hg W xW), SPoint.row_len (Sl.ext h.2 (x1.trans xW)), hx, bin_lss]
    refine Br_i (fun hb => ?_) fun hb => ?_
    · have hlt : k < l.2.length := by have := dec_t hb; omega
      have hmem := List.getElem_mem hlt
      refine join0 (fun V => Ext w1 V ∧ Hul.place l.2[k] = true ∧ ∀ i (hi : i + 1 < l.2.length), i + 1 < k + 1 → l.2[i] ≠ l.2[i + 1]) ?_ fun K3 hK3 => ?_
      · rintro _ V ⟨xV, hp, hap2⟩
        rw [bin_add, i64_wrap (by omega) (by omega)]
        refine hK2 _ _ ⟨k + 1, by omega, by simp, xV, ?_, hap2⟩ (by simp [intOf]; omega)
        rw [List.take_succ_eq_append_getElem hlt, List.all_append, hall]; simp [hp]
      refine join1 (fun x V => ∃ t, x = .bool t ∧ Ext w1 V ∧ (t = true → ¬ (Hul.place l.2[k] = true ∧ ∀ i (hi : i + 1 < l.2.length), i + 1 = k → l.2[i] ≠ l.2[i + 1])) ∧ (t = false → Hul.place l.2[k] = true ∧ ∀ i (hi : i + 1 < l.2.length), i + 1 = k → l.2[i] ≠ l.2[i + 1])) ?_ fun K4 hK4 => ?_
      · rintro hh2 _ V hx2 ⟨t, rfl, xV, ht, hf⟩
        rw [hx2]
        refine Br_i (fun hb => no _ xV fun hn => ht hb ⟨List.all_eq_true.1 hn.2.2.1 _ hmem, fun i hi _ => hn.2.2.2 i hi⟩) fun hb => hK3 _ ⟨xV, (hf hb).1, fun i hi hik => ?_⟩
        by_cases he : i + 1 = k
        · exact (hf hb).2 i hi he
        · exact hap i hi (by omega)
      obtain ⟨pb, po, hhp, _, hix⟩ := SPoint.row_at h.2 hlt
      refine draw_ext fun w4 x4 => ?_
      have x14 := xW.trans x4
      refine det_read _ (fun V x K => Ty.SLine_f1) ?_
      refine det_read s.pts.val (fun V x K => load_cell Ty.pts_agg15 (has_at (hg V (x14.trans x)) (d := 1) rfl rfl)) ?_
      refine det_read _ (fun V x K => hix V K _) ?_
      refine det_read (.agg l.2[k].cells.toArray) (fun V x K => SPoint.g_all (hhp V (x1.trans (x14.trans x)))) ?_
      refine det_ret _ (fun V x => Place_ret V) ?_
      refine det_read _ (fun V x K => un_not) ?_
      refine Gd_i (fun hb => ?_) fun hb => ?_
      · have hp : Hul.place l.2[k] = true := by cases hq : Hul.place l.2[k] with
          | true => rfl
          | false => rw [hq] at hb; cases hb
        refine det_read (.bool (decide ((0 : Int) < k))) (fun V x K => bin_gtr) ?_
        refine Gd_i (fun hb2 => ?_) fun hb2 => ?_
        · have hk0 : 0 < k := by have := dec_t hb2; omega
          obtain ⟨qb, qo, hhq, _, hixq⟩ := SPoint.row_at h.2 (show k - 1 < l.2.length by omega)
          refine det_read _ (fun V x K => Ty.SLine_f1) ?_
          refine det_read s.pts.val (fun V x K => load_cell Ty.pts_agg15 (has_at (hg V (x14.trans x)) (d := 1) rfl rfl)) ?_
          refine det_read _ (fun V x K => hix V K _) ?_
          refine det_read (.agg l.2[k].cells.toArray) (fun V x K => SPoint.g_all (hhp V (x1.trans (x14.trans x)))) ?_
          refine det_read _ (fun V x K => Ty.SLine_f1) ?_
          refine det_read s.pts.val (fun V x K => load_cell Ty.pts_agg15 (has_at (hg V (x14.trans x)) (d := 1) rfl rfl)) ?_
          refine det_read (.int .i64 ((k - 1 : Nat) : Int)) (fun V x K => by rw [bin_sub, i64_wrap (by omega) (by omega), show (k : Int) - 1 = ((k - 1 : Nat) : Int) by omega]) ?_
          refine det_read _ (fun V x K => hixq V K _) ?_
          refine det_read (.agg (l.2[k - 1]'(by omega)).cells.toArray) (fun V x K => SPoint.g_all (hhq V (x1.trans (x14.trans x)))) ?_
          intro w5 x5 _
          rw [SPoint.eql]
          refine hK4 _ _ ⟨_, rfl, x14.trans x5, fun ht hn => ?_, fun hf => ⟨hp, fun i hi he => ?_⟩⟩
          · have e1 : l.2[k] = l.2[k - 1] := of_decide_eq_true ht
            have := hn.2 (k - 1) (by omega) (by omega)
            apply this
            rw [← e1]; congr 1; omega
          · have e1 : l.2[k] ≠ l.2[k - 1] := of_decide_eq_false hf
            subst he
            exact fun e => e1 (by rw [← e]; rfl)
        · have hk0 : k = 0 := by have := dec_f hb2; omega
          intro w5 x5 _
          exact hK4 _ _ ⟨false, rfl, x14.trans x5, fun ht => (by cases ht), fun _ => ⟨hp, fun i hi he => by omega⟩⟩
      · have hp : Hul.place l.2[k] = false := by cases hq : Hul.place l.2[k] with
          | true => rw [hq] at hb; cases hb
          | false => rfl
        intro w5 x5 _
        exact hK4 _ _ ⟨true, rfl, x14.trans x5, fun _ hn => (by rw [hp] at hn; cases hn.1), fun ht => by cases ht⟩
    · have hke : k = l.2.length := by have := dec_f hb; omega
      subst hke
      rw [List.take_length] at hall
      exact hR _ _ ⟨by rw [Cha.pathOk_iff.2 ⟨hid, ⟨h2, h64⟩, hall, fun i hi => hap i hi hi⟩], x1.trans xW⟩
  · refine join1 (fun x V => ∃ t, x = .bool t ∧ Ext w1 V ∧ (t = true → ¬ (Cha.isID l.1 = true ∧ 2 ≤ l.2.length ∧ l.2.length ≤ 64)) ∧ (t = false → Cha.isID l.1 = true ∧ 2 ≤ l.2.length ∧ l.2.length ≤ 64)) ?_ fun K4 hK4 => ?_
    · rintro hh2 _ V hx2 ⟨t, rfl, xV, ht, hf⟩
      rw [hx2]
      exact Br_i (fun hb => no _ xV fun hn => ht hb ⟨hn.1, hn.2.1⟩) fun hb => hK _ ⟨xV, hf hb⟩
    rw [SLine.g_id (hg w1 (Ext.refl _)), h.1]
    refine callF_ret (refIn15_ret _ _ _ w1) ?_
    rintro _ w2 ⟨rfl, x2⟩
    rw [un_not]
    refine Gd_i (fun hb => ?_) fun hb => ?_
    · have hid : Cha.isID l.1 = true := by unfold Cha.isID; cases hq : decide (1 ≤ l.1 ∧ l.1 ≤ 1000000) with
        | true => rfl
        | false => rw [hq] at hb; cases hb
      rw [SLine.g_pts (hg w2 x2), SPoint.row_len (Sl.ext h.2 (x1.trans x2))]
      refine callF_ret (refIn15_ret _ _ _ w2) ?_
      rintro _ w3 ⟨rfl, x3⟩
      rw [un_not]
      refine hK4 _ _ ⟨_, rfl, x2.trans x3, fun ht hn => ?_, fun hf => ?_⟩
      · rw [decide_eq_true (by omega)] at ht; cases ht
      · have := of_decide_eq_true (p := 2 ≤ (l.2.length : Int) ∧ (l.2.length : Int) ≤ 64) (by cases hq : decide (2 ≤ (l.2.length : Int) ∧ (l.2.length : Int) ≤ 64) with
          | true => rfl
          | false => rw [hq] at hf; cases hf)
        exact ⟨hid, by omega, by omega⟩
    · have hid : Cha.isID l.1 = false := by unfold Cha.isID; cases hq : decide (1 ≤ l.1 ∧ l.1 ≤ 1000000) with
        | true => rw [hq] at hb; cases hb
        | false => rfl
      exact hK4 _ _ ⟨true, rfl, x2, fun _ hn => (by rw [hid] at hn; cases hn.1), fun ht => by cases ht⟩
theorem LinesIs.le {w : World} {v : Value} {l : List Line} (h : LinesIs w v l) : l.length ≤ 9223372036854775807 := by
  obtain ⟨ss, h1, h2, _⟩ := h
  have := h1.le; omega
theorem LinesIs.len {w : World} {v : Value} {l : List Line} (h : LinesIs w v l) {K : Value → World → Prop} {X : List PanicEntry → World → Prop} {cs : Array Bool} : CallB Tryd.prog .len #[24] 3 cs #[v] w K X = K (.int .i64 l.length) w := by
  obtain ⟨ss, h1, h2, _⟩ := h
  rw [SLine.row_len h1, h2]
theorem LinesIs.at_ {w : World} {v : Value} {l : List Line} (h : LinesIs w v l) {k : Nat} (hk : k < l.length) : ∃ (b o : Nat) (s : SLine), LineIs w s l[k] ∧ (∀ w1, Ext w w1 → Has w1 b o s.cells) ∧
    (∀ (w1 : World) (K : Value → World → Prop) (X : List PanicEntry → World → Prop), DoV Tryd.prog (Instr.indexAt 24 v (.int .i64 k)) w1 K X = K (.pointer (some ⟨b, o, none⟩)) w1) := by
  obtain ⟨ss, h1, h2, h3⟩ := h
  have hks : k < ss.length := by omega
  obtain ⟨b, o, hh, _, hix⟩ := SLine.row_at h1 hks
  exact ⟨b, o, ss[k], h3 k _ _ (List.getElem?_eq_getElem hks) (List.getElem?_eq_getElem hk), hh, hix⟩
theorem refLines_ret {v : Value} {l : List Line} (w : World) (hv : LinesIs w v l) : Ret Tryd.prog 35 #[v] w fun r w' => r = .bool (l.all Cha.pathOk && decide ((l.map (·.1)).Nodup) && decide ((l.length : Int) ≤ 50)) ∧ Ext w w' := by
  refine ret_of (fun _ _ => sh_landfallref15_lines_ok _) fun R hR => ?_
  unfold sh_landfallref15_lines
  have hle := hv.le
  rw [hv.len, bin_gtr]
  refine Br_i (fun hb => hR _ _ ⟨by rw [decide_eq_false (show ¬ (l.length : Int) ≤ 50 by have := dec_t hb; omega)]; simp, Ext.refl _⟩) fun hb => ?_
  have h50 : (l.length : Int) ≤ 50 := by have := dec_f hb; omega
  refine loop2 (fun x _ W => ∃ k : Nat, k ≤ l.length ∧ x = .int .i64 k ∧ Ext w W ∧ (l.take k).all Cha.pathOk = true ∧ ((l.take k).map (·.1)).Nodup) (fun x _ _ => l.length - (intOf x).toNat) ⟨0, by omega, rfl, Ext.refl _, by simp, by simp⟩ ?_
  rintro h _ _ W hx _ ⟨k, hk, rfl, xW, hall, hnd⟩ K hK
  rw [(hv.ext xW).len, hx, bin_lss]
  refine Br_i (fun hb => ?_) fun hb => ?_
  · have hlt : k < l.length := by have := dec_t hb; omega
    have htk : l.take (k + 1) = l.take k ++ [l[k]] := List.take_succ_eq_append_getElem hlt
    have hmem := List.getElem_mem hlt
    obtain ⟨pb, po, s, hs, hh, hix⟩ := hv.at_ hlt
    have bad : ∀ W', Ext w W' → (Cha.pathOk l[k] = false ∨ l[k].1 ∈ (l.take k).map (·.1)) → R (.returned (.bool false)) W' := fun W' x hbad => by
      refine hR _ _ ⟨?_, x⟩
      congr 1
      rw [eq_comm, Bool.and_eq_false_iff, Bool.and_eq_false_iff]
      refine .inl ?_
      rcases hbad with hb1 | hb1
      · refine .inl ?_
        rw [List.all_eq_false]
        exact ⟨_, hmem, by rw [hb1]; decide⟩
      · refine .inr ?_
        rw [decide_eq_false_iff_not]
        intro hn
        have h2 : ((l.take (k + 1)).map (·.1)).Nodup := (hn.sublist ((List.take_sublist _ _).map _))
        rw [htk, List.map_append, List.nodup_append] at h2
        exact h2.2.2 _ hb1 _ (by simp) rfl
    rw [hix, SLine.g_all (hh W xW)]
    refine callF_ret (refPath_ret W (hs.ext xW)) ?_
    rintro _ w5 ⟨rfl, x5⟩
    have x05 := xW.trans x5
    rw [un_not]
    refine Br_i (fun hb => bad _ x05 (.inl ?_)) fun hb => ?_
    · cases hq : Cha.pathOk l[k] with
      | true => rw [hq] at hb; cases hb
      | false => rfl
    have hok : Cha.pathOk l[k] = true := by cases hq : Cha.pathOk l[k] with
      | true => rfl
      | false => rw [hq] at hb; cases hb
    refine loop1 (fun x U => ∃ q : Nat, q ≤ k ∧ x = .int .i64 q ∧ Ext w U ∧ l[k].1 ∉ (l.take q).map (·.1)) (fun x _ => k - (intOf x).toNat) ⟨0, by omega, rfl, x05, by simp⟩ ?_
    rintro h2 _ U hx2 ⟨q, hq, rfl, xU, hno⟩ K8 hK8
    rw [hx2, bin_lss]
    refine Br_i (fun hb => ?_) fun hb => ?_
    · have hlq : q < k := by have := dec_t hb; omega
      obtain ⟨qb, qo, sq, hsq, hhq, hixq⟩ := hv.at_ (show q < l.length by omega)
      refine draw_ext fun w4 x4 => ?_
      have x04 := xU.trans x4
      refine det_read _ (fun V x K => hixq V K _) ?_
      refine det_read _ (fun V x K => Ty.SLine_f0) ?_
      refine det_read (.int .i64 sq.id) (fun V x K => load_cell Ty.int_agg (has_at (hhq V (x04.trans x)) (d := 0) rfl rfl)) ?_
      refine det_read _ (fun V x K => hix V K _) ?_
      refine det_read _ (fun V x K => Ty.SLine_f0) ?_
      refine det_read (.int .i64 s.id) (fun V x K => load_cell Ty.int_agg (has_at (hh V (x04.trans x)) (d := 0) rfl rfl)) ?_
      intro w6 x6 _
      rw [bin_eql, hsq.1, hs.1]
      refine Br_i (fun hb => bad _ (x04.trans x6) (.inr ?_)) fun hb => ?_
      · rw [← dec_t hb]
        exact List.mem_map.2 ⟨l[q], by rw [List.mem_take_iff_getElem]; exact ⟨q, by omega, rfl⟩, rfl⟩
      · rw [bin_add, i64_wrap (by omega) (by omega)]
        refine hK8 _ _ ⟨q + 1, by omega, by simp, x04.trans x6, ?_⟩ (by simp [intOf]; omega)
        rw [List.take_succ_eq_append_getElem (show q < l.length by omega), List.map_append, List.mem_append]
        rintro (h3 | h3)
        · exact hno h3
        · have : l[k].1 = l[q].1 := by simpa using h3
          exact dec_f hb this.symm
    · have hqk : q = k := by have := dec_f hb; omega
      subst hqk
      rw [bin_add, i64_wrap (by omega) (by omega)]
      refine hK _ _ _ ⟨q + 1, by omega, by simp, xU, by rw [htk, List.all_append, hall]; simp [hok], ?_⟩ (by simp [intOf]; omega)
      rw [htk, List.map_append, List.nodup_append]
      refine ⟨hnd, by simp, fun a ha b hb => ?_⟩
      have : b = l[q].1 := by simpa using hb
      rw [this]; rintro rfl; exact hno ha
  · have hke : k = l.length := by have := dec_f hb; omega
    subst hke
    rw [List.take_length] at hall hnd
    exact hR _ _ ⟨by rw [hall, decide_eq_true hnd, decide_eq_true h50]; rfl, xW⟩
end Go.Proofs.YtdfpdfahcbflpabDoor
