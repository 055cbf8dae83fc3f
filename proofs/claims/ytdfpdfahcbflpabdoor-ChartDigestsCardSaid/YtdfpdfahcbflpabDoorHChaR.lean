/- The reference implementation of charts: numbers, cells, beacons. -/
import Derived.Test.YtdfpdfahcbflpabDoorHChaN
set_option linter.unusedVariables false
set_option linter.unusedSimpArgs false
namespace Go.Proofs.YtdfpdfahcbflpabDoor
set_option maxRecDepth 100000
set_option maxHeartbeats 16000000
open Sh Go.RowKit
theorem refIn15_ret (n a b : Int) (w : World) : Ret Tryd.prog 48 #[.int .i64 n, .int .i64 a, .int .i64 b] w fun r w' => r = .bool (decide (a ≤ n ∧ n ≤ b)) ∧ Ext w w' := by
  refine ret_of (fun _ _ => sh_landfallref15_in_ok _ _ _) fun R hR => ?_
  unfold sh_landfallref15_in
  rw [bin_geq, bin_leq]
  refine Gd_i (fun hb => hR _ _ ⟨?_, Ext.refl _⟩) fun hb => hR _ _ ⟨?_, Ext.refl _⟩
  · have := dec_t hb
    congr 1; rw [decide_eq_decide]; omega
  · have := dec_f hb
    congr 1; rw [eq_comm, decide_eq_false]; omega
theorem refCell_ret (c : SCell) (w : World) : Ret Tryd.prog 36 #[.agg c.cells.toArray] w fun r w' => r = .bool (Cha.cellOk c) ∧ Ext w w' := by
  refine ret_of (fun _ _ => sh_landfallref15_Cell_ok _) fun R hR => ?_
  unfold sh_landfallref15_Cell
  refine box_i fun b w1 x1 hat _ _ => ?_
  have no : ∀ W, Ext w1 W → ¬ (-100000 ≤ c.depth.lo ∧ c.depth.lo ≤ c.depth.hi ∧ c.depth.hi ≤ 100000 ∧ 0 ≤ c.date ∧ c.date ≤ 1000000000) → R (.returned (.bool false)) W := fun W x hn => hR _ _ ⟨by unfold Cha.cellOk; rw [decide_eq_false hn], x1.trans x⟩
  rw [SCell.g_depth_lo (has_of_at hat), SCell.g_depth_hi (has_of_at hat)]
  refine callF_ret (refIn15_ret _ _ _ w1) ?_
  rintro _ w2 ⟨rfl, x2⟩
  refine Gd_i (fun b1 => ?_) fun hb => no _ x2 fun hh => dec_f hb ⟨hh.1, hh.2.1⟩
  rw [SCell.g_depth_hi (has_of_at (hat.ext x2)), bin_leq]
  refine Gd_i (fun b2 => ?_) fun hb => no _ x2 fun hh => dec_f hb hh.2.2.1
  rw [SCell.g_date (has_of_at (hat.ext x2))]
  refine callF_ret (refIn15_ret _ _ _ w2) ?_
  rintro _ w3 ⟨rfl, x3⟩
  refine hR _ _ ⟨?_, (x1.trans x2).trans x3⟩
  unfold Cha.cellOk
  congr 1; rw [decide_eq_decide]
  exact ⟨fun hh => ⟨(dec_t b1).1, (dec_t b1).2, dec_t b2, hh⟩, fun hh => hh.2.2.2⟩
theorem refBeacons_ret {v : Value} {l : List SBeacon} (w : World) (hv : SBeacon.Row w v l) : Ret Tryd.prog 34 #[v] w fun r w' => r = .bool (l.all Cha.beaconOk && decide ((l.map (·.id)).Nodup) && decide ((l.length : Int) ≤ 100)) ∧ Ext w w' := by
  refine ret_of (fun _ _ => sh_landfallref15_beacons_ok _) fun R hR => ?_
  unfold sh_landfallref15_beacons
  have hle := hv.le
  rw [SBeacon.row_len hv, bin_gtr]
  refine Br_i (fun hb => hR _ _ ⟨by rw [decide_eq_false (show ¬ (l.length : Int) ≤ 100 by have := dec_t hb; omega)]; simp, Ext.refl _⟩) fun hb => ?_
  have h100 : (l.length : Int) ≤ 100 := by have := dec_f hb; omega
  refine loop2 (fun x _ W => ∃ k : Nat, k ≤ l.length ∧ x = .int .i64 k ∧ Ext w W ∧ (l.take k).all Cha.beaconOk = true ∧ ((l.take k).map (·.id)).Nodup) (fun x _ _ => l.length - (intOf x).toNat) ⟨0, by omega, rfl, Ext.refl _, by simp, by simp⟩ ?_
  rintro h _ _ W hx _ ⟨k, hk, rfl, xW, hall, hnd⟩ K hK
  rw [SBeacon.row_len (Sl.ext hv xW), hx, bin_lss]
  refine Br_i (fun hb => ?_) fun hb => ?_
  · have hlt : k < l.length := by have := dec_t hb; omega
    have htk : l.take (k + 1) = l.take k ++ [l[k]] := List.take_succ_eq_append_getElem hlt
    have hmem := List.getElem_mem hlt
    obtain ⟨pb, po, hh, _, hix⟩ := SBeacon.row_at hv hlt
    have bad : ∀ W', Ext w W' → (Cha.beaconOk l[k] = false ∨ l[k].id ∈ (l.take k).map (·.id)) → R (.returned (.bool false)) W' := fun W' x hbad => by
      refine hR _ _ ⟨?_, x⟩
      congr 1
      rw [eq_comm, Bool.and_eq_false_iff, Bool.and_eq_false_iff]
      refine .inl ?_
      rcases hbad with hb1 | hb1
      · refine .inl ?_
        rw [List.all_eq_false]
        exact ⟨_, hmem, by rw [hb1]; decide⟩
      · refine .inr ?_
        rw [decide_eq_false_iff_not]
        intro hn
        have h2 : ((l.take (k + 1)).map (·.id)).Nodup := (hn.sublist ((List.take_sublist _ _).map _))
        rw [htk, List.map_append, List.nodup_append] at h2
        exact h2.2.2 _ hb1 _ (by simp) rfl
    refine join1 (fun _ W' => Ext w W' ∧ (l.take (k + 1)).all Cha.beaconOk = true ∧ ((l.take (k + 1)).map (·.id)).Nodup) ?_ fun K6 hK6 => ?_
    · rintro _ _ W' _ ⟨y1, y2, y3⟩
      rw [bin_add, i64_wrap (by omega) (by omega)]
      exact hK _ _ _ ⟨k + 1, by omega, by simp, y1, y2, y3⟩ (by simp [intOf]; omega)
    refine join0 (fun W' => Ext w W' ∧ Cha.beaconOk l[k] = true) ?_ fun K7 hK7 => ?_
    · rintro _ W' ⟨xW', hok⟩
      refine loop1 (fun x U => ∃ q : Nat, q ≤ k ∧ x = .int .i64 q ∧ Ext w U ∧ l[k].id ∉ (l.take q).map (·.id)) (fun x _ => k - (intOf x).toNat) ⟨0, by omega, rfl, xW', by simp⟩ ?_
      rintro h2 _ U hx2 ⟨q, hq, rfl, xU, hno⟩ K8 hK8
      rw [hx2, bin_lss]
      refine Br_i (fun hb => ?_) fun hb => ?_
      · have hlq : q < k := by have := dec_t hb; omega
        obtain ⟨qb, qo, hhq, _, hixq⟩ := SBeacon.row_at hv (show q < l.length by omega)
        refine draw_ext fun w4 x4 => ?_
        have x04 := xU.trans x4
        refine det_read _ (fun V x K => hixq V K _) ?_
        refine det_read _ (fun V x K => Ty.SBeacon_f0) ?_
        refine det_read (.int .i64 (l[q]'(by omega)).id) (fun V x K => load_cell Ty.int_agg (has_at (hhq V (x04.trans x)) (d := 0) rfl rfl)) ?_
        refine det_read _ (fun V x K => hix V K _) ?_
        refine det_read _ (fun V x K => Ty.SBeacon_f0) ?_
        refine det_read (.int .i64 l[k].id) (fun V x K => load_cell Ty.int_agg (has_at (hh V (x04.trans x)) (d := 0) rfl rfl)) ?_
        intro w5 x5 _
        rw [bin_eql]
        refine Br_i (fun hb => bad _ (x04.trans x5) (.inr ?_)) fun hb => ?_
        · rw [← dec_t hb]
          exact List.mem_map.2 ⟨l[q], by rw [List.mem_take_iff_getElem]; exact ⟨q, by omega, rfl⟩, rfl⟩
        · rw [bin_add, i64_wrap (by omega) (by omega)]
          refine hK8 _ _ ⟨q + 1, by omega, by simp, x04.trans x5, ?_⟩ (by simp [intOf]; omega)
          rw [List.take_succ_eq_append_getElem (show q < l.length by omega), List.map_append, List.mem_append]
          rintro (h3 | h3)
          · exact hno h3
          · have : l[k].id = l[q].id := by simpa using h3
            exact dec_f hb this.symm
      · have hqk : q = k := by have := dec_f hb; omega
        subst hqk
        refine hK6 _ _ ⟨xU, by rw [htk, List.all_append, hall]; simp [hok], ?_⟩
        rw [htk, List.map_append, List.nodup_append]
        refine ⟨hnd, by simp, fun a ha b hb => ?_⟩
        have : b = l[q].id := by simpa using hb
        rw [this]; rintro rfl; exact hno ha
    refine join1 (fun x W' => x = .bool (!Cha.beaconOk l[k]) ∧ Ext w W') ?_ fun K8 hK8 => ?_
    · rintro hh2 _ W' hx2 ⟨rfl, xW'⟩
      rw [hx2]
      refine Br_i (fun hb => bad _ xW' (.inl ?_)) fun hb => hK7 _ ⟨xW', ?_⟩
      · cases hq : Cha.beaconOk l[k] with
        | true => rw [hq] at hb; cases hb
        | false => rfl
      · cases hq : Cha.beaconOk l[k] with
        | true => rfl
        | false => rw [hq] at hb; cases hb
    rw [hix, SBeacon.g_id (hh W xW)]
    refine callF_ret (refIn15_ret _ _ _ W) ?_
    rintro _ w5 ⟨rfl, x5⟩
    have x05 := xW.trans x5
    rw [un_not]
    refine Gd_i (fun hb => ?_) fun hb => ?_
    · have hid : Cha.isID l[k].id = true := by unfold Cha.isID; cases hq : decide (1 ≤ l[k].id ∧ l[k].id ≤ 1000000) with
        | true => rfl
        | false => rw [hq] at hb; cases hb
      rw [hix, SBeacon.g_at_ (hh w5 x05)]
      refine callF_ret (Place_ret w5) ?_
      rintro _ w6 ⟨rfl, x6⟩
      rw [un_not]
      exact hK8 _ _ ⟨by unfold Cha.beaconOk; rw [hid]; rfl, x05.trans x6⟩
    · have hid : Cha.isID l[k].id = false := by unfold Cha.isID; cases hq : decide (1 ≤ l[k].id ∧ l[k].id ≤ 1000000) with
        | true => rw [hq] at hb; cases hb
        | false => rfl
      exact hK8 _ _ ⟨by unfold Cha.beaconOk; rw [hid]; rfl, x05⟩
  · have hke : k = l.length := by have := dec_f hb; omega
    subst hke
    rw [List.take_length] at hall hnd
    exact hR _ _ ⟨by rw [hall, decide_eq_true hnd, decide_eq_true h100]; rfl, xW⟩
end Go.Proofs.YtdfpdfahcbflpabDoor
