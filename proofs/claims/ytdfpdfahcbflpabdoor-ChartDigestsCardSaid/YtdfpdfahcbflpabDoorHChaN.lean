/- Things with names. -/
import Derived.Test.YtdfpdfahcbflpabDoorHChaM
set_option linter.unusedVariables false
set_option linter.unusedSimpArgs false
namespace Go.Proofs.YtdfpdfahcbflpabDoor
set_option maxRecDepth 100000
set_option maxHeartbeats 16000000
open Sh Go.RowKit
theorem ext_step15 {w w1 w2 : World} {g : Nat} (x : Ext w w1) (m : Mod (· = g) w1 w2) (h : w.heap.size ≤ g) : Ext w w2 := ((Mod.of_ext x : Mod (w.heap.size ≤ ·) w w1).trans (m.mono fun k _ hk => by rw [hk]; exact h)).new
theorem Names.congr {w : World} {b n : Nat} {l l' : List Int} (h : Names w b n l) (he : ∀ q, q ∈ l ↔ q ∈ l') : Names w b n l' := by
  obtain ⟨D, h1, h2, h3⟩ := h
  exact ⟨D, h1, h2, fun k => by rw [h3 k]; congr 3; exact propext (he k)⟩
theorem areBeacons_ret {v : Value} {l : List SBeacon} {ok : SBeacon → Bool} {fv : Value} {most : Int} (w : World) (hv : SBeacon.Row w v l) (hid : ∀ b ∈ l, I64 b.id)
    (hf : ∀ b ∈ l, ∀ W K X, Ext w W → (∀ W', Ext W W' → K (.bool (ok b)) W') → CallV Tryd.prog fv #[.agg b.cells.toArray] W K X) :
    Ret Tryd.prog 44 #[v, .int .i64 most, fv, .func (.func 25) #[] #[]] w fun r w' => r = .bool (l.all ok && decide ((l.map (·.id)).Nodup) && decide ((l.length : Int) ≤ most)) ∧ Ext w w' := by
  refine ret_of (fun _ _ => sh_chart_areNamed_api_Beacon__ok _ _ _ _) fun R hR => ?_
  unfold sh_chart_areNamed_api_Beacon_
  have hle := hv.le
  refine names_make fun mb w1 x1 hn1 hmb => ?_
  rw [SBeacon.row_len (Sl.ext hv x1)]
  refine loop1 (fun x W => ∃ k : Nat, k ≤ l.length ∧ x = .int .i64 k ∧ Ext w W ∧ Names W mb k ((l.take k).map (·.id)) ∧ (l.take k).all ok = true ∧ ((l.take k).map (·.id)).Nodup) (fun x _ => l.length - (intOf x).toNat)
    ⟨0, by omega, rfl, x1, hn1, by simp, by simp⟩ ?_
  rintro h _ W hx ⟨k, hk, rfl, xW, hN, hall, hnd⟩ K hK
  rw [hx, bin_lss]
  refine Br_i (fun hb => ?_) fun hb => ?_
  · have hlt : k < l.length := by have := dec_t hb; omega
    have htk : l.take (k + 1) = l.take k ++ [l[k]] := List.take_succ_eq_append_getElem hlt
    refine join0 (fun W' => Ext w W' ∧ Names W' mb (k + 1) ((l.take (k + 1)).map (·.id)) ∧ (l.take (k + 1)).all ok = true ∧ ((l.take (k + 1)).map (·.id)).Nodup) ?_ fun K5 hK5 => ?_
    · rintro _ W' ⟨y1, y2, y3, y4⟩
      rw [bin_add, i64_wrap (by omega) (by omega)]
      exact hK _ _ ⟨k + 1, by omega, by simp, y1, y2, y3, y4⟩ (by simp [intOf]; omega)
    obtain ⟨pb, po, hh, _, hix⟩ := SBeacon.row_at hv hlt
    have hmem := List.getElem_mem hlt
    rw [hix, SBeacon.g_all (hh W xW)]
    refine alloc_i Ty.SBeacon_zero fun g w4 x4 hat4 hg _ => ?_
    refine SBeacon.set (r := SBeacon.zero) hat4 fun w5 m5 hat5 s5 => ?_
    have zW := xW.size
    have z4 := x4.size
    have xW5 : Ext W w5 := ((Mod.of_ext x4 : Mod (W.heap.size ≤ ·) W w4).trans (m5.mono fun q _ h => by omega)).new
    have x05 := xW.trans xW5
    have bad : ∀ W', Ext w W' → (ok l[k] = false ∨ l[k].id ∈ (l.take k).map (·.id)) → R (.returned (.bool false)) W' := fun W' x hbad => by
      refine hR _ _ ⟨?_, x⟩
      congr 1
      rw [eq_comm, Bool.and_eq_false_iff, Bool.and_eq_false_iff]
      refine .inl ?_
      rcases hbad with hb1 | hb1
      · refine .inl ?_
        rw [List.all_eq_false]
        exact ⟨_, hmem, by rw [hb1]; decide⟩
      · refine .inr ?_
        rw [decide_eq_false_iff_not]
        intro hn
        have h2 : ((l.take (k + 1)).map (·.id)).Nodup := (hn.sublist ((List.take_sublist _ _).map _))
        rw [htk, List.map_append, List.nodup_append] at h2
        exact h2.2.2 _ hb1 _ (by simp) rfl
    refine join0 (fun W' => Ext w5 W' ∧ ok l[k] = true ∧ l[k].id ∉ (l.take k).map (·.id)) ?_ fun K10 hK10 => ?_
    · rintro _ W' ⟨xW', hok, hnew⟩
      rw [SBeacon.g_all (has_of_at (hat5.ext xW')), callV_func (by kernel_rfl)]
      refine callF_ret (beaconID_ret l[k] W') ?_
      rintro _ w6 ⟨rfl, x6⟩
      have hN6 := (hN.ext xW5).ext (xW'.trans x6)
      have hl6 := hN6.lt
      refine names_put hN6 (hid _ hmem) (by simp [maxLen]; omega) fun w7 hN7 m7 => ?_
      refine hK5 _ ⟨ext_step15 ((x05.trans xW').trans x6) m7 (by omega), ?_, ?_, ?_⟩
      · refine hN7.congr fun q => ?_
        rw [htk, List.map_append, List.mem_append, List.mem_cons]
        simp [or_comm]
      · rw [htk, List.all_append, hall]; simp [hok]
      · rw [htk, List.map_append, List.nodup_append]
        refine ⟨hnd, by simp, fun a ha b hb => ?_⟩
        have : b = l[k].id := by simpa using hb
        rw [this]; rintro rfl; exact hnew ha
    · refine join1 (fun x W' => ∃ t, x = .bool t ∧ Ext w5 W' ∧ (t = true → ok l[k] = false ∨ l[k].id ∈ (l.take k).map (·.id)) ∧ (t = false → ok l[k] = true ∧ l[k].id ∉ (l.take k).map (·.id))) ?_ fun K11 hK11 => ?_
      · rintro hh2 _ W' hx2 ⟨t, rfl, xW', h1, h2⟩
        rw [hx2]
        exact Br_i (fun hb => bad _ (x05.trans xW') (h1 hb)) fun hb => hK10 _ ⟨xW', h2 hb⟩
      rw [SBeacon.g_all (has_of_at hat5)]
      refine hf _ hmem w5 _ _ x05 fun w6 x6 => ?_
      rw [un_not]
      refine Gd_i (fun hb => ?_) fun hb => ?_
      · have hok : ok l[k] = true := by cases hq : ok l[k] with
          | true => rfl
          | false => rw [hq] at hb; cases hb
        rw [SBeacon.g_all (has_of_at (hat5.ext x6)), callV_func (by kernel_rfl)]
        refine callF_ret (beaconID_ret l[k] w6) ?_
        rintro _ w7 ⟨rfl, x7⟩
        rw [names_look ((hN.ext xW5).ext (x6.trans x7)) (hid _ hmem)]
        exact hK11 _ _ ⟨_, rfl, x6.trans x7, fun ht => .inr (of_decide_eq_true ht), fun ht => ⟨hok, of_decide_eq_false ht⟩⟩
      · have hok : ok l[k] = false := by cases hq : ok l[k] with
          | true => rw [hq] at hb; cases hb
          | false => rfl
        exact hK11 _ _ ⟨true, rfl, x6, fun _ => .inl hok, fun ht => by cases ht⟩
  · have hke : k = l.length := by have := dec_f hb; omega
    subst hke
    rw [List.take_length] at hall hnd
    rw [SBeacon.row_len (Sl.ext hv xW), bin_leq]
    exact hR _ _ ⟨by rw [hall, decide_eq_true hnd]; simp, xW⟩
theorem areLines_ret {v : Value} {l : List SLine} {ok : SLine → Bool} {fv : Value} {most : Int} (w : World) (hv : SLine.Row w v l) (hid : ∀ b ∈ l, I64 b.id)
    (hf : ∀ b ∈ l, ∀ W K X, Ext w W → (∀ W', Ext W W' → K (.bool (ok b)) W') → CallV Tryd.prog fv #[.agg b.cells.toArray] W K X) :
    Ret Tryd.prog 45 #[v, .int .i64 most, fv, .func (.func 27) #[] #[]] w fun r w' => r = .bool (l.all ok && decide ((l.map (·.id)).Nodup) && decide ((l.length : Int) ≤ most)) ∧ Ext w w' := by
  refine ret_of (fun _ _ => sh_chart_areNamed_api_Line__ok _ _ _ _) fun R hR => ?_
  unfold sh_chart_areNamed_api_Line_
  have hle := hv.le
  refine names_make fun mb w1 x1 hn1 hmb => ?_
  rw [SLine.row_len (Sl.ext hv x1)]
  refine loop1 (fun x W => ∃ k : Nat, k ≤ l.length ∧ x = .int .i64 k ∧ Ext w W ∧ Names W mb k ((l.take k).map (·.id)) ∧ (l.take k).all ok = true ∧ ((l.take k).map (·.id)).Nodup) (fun x _ => l.length - (intOf x).toNat)
    ⟨0, by omega, rfl, x1, hn1, by simp, by simp⟩ ?_
  rintro h _ W hx ⟨k, hk, rfl, xW, hN, hall, hnd⟩ K hK
  rw [hx, bin_lss]
  refine Br_i (fun hb => ?_) fun hb => ?_
  · have hlt : k < l.length := by have := dec_t hb; omega
    have htk : l.take (k + 1) = l.take k ++ [l[k]] := List.take_succ_eq_append_getElem hlt
    refine join0 (fun W' => Ext w W' ∧ Names W' mb (k + 1) ((l.take (k + 1)).map (·.id)) ∧ (l.take (k + 1)).all ok = true ∧ ((l.take (k + 1)).map (·.id)).Nodup) ?_ fun K5 hK5 => ?_
    · rintro _ W' ⟨y1, y2, y3, y4⟩
      rw [bin_add, i64_wrap (by omega) (by omega)]
      exact hK _ _ ⟨k + 1, by omega, by simp, y1, y2, y3, y4⟩ (by simp [intOf]; omega)
    obtain ⟨pb, po, hh, _, hix⟩ := SLine.row_at hv hlt
    have hmem := List.getElem_mem hlt
    rw [hix, SLine.g_all (hh W xW)]
    refine alloc_i Ty.SLine_zero fun g w4 x4 hat4 hg _ => ?_
    refine SLine.set (r := SLine.zero) hat4 fun w5 m5 hat5 s5 => ?_
    have zW := xW.size
    have z4 := x4.size
    have xW5 : Ext W w5 := ((Mod.of_ext x4 : Mod (W.heap.size ≤ ·) W w4).trans (m5.mono fun q _ h => by omega)).new
    have x05 := xW.trans xW5
    have bad : ∀ W', Ext w W' → (ok l[k] = false ∨ l[k].id ∈ (l.take k).map (·.id)) → R (.returned (.bool false)) W' := fun W' x hbad => by
      refine hR _ _ ⟨?_, x⟩
      congr 1
      rw [eq_comm, Bool.and_eq_false_iff, Bool.and_eq_false_iff]
      refine .inl ?_
      rcases hbad with hb1 | hb1
      · refine .inl ?_
        rw [List.all_eq_false]
        exact ⟨_, hmem, by rw [hb1]; decide⟩
      · refine .inr ?_
        rw [decide_eq_false_iff_not]
        intro hn
        have h2 : ((l.take (k + 1)).map (·.id)).Nodup := (hn.sublist ((List.take_sublist _ _).map _))
        rw [htk, List.map_append, List.nodup_append] at h2
        exact h2.2.2 _ hb1 _ (by simp) rfl
    refine join0 (fun W' => Ext w5 W' ∧ ok l[k] = true ∧ l[k].id ∉ (l.take k).map (·.id)) ?_ fun K10 hK10 => ?_
    · rintro _ W' ⟨xW', hok, hnew⟩
      rw [SLine.g_all (has_of_at (hat5.ext xW')), callV_func (by kernel_rfl)]
      refine callF_ret (lineID_ret l[k] W') ?_
      rintro _ w6 ⟨rfl, x6⟩
      have hN6 := (hN.ext xW5).ext (xW'.trans x6)
      have hl6 := hN6.lt
      refine names_put hN6 (hid _ hmem) (by simp [maxLen]; omega) fun w7 hN7 m7 => ?_
      refine hK5 _ ⟨ext_step15 ((x05.trans xW').trans x6) m7 (by omega), ?_, ?_, ?_⟩
      · refine hN7.congr fun q => ?_
        rw [htk, List.map_append, List.mem_append, List.mem_cons]
        simp [or_comm]
      · rw [htk, List.all_append, hall]; simp [hok]
      · rw [htk, List.map_append, List.nodup_append]
        refine ⟨hnd, by simp, fun a ha b hb => ?_⟩
        have : b = l[k].id := by simpa using hb
        rw [this]; rintro rfl; exact hnew ha
    · refine join1 (fun x W' => ∃ t, x = .bool t ∧ Ext w5 W' ∧ (t = true → ok l[k] = false ∨ l[k].id ∈ (l.take k).map (·.id)) ∧ (t = false → ok l[k] = true ∧ l[k].id ∉ (l.take k).map (·.id))) ?_ fun K11 hK11 => ?_
      · rintro hh2 _ W' hx2 ⟨t, rfl, xW', h1, h2⟩
        rw [hx2]
        exact Br_i (fun hb => bad _ (x05.trans xW') (h1 hb)) fun hb => hK10 _ ⟨xW', h2 hb⟩
      rw [SLine.g_all (has_of_at hat5)]
      refine hf _ hmem w5 _ _ x05 fun w6 x6 => ?_
      rw [un_not]
      refine Gd_i (fun hb => ?_) fun hb => ?_
      · have hok : ok l[k] = true := by cases hq : ok l[k] with
          | true => rfl
          | false => rw [hq] at hb; cases hb
        rw [SLine.g_all (has_of_at (hat5.ext x6)), callV_func (by kernel_rfl)]
        refine callF_ret (lineID_ret l[k] w6) ?_
        rintro _ w7 ⟨rfl, x7⟩
        rw [names_look ((hN.ext xW5).ext (x6.trans x7)) (hid _ hmem)]
        exact hK11 _ _ ⟨_, rfl, x6.trans x7, fun ht => .inr (of_decide_eq_true ht), fun ht => ⟨hok, of_decide_eq_false ht⟩⟩
      · have hok : ok l[k] = false := by cases hq : ok l[k] with
          | true => rw [hq] at hb; cases hb
          | false => rfl
        exact hK11 _ _ ⟨true, rfl, x6, fun _ => .inl hok, fun ht => by cases ht⟩
  · have hke : k = l.length := by have := dec_f hb; omega
    subst hke
    rw [List.take_length] at hall hnd
    rw [SLine.row_len (Sl.ext hv xW), bin_leq]
    exact hR _ _ ⟨by rw [hall, decide_eq_true hnd]; simp, xW⟩
end Go.Proofs.YtdfpdfahcbflpabDoor
