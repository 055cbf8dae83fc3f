/- Boxes of reports: what a world holds of them; the integers of reports, their order, Valid. -/
import Derived.Test.YtohmledhhgdgaaaGreatDoorGMshP
import Derived.Test.YtohmledhhgdgaaaGreatDoorGStrM
import Derived.Test.YtohmledhhgdgaaaGreatDoorGRepL
import Derived.Test.YtohmledhhgdgaaaGreatDoorGT3
set_option linter.unusedVariables false
set_option linter.unusedSimpArgs false
namespace Go.Proofs.YtohmledhhgdgaaaGreatDoor
set_option maxRecDepth 100000
set_option maxHeartbeats 8000000
open Sh Go.RowKit
def RepsIs (w : World) (v : Value) (l : List Rep.Rpt) : Prop := ∃ ss : List SReport, SReport.Row w v ss ∧ ss.length = l.length ∧ ∀ (i : Nat) (s : SReport) (r : Rep.Rpt), ss[i]? = some s → l[i]? = some r → RepIs w s r
def BoxIs (w : World) (s : SBox) (b : Int × List Rep.Rpt) : Prop := s.veh = b.1 ∧ RepsIs w s.reps.val b.2
theorem RepsIs.ext {w w' : World} {v : Value} {l : List Rep.Rpt} (h : RepsIs w v l) (x : Ext w w') : RepsIs w' v l := by
  obtain ⟨ss, h1, h2, h3⟩ := h
  exact ⟨ss, Sl.ext h1 x, h2, fun i s r e1 e2 => (h3 i s r e1 e2).ext x⟩
theorem BoxIs.ext {w w' : World} {s : SBox} {b : Int × List Rep.Rpt} (h : BoxIs w s b) (x : Ext w w') : BoxIs w' s b := ⟨h.1, h.2.ext x⟩
theorem RepsIs.len {w : World} {v : Value} {l : List Rep.Rpt} (h : RepsIs w v l) {K : Value → World → Prop} {X : List PanicEntry → World → Prop} {cs : Array Bool} : CallB Tryz.prog .len #[22] 3 cs #[v] w K X = K (.int .i64 l.length) w := by
  obtain ⟨ss, h1, h2, _⟩ := h
  rw [SReport.row_len h1, h2]
theorem RepsIs.le {w : World} {v : Value} {l : List Rep.Rpt} (h : RepsIs w v l) : l.length ≤ 9223372036854775807 := by
  obtain ⟨ss, h1, h2, _⟩ := h
  have := h1.le; omega
theorem RepsIs.at_ {w : World} {v : Value} {l : List Rep.Rpt} (h : RepsIs w v l) {k : Nat} (hk : k < l.length) : ∃ (b o : Nat) (s : SReport), RepIs w s l[k] ∧ (∀ w1, Ext w w1 → Has w1 b o s.cells) ∧
    (∀ (w1 : World) (K : Value → World → Prop) (X : List PanicEntry → World → Prop), DoV Tryz.prog (Instr.indexAt 22 v (.int .i64 k)) w1 K X = K (.pointer (some ⟨b, o, none⟩)) w1) := by
  obtain ⟨ss, h1, h2, h3⟩ := h
  have hks : k < ss.length := by omega
  obtain ⟨b, o, hh, _, hix⟩ := SReport.row_at h1 hks
  exact ⟨b, o, ss[k], h3 k _ _ (List.getElem?_eq_getElem hks) (List.getElem?_eq_getElem hk), hh, hix⟩
theorem mentry_ret (e : SEntry) (w : World) : Ret Tryz.prog 49 #[.agg e.cells.toArray] w fun r w' => w'.ownsRow w.heap.size 3 1 r 12 (iv (Rep.eints e)) ∧ Ext w w' := by
  refine ret_of (fun _ _ => sh_mesh_entry_ok _) fun R hR => ?_
  unfold sh_mesh_entry
  refine box_i fun g w1 x1 hat _ _ => ?_
  have h : Has w1 g 0 e.cells := has_of_at hat
  rw [SEntry.g_seq h, SEntry.g_time h, SEntry.g_kind h, SEntry.g_sensor h, SEntry.g_ref h, SEntry.g_a h, SEntry.g_n h, SEntry.g_value_lo h, SEntry.g_value_hi h, SEntry.g_temp h, SEntry.g_age h, SEntry.g_since h]
  refine lit_ints (Rep.eints e) rfl (by decide) (by decide) rfl fun v w2 x2 h2 _ => ?_
  refine callF_ret (ret_of (fun _ _ => sh_mesh_list_ok _) (Q := fun r w' => r = v ∧ w' = w2) fun R' hR' => hR' _ _ ⟨rfl, rfl⟩) ?_
  rintro _ _ ⟨rfl, rfl⟩
  exact hR _ _ ⟨Own.mono h2 x1.size, x1.trans x2⟩
def eflat (l : List SEntry) : List Int := l.flatMap Rep.eints
theorem eflat_len (l : List SEntry) : (eflat l).length = 12 * l.length := by
  unfold eflat
  induction l with
  | nil => rfl
  | cons a l ih => rw [List.flatMap_cons, List.length_append, ih, List.length_cons]; show 12 + _ = _; omega
theorem eflat_take {l : List SEntry} {k : Nat} (h : k < l.length) : eflat (l.take (k + 1)) = eflat (l.take k) ++ Rep.eints l[k] := by
  unfold eflat
  rw [List.take_succ_eq_append_getElem h, List.flatMap_append, List.flatMap_cons, List.flatMap_nil, List.append_nil]
def rhead (r : Rep.Rpt) : List Int := Rep.msg r ++ [r.sig.e, r.sig.s]
theorem rints_eq (r : Rep.Rpt) : Msh.rints r = rhead r ++ eflat r.ents := by unfold Msh.rints rhead eflat; rw [List.append_assoc]
theorem mints_ret {s : SReport} {r : Rep.Rpt} (hl : r.ents.length < 1000000) (w : World) (h : RepIs w s r) : Ret Tryz.prog 74 #[.agg s.cells.toArray] w fun v w' => Sl w' 1 v (Msh.rints r).length (iv (Msh.rints r)) ∧ Ext w w' := by
  refine ret_of (fun _ _ => sh_mesh_ints_ok _) fun R hR => ?_
  unfold sh_mesh_ints
  refine box_i fun g w1 x1 hat _ _ => ?_
  have h1 : Has w1 g 0 s.cells := has_of_at hat
  have hrow := Sl.ext h.2.2.1 x1
  rw [SReport.g_veh h1, SReport.g_first h1, SReport.g_ents h1, SEntry.row_len hrow, SReport.g_before h1, u64v, bin_quo (by decide), conv_int Ty.u64 Ty.int, quo32, SReport.g_before h1, u64v, bin_rem (by decide), conv_int Ty.u64 Ty.int]
  rw [rem32]
  rw [SReport.g_chain h1, u64v, bin_quo (by decide), conv_int Ty.u64 Ty.int, quo32, SReport.g_chain h1, u64v, bin_rem (by decide), conv_int Ty.u64 Ty.int]
  rw [rem32]
  rw [SReport.g_sig_e h1, SReport.g_sig_s h1]
  rw [h.1, h.2.1, h.2.2.2.1, h.2.2.2.2.1, h.2.2.2.2.2]
  refine lit_ints (rhead r) rfl (by decide) (by decide) rfl fun v0 w2 x2 ho2 _ => ?_
  refine callF_ret (ret_of (fun _ _ => sh_mesh_list_ok _) (Q := fun r w' => r = v0 ∧ w' = w2) fun R' hR' => hR' _ _ ⟨rfl, rfl⟩) ?_
  rintro _ _ ⟨rfl, rfl⟩
  have h2 := has_of_at (hat.ext x2)
  have hrow2 := Sl.ext hrow x2
  rw [SReport.g_ents h2, SEntry.row_len hrow2]
  refine loop2 (fun y x W => ∃ k : Nat, k ≤ r.ents.length ∧ x = .int .i64 k ∧ Ext w1 W ∧ W.ownsRow w1.heap.size 3 1 y (rhead r ++ eflat (r.ents.take k)).length (iv (rhead r ++ eflat (r.ents.take k)))) (fun _ x _ => r.ents.length - (intOf x).toNat)
    ⟨0, by omega, rfl, x2, by rw [List.take_zero]; show World.ownsRow _ _ _ _ _ (rhead r ++ []).length _; rw [List.append_nil]; exact ho2⟩ ?_
  rintro hh _ _ W hy hx ⟨k, hk, rfl, xW, hown⟩ K hK
  rw [hx, bin_lss]
  refine Br_i (fun hb => ?_) fun hb => ?_
  · have hlt : k < r.ents.length := by have := dec_t hb; omega
    obtain ⟨bb, oo, hhas, _, hix⟩ := SEntry.row_at hrow hlt
    rw [hix, SEntry.g_all (hhas W xW)]
    refine SEntry.var fun b4 w4 x4 hat4 _ => ?_
    rw [SEntry.g_all (has_of_at hat4)]
    refine callF_ret (mentry_ret _ w4) ?_
    rintro u w5 ⟨ho5, x5⟩
    have x45 := x4.trans x5
    rw [hy]
    have hlen := eflat_len (r.ents.take k)
    rw [List.length_take] at hlen
    have hh9 : (rhead r).length = 9 := rfl
    refine app_ints (m := Rep.eints r.ents[k]) (Own.ext hown x45) (Sl.of_owns ho5) (by rw [List.length_append, hh9, hlen]; show _ + 12 < _; omega) (by have := xW.size; have := x45.size; omega) fun v6 w6 ho6 m6 => ?_
    rw [bin_add, i64_wrap (by omega) (by omega)]
    have x6 : Ext w1 w6 := ((Mod.of_ext (xW.trans x45) : Mod (w1.heap.size ≤ ·) w1 w5).trans (m6.mono fun j _ hj => (Own.block (Own.ext hown x45) hj).1)).new
    refine hK _ _ _ ⟨k + 1, by omega, by simp, x6, ?_⟩ (by simp [intOf]; omega)
    rw [eflat_take hlt, ← List.append_assoc]
    exact ho6
  · have hke : k = r.ents.length := by have := dec_f hb; omega
    subst hke
    rw [List.take_length, ← rints_eq] at hown
    rw [hy]
    exact hR _ _ ⟨Sl.of_owns hown, x1.trans xW⟩
theorem refMsg_own {s : SReport} {r : Rep.Rpt} (w : World) (h : RepIs w s r) : Ret Tryz.prog 71 #[.agg s.cells.toArray] w fun v w' => w'.ownsRow w.heap.size 3 1 v (Rep.msg r).length (iv (Rep.msg r)) ∧ Ext w w' := by
  refine ret_of (fun _ _ => sh_landfallref24_Message_ok _) fun R hR => ?_
  unfold sh_landfallref24_Message
  refine box_i fun g w1 x1 hat _ _ => ?_
  have h1 : Has w1 g 0 s.cells := has_of_at hat
  rw [SReport.g_veh h1, SReport.g_first h1, SReport.g_ents h1, SEntry.row_len (Sl.ext h.2.2.1 x1), SReport.g_before h1, u64v, bin_quo (by decide), conv_int Ty.u64 Ty.int, quo32, SReport.g_before h1, u64v, bin_rem (by decide), conv_int Ty.u64 Ty.int]
  rw [rem32]
  rw [SReport.g_chain h1, u64v, bin_quo (by decide), conv_int Ty.u64 Ty.int, quo32, SReport.g_chain h1, u64v, bin_rem (by decide), conv_int Ty.u64 Ty.int]
  rw [rem32]
  rw [h.1, h.2.1, h.2.2.2.1, h.2.2.2.2.1]
  refine lit_ints (Rep.msg r) rfl (by decide) (by decide) rfl fun v0 w2 x2 ho2 _ => ?_
  exact hR _ _ ⟨Own.mono ho2 x1.size, x1.trans x2⟩
theorem refInts_ret26 {s : SReport} {r : Rep.Rpt} (hl : r.ents.length < 1000000) (w : World) (h : RepIs w s r) : Ret Tryz.prog 75 #[.agg s.cells.toArray] w fun v w' => Sl w' 1 v (Msh.rints r).length (iv (Msh.rints r)) ∧ Ext w w' := by
  refine ret_of (fun _ _ => sh_landfallref26_Ints_ok _) fun R hR => ?_
  unfold sh_landfallref26_Ints
  refine box_i fun g w1 x1 hat _ _ => ?_
  rw [SReport.g_all (has_of_at hat)]
  refine callF_ret (refMsg_own w1 (h.ext x1)) ?_
  rintro v2 w2 ⟨ho2, x2⟩
  have hat2 := hat.ext x2
  rw [SReport.g_sig_e (has_of_at hat2), SReport.g_sig_s (has_of_at hat2), h.2.2.2.2.2]
  refine lit_ints [r.sig.e, r.sig.s] rfl (by decide) (by decide) rfl fun v3 w3 x3 ho3 _ => ?_
  refine app_ints (m := [r.sig.e, r.sig.s]) (Own.ext ho2 x3) (Sl.of_owns ho3) (by show 7 + 2 < _; decide) (by have := x2.size; have := x3.size; omega) fun v4 w4 ho4 m4 => ?_
  have x14 : Ext w1 w4 := ((Mod.of_ext (x2.trans x3) : Mod (w1.heap.size ≤ ·) w1 w3).trans (m4.mono fun j _ hj => (Own.block (Own.ext ho2 x3) hj).1)).new
  have hrow := Sl.ext h.2.2.1 x1
  refine loop2 (fun y x W => ∃ k : Nat, k ≤ r.ents.length ∧ x = .int .i64 k ∧ Ext w1 W ∧ W.ownsRow w1.heap.size 3 1 y (rhead r ++ eflat (r.ents.take k)).length (iv (rhead r ++ eflat (r.ents.take k)))) (fun _ x _ => r.ents.length - (intOf x).toNat)
    ⟨0, by omega, rfl, x14, by rw [List.take_zero]; show World.ownsRow _ _ _ _ _ (rhead r ++ []).length _; rw [List.append_nil]; exact ho4⟩ ?_
  rintro hh _ _ W hy hx ⟨k, hk, rfl, xW, hown⟩ K hK
  have hW := has_of_at (hat.ext xW)
  rw [hx, SReport.g_ents hW, SEntry.row_len (Sl.ext hrow xW), bin_lss]
  refine Br_i (fun hb => ?_) fun hb => ?_
  · have hlt : k < r.ents.length := by have := dec_t hb; omega
    obtain ⟨bb, oo, hhas, _, hix⟩ := SEntry.row_at hrow hlt
    rw [SReport.g_ents hW, hix, SEntry.g_all (hhas W xW)]
    refine callF_ret (Ints_ret _ W) ?_
    rintro u w5 ⟨ho5, x5⟩
    rw [hy]
    have hlen := eflat_len (r.ents.take k)
    rw [List.length_take] at hlen
    have hh9 : (rhead r).length = 9 := rfl
    refine app_ints (m := Rep.eints r.ents[k]) (Own.ext hown x5) (Sl.of_owns ho5) (by rw [List.length_append, hh9, hlen]; show _ + 12 < _; omega) (by have := xW.size; have := x5.size; omega) fun v6 w6 ho6 m6 => ?_
    rw [bin_add, i64_wrap (by omega) (by omega)]
    have x6 : Ext w1 w6 := ((Mod.of_ext (xW.trans x5) : Mod (w1.heap.size ≤ ·) w1 w5).trans (m6.mono fun j _ hj => (Own.block (Own.ext hown x5) hj).1)).new
    refine hK _ _ _ ⟨k + 1, by omega, by simp, x6, ?_⟩ (by simp [intOf]; omega)
    rw [eflat_take hlt, ← List.append_assoc]
    exact ho6
  · have hke : k = r.ents.length := by have := dec_f hb; omega
    subst hke
    rw [List.take_length, ← rints_eq] at hown
    rw [hy]
    exact hR _ _ ⟨Sl.of_owns hown, x1.trans xW⟩
theorem icompare_ret {v u : Value} {a b : List Int} (w : World) (hv : Sl w 1 v a.length (iv a)) (hu : Sl w 1 u b.length (iv b)) : Ret Tryz.prog 73 #[v, u] w fun r w' => r = .int .i64 (Msh.cmp a b) ∧ Ext w w' := by
  refine ret_of (fun _ _ => sh_slices_Compare___int_int__ok _ _) fun R hR => ?_
  unfold sh_slices_Compare___int_int_
  rw [hv.len Ty.ints]
  have hla := hv.le
  have hlb := hu.le
  refine loop1 (fun x W => ∃ k : Nat, k ≤ a.length ∧ x = .int .i64 k ∧ Ext w W ∧ Msh.cmp a b = Msh.cmp (a.drop k) (b.drop k)) (fun x _ => a.length - (intOf x).toNat) ⟨0, by omega, rfl, Ext.refl _, rfl⟩ ?_
  rintro hh _ W hx ⟨k, hk, rfl, xW, hc⟩ K hK
  rw [hx, bin_lss]
  refine Br_i (fun hb => ?_) fun hb => ?_
  · have hlt : k < a.length := by have := dec_t hb; omega
    obtain ⟨p1, hix1, hc1⟩ := ints_at hv hlt
    rw [hix1, hc1 W xW, (Sl.ext hu xW).len Ty.ints, bin_geq]
    rw [List.drop_eq_getElem_cons hlt] at hc
    refine Br_i (fun hb => ?_) fun hb => ?_
    · have : b.drop k = [] := List.drop_eq_nil_of_le (by have := dec_t hb; omega)
      rw [this] at hc
      exact hR _ _ ⟨by rw [hc]; rfl, xW⟩
    · have hlt2 : k < b.length := by have := dec_f hb; omega
      obtain ⟨p2, hix2, hc2⟩ := ints_at hu hlt2
      rw [hix2, hc2 W xW]
      refine callF_same (Compare_ret W) ?_
      rw [List.drop_eq_getElem_cons hlt2] at hc
      simp only [Msh.cmp] at hc
      rw [bin_neq]
      by_cases h1 : a[k] < b[k]
      · rw [if_pos h1] at hc
        have e : cmpI a[k] b[k] = -1 := by unfold cmpI; rw [if_pos h1]
        rw [e]
        refine br_t ?_
        exact hR _ _ ⟨by rw [hc], xW⟩
      · by_cases h2 : b[k] < a[k]
        · rw [if_neg h1, if_pos h2] at hc
          have e : cmpI a[k] b[k] = 1 := by unfold cmpI; rw [if_neg h1, if_pos h2]
          rw [e]
          refine br_t ?_
          exact hR _ _ ⟨by rw [hc], xW⟩
        · rw [if_neg h1, if_neg h2] at hc
          have e : cmpI a[k] b[k] = 0 := by unfold cmpI; rw [if_neg h1, if_neg h2]
          rw [e]
          refine br_f ?_
          rw [bin_add, i64_wrap (by omega) (by omega)]
          exact hK _ _ ⟨k + 1, by omega, by simp, xW, hc⟩ (by simp [intOf]; omega)
  · have hke : k = a.length := by have := dec_f hb; omega
    rw [hke, List.drop_length] at hc
    rw [(Sl.ext hv xW).len Ty.ints, (Sl.ext hu xW).len Ty.ints, bin_lss]
    refine Br_i (fun hb => ?_) fun hb => ?_
    · have hlt2 : a.length < b.length := by have := dec_t hb; omega
      rw [List.drop_eq_getElem_cons hlt2] at hc
      exact hR _ _ ⟨by rw [hc]; rfl, xW⟩
    · have : b.drop a.length = [] := List.drop_eq_nil_of_le (by have := dec_f hb; omega)
      rw [this] at hc
      exact hR _ _ ⟨by rw [hc]; rfl, xW⟩
def rcmp (a b : Rep.Rpt) : Int := Msh.cmp (Msh.rints a) (Msh.rints b)
theorem rcmp_lt {a b : Rep.Rpt} : rcmp a b < 0 ↔ Msh.less a b = true := Msh.cmp_lt
theorem rcmp_eq {a b : Rep.Rpt} : rcmp a b = 0 ↔ a = b := Msh.cmp_eq.trans ⟨Msh.rints_inj, fun h => by rw [h]⟩
theorem order_ret {s t : SReport} {a b : Rep.Rpt} (ha : a.ents.length < 1000000) (hb : b.ents.length < 1000000) (w : World) (hs : RepIs w s a) (ht : RepIs w t b) : Ret Tryz.prog 38 #[.agg s.cells.toArray, .agg t.cells.toArray] w fun r w' => r = .int .i64 (rcmp a b) ∧ Ext w w' := by
  refine ret_of (fun _ _ => sh_mesh_order_ok _ _) fun R hR => ?_
  unfold sh_mesh_order
  refine box_i fun g1 w1 x1 hat1 _ _ => ?_
  refine box_i fun g2 w2 x2 hat2 _ _ => ?_
  have x12 := x1.trans x2
  have hg1 := At.ext hat1 x2
  refine drawRX fun w3 x3 _ => ?_
  have x13 := x12.trans x3
  refine det_rx _ (fun W' x K => SReport.g_all (has_of_at ((hg1.ext x3).ext x))) ?_
  refine det_rx _ (fun W' x K => SReport.g_all (has_of_at ((At.ext hat2 x3).ext x))) ?_
  refine thr_x (fun vs W => ∃ v, vs = [v] ∧ Sl W 1 v (Msh.rints a).length (iv (Msh.rints a))) ?_ ?_
  · refine nd_x (fun v W => Sl W 1 v (Msh.rints a).length (iv (Msh.rints a))) (fun v a b h x => Sl.ext h x) (fun w4 x4 _ => callF_ret (mints_ret ha w4 (hs.ext (x13.trans x4))) fun v w5 hq => ⟨hq.2, hq.1⟩) fun v => ?_
    intro w4 x4 h
    exact ⟨v, rfl, h⟩
  rintro hh w4 x4 ⟨_, _, v, ev, hv⟩
  simp only [List.cons.injEq, and_true] at ev
  rw [ev]
  refine callF_ret (mints_ret hb w4 (ht.ext (x13.trans x4))) ?_
  rintro u w5 ⟨hu, x5⟩
  refine callF_ret (icompare_ret w5 (Sl.ext hv x5) hu) ?_
  rintro _ w6 ⟨rfl, x6⟩
  exact hR _ _ ⟨rfl, x13.trans (x4.trans (x5.trans x6))⟩
theorem Less_ret26 {s t : SReport} {a b : Rep.Rpt} (ha : a.ents.length < 1000000) (hb : b.ents.length < 1000000) (w : World) (hs : RepIs w s a) (ht : RepIs w t b) : Ret Tryz.prog 40 #[.agg s.cells.toArray, .agg t.cells.toArray] w fun r w' => r = .bool (Msh.less a b) ∧ Ext w w' := by
  refine ret_of (fun _ _ => sh_landfallref26_Less_ok _ _) fun R hR => ?_
  unfold sh_landfallref26_Less
  refine box_i fun g1 w1 x1 hat1 _ _ => ?_
  refine box_i fun g2 w2 x2 hat2 _ _ => ?_
  have x12 := x1.trans x2
  rw [SReport.g_all (has_of_at (At.ext hat1 x2))]
  refine callF_ret (refInts_ret26 ha w2 (hs.ext x12)) ?_
  rintro v w3 ⟨hv, x3⟩
  rw [SReport.g_all (has_of_at (At.ext hat2 x3))]
  refine callF_ret (refInts_ret26 hb w3 (ht.ext (x12.trans x3))) ?_
  rintro u w4 ⟨hu, x4⟩
  have hv := Sl.ext hv x4
  have x14 := (x12.trans x3).trans x4
  unfold Msh.less at hR
  generalize Msh.rints a = p at *
  generalize Msh.rints b = q at *
  have hla := hv.le
  have hlb := hu.le
  refine loop1 (fun x W => ∃ k : Nat, k ≤ p.length ∧ k ≤ q.length ∧ x = .int .i64 k ∧ Ext w4 W ∧ Msh.lt p q = Msh.lt (p.drop k) (q.drop k)) (fun x _ => p.length - (intOf x).toNat) ⟨0, by omega, by omega, rfl, Ext.refl _, rfl⟩ ?_
  rintro hh _ W hx ⟨k, hk, hk2, rfl, xW, hc⟩ K hK
  have x0W := x14.trans xW
  have fin : p.length ≤ k ∨ q.length ≤ k → Msh.lt p q = decide ((p.length : Int) < q.length) := fun h => by
    rw [hc]
    by_cases h2 : q.length ≤ k
    · rw [List.drop_eq_nil_of_le h2, decide_eq_false (by omega)]
      cases p.drop k <;> rfl
    · rw [List.drop_eq_nil_of_le (show p.length ≤ k by omega), List.drop_eq_getElem_cons (show k < q.length by omega), decide_eq_true (by omega)]
      rfl
  refine join0 (fun W' => W' = W ∧ k < p.length ∧ k < q.length) ?_ fun K2 hK2 => ?_
  · rintro _ W' ⟨rfl, hp, hq⟩
    rw [hx]
    obtain ⟨p1, hix1, hc1⟩ := ints_at hv hp
    obtain ⟨p2, hix2, hc2⟩ := ints_at hu hq
    rw [List.drop_eq_getElem_cons hp, List.drop_eq_getElem_cons hq] at hc
    simp only [Msh.lt] at hc
    refine draw_ext fun w5 x5 => ?_
    have xW5 := xW.trans x5
    refine det_read _ (fun W' x K => hix1 W' K _) ?_
    refine det_read _ (fun W' x K => hc1 W' (xW5.trans x) K _) ?_
    refine det_read _ (fun W' x K => hix2 W' K _) ?_
    refine det_read _ (fun W' x K => hc2 W' (xW5.trans x) K _) ?_
    intro w6 x6 _
    rw [bin_neq]
    refine Br_i (fun hb => ?_) fun hb => ?_
    · refine draw_ext fun w7 x7 => ?_
      have x57 := xW5.trans (x6.trans x7)
      refine det_read _ (fun W' x K => hix1 W' K _) ?_
      refine det_read _ (fun W' x K => hc1 W' (x57.trans x) K _) ?_
      refine det_read _ (fun W' x K => hix2 W' K _) ?_
      refine det_read _ (fun W' x K => hc2 W' (x57.trans x) K _) ?_
      intro w8 x8 _
      rw [bin_lss]
      have hne : p[k] ≠ q[k] := by simpa using hb
      refine hR _ _ ⟨?_, x14.trans (x57.trans x8)⟩
      rw [hc]
      by_cases h1 : p[k] < q[k]
      · rw [if_pos h1, decide_eq_true h1]
      · rw [if_neg h1, if_pos (by omega), decide_eq_false h1]
    · have he : p[k] = q[k] := by simpa using hb
      rw [if_neg (by omega), if_neg (by omega)] at hc
      rw [bin_add, i64_wrap (by omega) (by omega)]
      exact hK _ _ ⟨k + 1, by omega, by omega, by simp, xW5.trans x6, hc⟩ (by simp [intOf]; omega)
  · rw [hx, (Sl.ext hv xW).len Ty.ints, bin_lss]
    refine Gd_i (fun hb1 => ?_) fun hb1 => ?_
    · have hp : k < p.length := by have := dec_t hb1; omega
      rw [(Sl.ext hu xW).len Ty.ints, bin_lss]
      refine Br_i (fun hb2 => ?_) fun hb2 => ?_
      · exact hK2 _ ⟨rfl, hp, by have := dec_t hb2; omega⟩
      · rw [(Sl.ext hv xW).len Ty.ints, (Sl.ext hu xW).len Ty.ints, bin_lss]
        exact hR _ _ ⟨by rw [fin (.inr (by have := dec_f hb2; omega))], x0W⟩
    · rw [(Sl.ext hv xW).len Ty.ints, (Sl.ext hu xW).len Ty.ints, bin_lss]
      exact hR _ _ ⟨by rw [fin (.inl (by have := dec_f hb1; omega))], x0W⟩
theorem checkV_ok26 {r : Rep.Rpt} {p : Int} (h : Rep.okR r = true) (hs : (Sig.verV p r.sig (Rep.msg r)).2 = 0) : (Rep.checkV r p).2 = 0 := by
  rw [Rep.checkV, if_pos h]; exact hs
theorem ver_zero (m : List Int) : (Sig.verV 4 ⟨0, 0⟩ m).2 = 0 := by rw [Sig.verV, if_pos ⟨Sig.member_4, show Sig.inQ 0 0 = true by decide, show Sig.inQ 0 0 = true by decide⟩]
theorem formed_ret26 {s : SReport} {r : Rep.Rpt} (hok : RepOk r) (w : World) (h : RepIs w s r) (ht : Tab w) : Ret Tryz.prog 36 #[.agg s.cells.toArray] w fun v w' => v = .bool (Rep.okR r) ∧ Ext w w' := by
  refine ret_of (fun _ _ => sh_mesh_formed_ok _) fun R hR => ?_
  unfold sh_mesh_formed
  refine box_i fun g w1 x1 hat hg _ => ?_
  rw [build_i new_nosig]
  refine SReport.s_sig hat fun w2 m2 hat2 _ => ?_
  have x2 : Ext w w2 := ext_step x1 m2 (by omega)
  let s' : SReport := { s with sig := SSig.zero }
  let r' : Rep.Rpt := { r with sig := SSig.zero }
  have hat2 : At w2 g (.cells s'.cells.toArray 30 (0, 0)) := hat2
  have hr' : RepIs w2 s' r' := by
    have h := h.ext x2
    exact ⟨h.1, h.2.1, h.2.2.1, h.2.2.2.1, h.2.2.2.2.1, rfl⟩
  have hok' : RepOk r' := ⟨hok.1, hok.2.1, hok.2.2.1, ⟨by show I64 0; unfold I64; decide, by show I64 0; unfold I64; decide⟩, hok.2.2.2.2⟩
  rw [SReport.g_all (has_of_at hat2)]
  refine callF_ret (Check_ret (p := 4) hok' w2 hr' (ht.ext x2)) ?_
  rintro _ w3 ⟨rfl, x3⟩
  rw [ext2_0, ext2_1, bin_eql]
  refine hR _ _ ⟨?_, x2.trans x3⟩
  have e : (Rep.checkV r' 4).2 = if Rep.okR r = true then 0 else 1 := by
    by_cases ho : Rep.okR r = true
    · rw [if_pos ho]
      exact checkV_ok26 ho (ver_zero _)
    · rw [if_neg ho]
      exact congrArg Prod.snd (Rep.check_bad (show Rep.okR r' = false from Bool.eq_false_iff.2 ho))
  rw [e]
  cases Rep.okR r <;> rfl
end Go.Proofs.YtohmledhhgdgaaaGreatDoor
