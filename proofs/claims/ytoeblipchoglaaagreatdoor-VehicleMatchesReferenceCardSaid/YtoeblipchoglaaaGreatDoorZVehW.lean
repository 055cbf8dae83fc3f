/- The walks of vehicles: what is read of their bytes. -/
import Derived.Test.YtoeblipchoglaaaGreatDoorZVehP
import Derived.Test.YtoeblipchoglaaaGreatDoorZStrV
import Derived.Test.YtoeblipchoglaaaGreatDoorZStoW
import Derived.Test.YtoeblipchoglaaaGreatDoorZT2
namespace Go.Proofs.YtoeblipchoglaaaGreatDoor
set_option maxRecDepth 100000
set_option maxHeartbeats 8000000
open Sh Go.RowKit
def VehIs (w : World) (s : SVeh) (v : Veh.V) : Prop := s.id = v.id ∧ s.ver = v.ver ∧ LogIs w s.log v.log ∧ Sl w 1 s.byts.val v.b.length (bv v.b) ∧ s.sure = v.sure ∧ s.up = v.up ∧ s.used = v.used ∧ s.mode = v.mode
def VehOk (v : Veh.V) : Prop := I64 v.id ∧ I64 v.ver ∧ LogOk v.log ∧ I64 v.sure ∧ I64 v.used ∧ I64 v.mode
theorem VehIs.ext {w w' : World} {s : SVeh} {v : Veh.V} (h : VehIs w s v) (he : Ext w w') : VehIs w' s v := ⟨h.1, h.2.1, h.2.2.1.ext he, h.2.2.2.1.ext he, h.2.2.2.2⟩
theorem VehIs.zero (w : World) : VehIs w SVeh.zero Veh.zero := ⟨rfl, rfl, LogIs.zero w, Sl.nil _ _, rfl, rfl, rfl, rfl⟩
theorem Ty.hdr22 (w : World) : (isAgg 22).run Tryz.prog w = .ok false w := by kernel_rfl
theorem Ty.hdr26 (w : World) : (isAgg 26).run Tryz.prog w = .ok false w := by kernel_rfl
theorem Ty.pmem (w : World) : (isAgg 79).run Tryz.prog w = .ok false w := by kernel_rfl
theorem vehID_ret (n : Int) (w : World) : Ret Tryz.prog 38 #[.int .i64 n] w fun r w' => r = .bool (Rep.isID n) ∧ w' = w := by
  refine ret_of (fun _ _ => sh_vehicle_isID_ok _) fun R hR => ?_
  unfold sh_vehicle_isID
  rw [bin_geq]
  refine Gd_i (fun h1 => ?_) fun h1 => hR _ _ ⟨by rw [Rep.isID, decide_eq_false (show ¬ (1 ≤ n ∧ n ≤ 1000000) by have := dec_f h1; omega)], rfl⟩
  rw [bin_leq]
  have h1 := dec_t h1
  refine hR _ _ ⟨?_, rfl⟩
  rw [Rep.isID]
  congr 1
  rw [decide_eq_decide]; omega
theorem mchain_ret {m : SMem} {v : Veh.V} {o : List SEntry} {bm n : Nat} (hok : LogOk ⟨v.id, v.log.rs, o⟩) (hval : Rep.Lg.valid ⟨v.id, v.log.rs, o⟩ = true) (hn : n ≤ o.length) (w : World) (hat : At w bm (.cells m.cells.toArray 57 (0, 0)))
    (hv : VehIs w m.v v) (hs : SEntry.Row w m.says.val o) (ht : Tab w) : Ret Tryz.prog 28 #[.pointer (some ⟨bm, 0, none⟩), .int .i64 n] w fun r w' => r = u64v (Rep.carry (Rep.begin v.id) (o.take n)) ∧ Ext w w' := by
  refine ret_of (fun _ _ => sh_vehicle_memory_chain_ok _ _) fun R hR => ?_
  unfold sh_vehicle_memory_chain
  refine drawRX fun w1 x1 _ => ?_
  have hg : ∀ W, Ext w1 W → Has W bm 0 m.cells := fun W x => has_of_at ((hat.ext x1).ext x)
  refine det_rx _ (fun w2 x2 K => nil_ptr) ?_
  refine det_rx _ (fun w2 x2 K => Ty.SMem_f0) ?_
  refine det_rx _ (fun w2 x2 K => Ty.SVeh_f0) ?_
  refine det_rx (.int .i64 m.v.id) (fun w2 x2 K => load_cell Ty.int_agg (has_at (hg w2 x2) (d := 0) rfl rfl)) ?_
  refine det_rx _ (fun w2 x2 K => nil_ptr) ?_
  refine det_rx _ (fun w2 x2 K => Ty.SMem_f0) ?_
  refine det_rx _ (fun w2 x2 K => Ty.SVeh_f2) ?_
  refine det_rx _ (fun w2 x2 K => Ty.SLog_f1) ?_
  refine det_rx m.v.log.start.val (fun w2 x2 K => load_cell Ty.hdr22 (has_at (hg w2 x2) (d := 3) rfl rfl)) ?_
  refine det_rx _ (fun w2 x2 K => nil_ptr) ?_
  refine det_rx _ (fun w2 x2 K => Ty.SMem_f1) ?_
  refine det_rx m.says.val (fun w2 x2 K => load_cell Ty.ents_agg (has_at (hg w2 x2) (d := 10) rfl rfl)) ?_
  refine det_rx (.agg (SLog.mk m.v.id m.v.log.start m.says).cells.toArray) (fun w2 x2 K => build_i (new_log _ _ _)) ?_
  have hl : LogIs w ⟨m.v.id, m.v.log.start, m.says⟩ ⟨v.id, v.log.rs, o⟩ := ⟨hv.1, hv.2.2.1.2.1, hs⟩
  have ev : Rep.chainV ⟨v.id, v.log.rs, o⟩ n = (Rep.carry (Rep.begin v.id) (o.take n), 0) := by
    rw [Rep.chainV, if_pos ⟨hval, by omega, by show (n : Int) ≤ (o.length : Nat); omega⟩]; rfl
  refine thr_x (fun vs _ => ∃ a b c d, vs = [a, b, c, d, u64v (Rep.carry (Rep.begin v.id) (o.take n))]) ?_ ?_
  · refine nd_x (fun x _ => x = .tuple #[u64v (Rep.carry (Rep.begin v.id) (o.take n)), .int .i64 0]) (fun v a b hs hx => hs) (fun w2 x2 _ => ?_) fun v1 => ?_
    · have := Chain_ret (last := n) hok w2 (hl.ext (x1.trans x2)) (ht.ext (x1.trans x2))
      refine callF_ret this ?_
      rintro _ w3 ⟨rfl, x3⟩
      exact ⟨x3, by rw [ev]⟩
    refine nd_x (fun x _ => x = .tuple #[u64v (Rep.carry (Rep.begin v.id) (o.take n)), .int .i64 0]) (fun v a b hs hx => hs) (fun w2 x2 h => ⟨Ext.refl _, h⟩) fun v2 => ?_
    refine nd_x (fun x _ => v2 = .tuple #[u64v (Rep.carry (Rep.begin v.id) (o.take n)), .int .i64 0] ∧ x = u64v (Rep.carry (Rep.begin v.id) (o.take n))) (fun v a b hs hx => hs) (fun w2 x2 h => by rw [h, ext2_0]; exact ⟨Ext.refl _, rfl, rfl⟩) fun v3 => ?_
    refine nd_x (fun x _ => v3 = u64v (Rep.carry (Rep.begin v.id) (o.take n))) (fun v a b hs hx => hs) (fun w2 x2 h => by rw [h.1, ext2_1]; exact ⟨Ext.refl _, h.2⟩) fun v4 => ?_
    refine nd_x (fun x _ => x = u64v (Rep.carry (Rep.begin v.id) (o.take n))) (fun v a b hs hx => hs) (fun w2 x2 h => ⟨Ext.refl _, h⟩) fun v5 => ?_
    rintro w2 x2 rfl
    exact ⟨v1, v2, v3, v4, rfl⟩
  · rintro h w2 x2 ⟨_, _, a, b, c, d, e⟩
    simp only [List.cons.injEq, and_true] at e
    rw [e.2.2.2.2]
    exact hR _ _ ⟨rfl, x1.trans x2⟩
theorem wrong_ret {m : SMem} {v : Veh.V} {o : List SEntry} {bm tb n : Nat} {r : SRecord} (hok : LogOk ⟨v.id, v.log.rs, o⟩) (hval : Rep.Lg.valid ⟨v.id, v.log.rs, o⟩ = true) (hrn : r.seq = n) (hn : n ≤ o.length) (w : World) (hat : At w bm (.cells m.cells.toArray 57 (0, 0)))
    (htb : At w tb (.cells #[.pointer (some ⟨bm, 0, none⟩)] 79 (0, 0))) (hv : VehIs w m.v v) (hs : SEntry.Row w m.says.val o) (ht : Tab w) :
    Ret Tryz.prog 72 #[.agg r.cells.toArray, .pointer (some ⟨tb, 0, none⟩)] w fun x w' => x = .bool (!decide (Rep.carry (Rep.begin v.id) (o.take r.seq.toNat) = r.chain)) ∧ Ext w w' := by
  refine ret_of (fun _ _ => sh_vehicle_memory_read_1_ok _ _) fun R hR => ?_
  unfold sh_vehicle_memory_read_1
  refine box_i fun b1 w1 x1 hat1 _ _ => ?_
  refine draw_ext fun w2 x2 => ?_
  have hg : ∀ W, Ext w2 W → Has W b1 0 r.cells := fun W x => has_of_at ((At.ext hat1 x2).ext x)
  have x02 := x1.trans x2
  refine det_read (.pointer (some ⟨bm, 0, none⟩)) (fun w3 x3 K => load_e Ty.pmem ((htb.ext x02).ext x3) rfl) ?_
  refine det_read _ (fun w3 x3 K => Ty.SRecord_f2) ?_
  refine det_read (.int .i64 n) (fun w3 x3 K => load_cell Ty.int_agg (has_at (hg w3 x3) (d := 13) rfl (by rw [← hrn]; rfl))) ?_
  refine det_ret _ (fun w3 x3 => mchain_ret hok hval hn w3 (hat.ext (x02.trans x3)) (hv.ext (x02.trans x3)) (Sl.ext hs (x02.trans x3)) (ht.ext (x02.trans x3))) ?_
  refine det_read _ (fun w3 x3 K => Ty.SRecord_f3) ?_
  refine det_read (u64v r.chain) (fun w3 x3 K => load_cell Ty.u64_agg (has_at (hg w3 x3) (d := 14) rfl rfl)) ?_
  intro w3 x3 _
  rw [u64_neq]
  exact hR _ _ ⟨by rw [hrn]; rfl, x02.trans x3⟩
theorem recIndex_ret {v fv : Value} {rs : List SRecord} {p : SRecord → Bool} (w : World) (hv : SRecord.Row w v rs)
    (hp : ∀ r ∈ rs, ∀ W K X, Ext w W → (∀ W', Ext W W' → K (.bool (p r)) W') → CallV Tryz.prog fv #[.agg r.cells.toArray] W K X) :
    Ret Tryz.prog 95 #[v, fv] w fun r w' => (∃ n : Int, r = .int .i64 n ∧ decide (0 ≤ n) = rs.any p) ∧ Ext w w' := by
  refine ret_of (fun _ _ => sh_slices_IndexFunc___api_Record_api_Record__ok _ _) fun R hR => ?_
  unfold sh_slices_IndexFunc___api_Record_api_Record_
  have hle := hv.le
  rw [SRecord.row_len hv]
  refine loop1 (fun x W => ∃ k : Nat, k ≤ rs.length ∧ x = .int .i64 k ∧ Ext w W ∧ ∀ l ∈ rs.take k, p l = false) (fun x _ => rs.length - (intOf x).toNat) ⟨0, by omega, rfl, Ext.refl _, by simp⟩ ?_
  rintro h _ W hx ⟨k, hk, rfl, xW, hpl⟩ K hK
  rw [hx, bin_lss]
  refine Br_i (fun hb => ?_) fun hb => ?_
  · have hlt : k < rs.length := by have := dec_t hb; omega
    obtain ⟨b, o, hhas, _, hix⟩ := SRecord.row_at hv hlt
    rw [hix, SRecord.g_all (hhas W xW)]
    refine hp _ (List.getElem_mem hlt) W _ _ xW fun W2 x2 => ?_
    refine Br_i (fun hb2 => ?_) fun hb2 => ?_
    · refine hR _ _ ⟨⟨(k : Int), rfl, ?_⟩, xW.trans x2⟩
      rw [decide_eq_true (by omega), eq_comm, List.any_eq_true]
      exact ⟨_, List.getElem_mem hlt, hb2⟩
    · rw [bin_add, i64_wrap (by omega) (by omega)]
      refine hK _ _ ⟨k + 1, by omega, by simp, xW.trans x2, fun l hl => ?_⟩ (by simp [intOf]; omega)
      rw [List.take_succ_eq_append_getElem hlt, List.mem_append, List.mem_singleton] at hl
      rcases hl with hl | rfl
      · exact hpl l hl
      · exact hb2
  · have hge : rs.length ≤ k := by have := dec_f hb; omega
    rw [List.take_of_length_le hge] at hpl
    refine hR _ _ ⟨⟨-1, rfl, ?_⟩, xW⟩
    rw [decide_eq_false (by omega), eq_comm, List.any_eq_false]
    intro l hl
    rw [hpl l hl]; simp
theorem recContains_ret {v fv : Value} {rs : List SRecord} {p : SRecord → Bool} (w : World) (hv : SRecord.Row w v rs)
    (hp : ∀ r ∈ rs, ∀ W K X, Ext w W → (∀ W', Ext W W' → K (.bool (p r)) W') → CallV Tryz.prog fv #[.agg r.cells.toArray] W K X) :
    Ret Tryz.prog 73 #[v, fv] w fun r w' => r = .bool (rs.any p) ∧ Ext w w' := by
  refine ret_of (fun _ _ => sh_slices_ContainsFunc___api_Record_api_Record__ok _ _) fun R hR => ?_
  unfold sh_slices_ContainsFunc___api_Record_api_Record_
  refine callF_ret (recIndex_ret w hv hp) ?_
  rintro _ w1 ⟨⟨n, rfl, hn⟩, x1⟩
  rw [bin_geq]
  exact hR _ _ ⟨by rw [hn], x1⟩
theorem entEqual_ret {x y : Value} {l m : List SEntry} (w : World) (hx : SEntry.Row w x l) (hy : SEntry.Row w y m) : Ret Tryz.prog 48 #[x, y] w fun r w' => r = .bool (decide (l = m)) ∧ Ext w w' := by
  refine ret_of (fun _ _ => sh_slices_Equal___api_Entry_api_Entry__ok _ _) fun R hR => ?_
  unfold sh_slices_Equal___api_Entry_api_Entry_
  have hle := hx.le
  rw [SEntry.row_len hx, SEntry.row_len hy, bin_neq]
  refine Br_i (fun hb => ?_) fun hb => ?_
  · have : ¬ (l.length : Int) = m.length := by simpa using hb
    exact hR _ _ ⟨by rw [decide_eq_false (fun e => this (by rw [e]))], Ext.refl _⟩
  · have hlm : (l.length : Int) = m.length := by simpa using hb
    rw [SEntry.row_len hx]
    refine loop1 (fun x W => ∃ k : Nat, k ≤ l.length ∧ x = .int .i64 k ∧ Ext w W ∧ l.take k = m.take k) (fun x _ => l.length - (intOf x).toNat) ⟨0, by omega, rfl, Ext.refl _, by simp⟩ ?_
    rintro h _ W hz ⟨k, hk, rfl, xW, heq⟩ K hK
    rw [hz, bin_lss]
    refine Br_i (fun hb => ?_) fun hb => ?_
    · have hlt : k < l.length := by have := dec_t hb; omega
      have hlt2 : k < m.length := by omega
      obtain ⟨b, o, hhas, _, hix⟩ := SEntry.row_at hx hlt
      obtain ⟨b2, o2, hhas2, _, hix2⟩ := SEntry.row_at hy hlt2
      refine draw_ext fun w2 x2 => ?_
      refine det_read _ (fun w3 x3 K => hix w3 K _) ?_
      refine det_read _ (fun w3 x3 K => SEntry.g_all (hhas w3 (xW.trans (x2.trans x3)))) ?_
      refine det_read _ (fun w3 x3 K => hix2 w3 K _) ?_
      refine det_read _ (fun w3 x3 K => SEntry.g_all (hhas2 w3 (xW.trans (x2.trans x3)))) ?_
      intro w3 x3 _
      have xx := xW.trans (x2.trans x3)
      rw [SEntry.neq]
      refine Br_i (fun hb2 => ?_) fun hb2 => ?_
      · have hne : ¬ l[k] = m[k] := by simpa using hb2
        refine hR _ _ ⟨?_, xx⟩
        rw [decide_eq_false]
        rintro rfl
        exact hne rfl
      · have he : l[k] = m[k] := by simpa using hb2
        rw [bin_add, i64_wrap (by omega) (by omega)]
        refine hK _ _ ⟨k + 1, by omega, by simp, xx, ?_⟩ (by simp [intOf]; omega)
        rw [List.take_succ_eq_append_getElem hlt, List.take_succ_eq_append_getElem hlt2, heq, he]
    · have hge : l.length ≤ k := by have := dec_f hb; omega
      rw [List.take_of_length_le hge, List.take_of_length_le (by omega)] at heq
      exact hR _ _ ⟨by rw [heq, decide_eq_true rfl], xW⟩
end Go.Proofs.YtoeblipchoglaaaGreatDoor
