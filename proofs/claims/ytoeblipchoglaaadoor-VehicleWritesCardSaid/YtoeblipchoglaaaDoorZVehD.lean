/- The law of writing: VehicleWrites. -/
import Derived.Test.YtoeblipchoglaaaDoorZVehM
set_option linter.unusedVariables false
set_option linter.unusedSimpArgs false
namespace Go.Proofs.YtoeblipchoglaaaDoor
set_option maxRecDepth 100000
set_option maxHeartbeats 8000000
open Sh Go.RowKit
theorem entry_eq_at {es : List SEntry} {e : SEntry} : (es ++ [e])[es.length]? = some e := by simp
theorem VehicleWrites_ret {s : SVeh} {v : Veh.V} {e : SEntry} (hok : VehOk v) (he : e.Ok) (w : World) (hv : VehIs w s v) (ht : Tab w) : Ret Tryd.prog 3 #[.agg s.cells.toArray, .agg e.cells.toArray] w (TrueQ w) := by
  refine ret_of (fun _ _ => sh_landfalllaw41_VehicleWrites_ok _ _) fun R hR => ?_
  unfold sh_landfalllaw41_VehicleWrites
  refine box_i fun b2 w1 x1 hat2 _ _ => ?_
  refine box_i fun b3 w2 x2 hat3 _ _ => ?_
  refine callF_ret (head41_ret w2 (ht.ext (x1.trans x2))) ?_
  rintro _ w3 ⟨rfl, x3⟩
  have x03 := (x1.trans x2).trans x3
  have h2 := (At.ext (At.ext hat2 x2) x3)
  have h3 := (At.ext hat3 x3)
  rw [SVeh.g_all (has_of_at h2)]
  refine callF_ret (vfew_ret w3 (hv.ext x03)) ?_
  rintro _ w4 ⟨⟨b, rfl, hbf⟩, x4⟩
  rw [un_not]
  have x04 := x03.trans x4
  refine Br_i (fun _ => hR _ _ ⟨rfl, x04⟩) fun hb => ?_
  have hfew : v.b.length ≤ 3000 := hbf (by simpa using hb)
  rw [SVeh.g_all (has_of_at (h2.ext x4)), SEntry.g_all (has_of_at (h3.ext x4))]
  have hv4 := hv.ext x04
  refine callF_ret (vwrite_ret hok he w4 hv4 (ht.ext x04)) ?_
  rintro _ w5 hq
  obtain ⟨g, rfl, x5, hg⟩ := hq.is hv4
  rw [ext2_0, ext2_1]
  refine SVeh.var fun b6 w6 x6 hat6 _ => ?_
  have x46 := x5.trans x6
  have x06 := x04.trans x46
  have h26 := (h2.ext x4).ext x46
  have h36 := (h3.ext x4).ext x46
  have hg6 := hg.ext x6
  have hv6 := hv.ext x06
  rw [bin_neq]
  refine Br_i (fun hb => ?_) fun hb => ?_
  · have hne : (Veh.writeV v e).2 ≠ 0 := by simpa using hb
    have hz := Veh.write_zero hne
    rw [hz] at hg6
    have e1 : (Veh.zero.log.ents.length : Int) = 0 := rfl
    have e2 : ((Veh.zero.b.length : Nat) : Int) = 0 := rfl
    refine gd_t ?_
    rw [SVeh.g_log_ents (has_of_at hat6), SEntry.row_len hg6.2.2.1.2.2, e1, bin_eql, decide_eq_true rfl]
    refine gd_t ?_
    rw [SVeh.g_byts (has_of_at hat6), hg6.2.2.2.1.len Ty.bytes, e2, bin_eql, decide_eq_true rfl]
    exact hR _ _ ⟨rfl, x06⟩
  · have h0 : (Veh.writeV v e).2 = 0 := by simpa using hb
    obtain ⟨_, _, q1, q2, _⟩ := Veh.write_ok he h0
    have hX : (Veh.writeV v e).1.log.ents = v.log.ents ++ [e] := by rw [q1]
    have hXb : (Veh.writeV v e).1.b = v.b ++ Jou.frameOf (ent e) := by rw [q1]
    have hXs : (Veh.writeV v e).1.sure = v.sure := by rw [q1]
    have hlen : (Veh.writeV v e).1.log.ents.length = v.log.ents.length + 1 := by rw [hX]; simp
    have hfl : 0 < (Jou.frameOf (ent e)).length := frame_pos _
    have hle : v.log.ents.length + 1 ≤ 9223372036854775807 := by have := hg6.2.2.1.2.2.le; rw [hlen] at this; omega
    rw [SVeh.g_log_ents (has_of_at h26), SEntry.row_len hv6.2.2.1.2.2]
    refine join0 (fun W => Ext w6 W) ?_ fun K hK => ?_
    · rintro _ W xW
      refine draw_ext fun w7 x7 => ?_
      have x67 := xW.trans x7
      have x07 := x06.trans x67
      have hg2 : ∀ W', Ext w7 W' → Has W' b2 0 s.cells := fun W' x => has_of_at ((h26.ext x67).ext x)
      have hg3 : ∀ W', Ext w7 W' → Has W' b3 0 e.cells := fun W' x => has_of_at ((h36.ext x67).ext x)
      have hgx : ∀ W', Ext w7 W' → Has W' b6 0 g.cells := fun W' x => has_of_at ((hat6.ext x67).ext x)
      have hv7 := hv.ext x07
      have vx7 := hg6.ext x67
      have hrow := vx7.2.2.1.2.2
      refine gd_t ?_
      refine det_read _ (fun W' x K => Ty.SVeh_f2) ?_
      refine det_read _ (fun W' x K => Ty.SLog_f2) ?_
      refine det_read g.log.ents.val (fun W' x K => load_cell Ty.ents_agg (has_at (hgx W' x) (d := 4) rfl rfl)) ?_
      have hlt : v.log.ents.length < (Veh.writeV v e).1.log.ents.length := by omega
      obtain ⟨bb, oo, hhas, _, hix⟩ := SEntry.row_at hrow hlt
      have hel : (Veh.writeV v e).1.log.ents[v.log.ents.length] = e := by
        have := entry_eq_at (es := v.log.ents) (e := e)
        rw [← hX, List.getElem?_eq_getElem hlt] at this
        exact Option.some.inj this
      rw [hel] at hhas
      refine det_read _ (fun W' x K => hix W' K _) ?_
      refine det_read _ (fun W' x K => SEntry.g_all (hhas W' x)) ?_
      refine det_read _ (fun W' x K => SEntry.g_all (hg3 W' x)) ?_
      refine det_read (.bool true) (fun W' x K => by rw [SEntry.eql, decide_eq_true rfl]) ?_
      refine gd_t ?_
      refine det_read _ (fun W' x K => Ty.SVeh_f2) ?_
      refine det_read _ (fun W' x K => Ty.SLog_f2) ?_
      refine det_read g.log.ents.val (fun W' x K => load_cell Ty.ents_agg (has_at (hgx W' x) (d := 4) rfl rfl)) ?_
      obtain ⟨vt, hvt, hsl⟩ := ents_upto hrow (Nat.le_of_lt hlt)
      refine det_read vt (fun W' x K => hsl W' K _) ?_
      refine det_read _ (fun W' x K => Ty.SVeh_f2) ?_
      refine det_read _ (fun W' x K => Ty.SLog_f2) ?_
      refine det_read s.log.ents.val (fun W' x K => load_cell Ty.ents_agg (has_at (hg2 W' x) (d := 4) rfl rfl)) ?_
      have htk : (Veh.writeV v e).1.log.ents.take v.log.ents.length = v.log.ents := by rw [hX]; simp
      refine det_ret (.bool true) (fun W' x => (SameEntries_ret W' (Sl.ext hvt x) (Sl.ext hv7.2.2.1.2.2 x)).mono fun r w' h => ⟨by rw [h.1, decide_eq_true htk], h.2⟩) ?_
      refine gd_t ?_
      refine det_read _ (fun W' x K => Ty.SVeh_f4) ?_
      refine det_read (.int .i64 v.sure) (fun W' x K => load_cell Ty.int_agg (has_at (hgx W' x) (d := 6) rfl (by rw [← hXs, ← vx7.2.2.2.2.1]; rfl))) ?_
      refine det_read _ (fun W' x K => Ty.SVeh_f4) ?_
      refine det_read (.int .i64 v.sure) (fun W' x K => load_cell Ty.int_agg (has_at (hg2 W' x) (d := 6) rfl (by rw [← hv7.2.2.2.2.1]; rfl))) ?_
      refine det_read (.bool true) (fun W' x K => by rw [bin_eql, decide_eq_true rfl]) ?_
      refine gd_t ?_
      refine det_read _ (fun W' x K => Ty.SVeh_f3) ?_
      refine det_read g.byts.val (fun W' x K => load_cell Ty.bytes_agg (has_at (hgx W' x) (d := 5) rfl rfl)) ?_
      refine det_read _ (fun W' x K => (Sl.ext vx7.2.2.2.1 x).len Ty.bytes) ?_
      refine det_read _ (fun W' x K => Ty.SVeh_f3) ?_
      refine det_read s.byts.val (fun W' x K => load_cell Ty.bytes_agg (has_at (hg2 W' x) (d := 5) rfl rfl)) ?_
      refine det_read _ (fun W' x K => (Sl.ext hv7.2.2.2.1 x).len Ty.bytes) ?_
      intro w8 x8 _
      rw [bin_gtr, decide_eq_true (by rw [hXb, List.length_append]; omega)]
      exact hR _ _ ⟨rfl, x07.trans x8⟩
    · refine join_in fun K2 hK2 => ?_
      rw [SVeh.g_log_ents (has_of_at hat6), SEntry.row_len hg6.2.2.1.2.2, bin_add, i64_wrap (by omega) (by omega), hlen, bin_neq, decide_eq_true (by omega)]
      refine gd_f ?_
      rw [SVeh.g_all (has_of_at hat6)]
      refine callF_ret (vehValid_ret (VehOk.write hok he) w6 hg6 (ht.ext x06)) ?_
      rintro _ w7 ⟨rfl, x7⟩
      rw [un_not, Veh.valid_iff.2 q2]
      refine leaf1 hK2 fun h hh => ?_
      rw [hh]
      exact br_f (hK _ x7)
end Go.Proofs.YtoeblipchoglaaaDoor
