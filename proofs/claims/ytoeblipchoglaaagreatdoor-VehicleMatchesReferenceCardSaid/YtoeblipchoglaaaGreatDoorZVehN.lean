/- The laws of vehicles: States, Marks, MatchesReference: their walks. -/
import Derived.Test.YtoeblipchoglaaaGreatDoorZVehM
import Derived.Test.YtoeblipchoglaaaGreatDoorZStrVR
namespace Go.Proofs.YtoeblipchoglaaaGreatDoor
set_option maxRecDepth 100000
set_option maxHeartbeats 8000000
open Sh Go.RowKit
namespace Veh
theorem jput_err {b : List UInt8} {r : SRecord} : (jputV b r).2 = 0 ∨ (jputV b r).2 = 1 ∨ (jputV b r).2 = 2 := by
  unfold jputV
  split
  · exact .inr (.inl rfl)
  · split
    · exact .inr (.inr rfl)
    · exact .inl rfl
theorem write_state {v : V} {e : SEntry} (h : Valid v) (hf : Rep.formed e = true) : decide ((writeV v e).2 = 6) = !v.up := by
  unfold writeV
  rw [if_neg (by rw [valid_iff.2 h, hf]; simp)]
  cases hu : v.up with
  | false => rw [if_pos rfl]; rfl
  | true =>
    rw [if_neg (by decide)]
    split
    · rfl
    · rw [put_snd]
      rcases jput_err (b := v.b) (r := ent e) with h | h | h <;> rw [h] <;> rfl
theorem mark_state {v : V} (h : Valid v) : decide ((markV v).2 = 6) = !v.up := by
  unfold markV
  rw [if_neg (by rw [valid_iff.2 h]; simp)]
  cases hu : v.up with
  | false => rw [if_pos rfl]; rfl
  | true =>
    rw [if_neg (by decide), put_snd]
    rcases jput_err (b := v.b) (r := chk v.log.ents.length (Rep.carry (Rep.begin v.id) v.log.ents)) with h | h | h <;> rw [h] <;> rfl
theorem crash_state {v : V} {n : Int} (h : Valid v) : decide ((crashV v n).2 = 6) = !v.up := by
  unfold crashV
  rw [if_neg (by rw [valid_iff.2 h]; simp)]
  cases hu : v.up with
  | false => rw [if_pos rfl]; rfl
  | true =>
    rw [if_neg (by decide)]
    split <;> rfl
theorem wake_state {v : V} (h : Valid v) : decide ((wakeV v).2 = 6) = v.up := by
  unfold wakeV
  rw [if_neg (by rw [valid_iff.2 h]; simp)]
  cases hu : v.up with
  | true => rw [if_pos rfl]; rfl
  | false => rw [if_neg (by decide)]; rfl
def Keeps (v x : V) : Prop := x.id = v.id ∧ x.ver = v.ver ∧ x.used = v.used ∧ x.mode = v.mode
theorem put_keeps {v : V} {r : SRecord} {f : V → List UInt8 → V} (hf : ∀ b, Keeps v (f v b)) (h : (putV v r f).2 = 0) : Keeps v (putV v r f).1 := by rw [(putV_ok h).2.2]; exact hf _
theorem write_keeps {v : V} {e : SEntry} (h : (writeV v e).2 = 0) : Keeps v (writeV v e).1 := by
  unfold writeV at h ⊢
  split at h
  · cases h
  · rename_i h0
    rw [if_neg h0]
    split at h
    · cases h
    · rename_i h1
      rw [if_neg h1]
      split at h
      · cases h
      · rename_i h2
        rw [if_neg h2]
        exact put_keeps (fun b => ⟨rfl, rfl, rfl, rfl⟩) h
theorem mark_keeps {v : V} (h : (markV v).2 = 0) : Keeps v (markV v).1 := by
  unfold markV at h ⊢
  split at h
  · cases h
  · rename_i h0
    rw [if_neg h0]
    split at h
    · cases h
    · rename_i h1
      rw [if_neg h1]
      exact put_keeps (fun b => ⟨rfl, rfl, rfl, rfl⟩) h
theorem crash_keeps {v : V} {n : Int} (h : (crashV v n).2 = 0) : Keeps v (crashV v n).1 := by
  unfold crashV at h ⊢
  split at h
  · cases h
  · rename_i h0
    rw [if_neg h0]
    split at h
    · cases h
    · rename_i h1
      rw [if_neg h1]
      split at h
      · cases h
      · rename_i h2
        rw [if_neg h2]
        exact ⟨rfl, rfl, rfl, rfl⟩
theorem wake_keeps {v : V} (h : (wakeV v).2 = 0) : Keeps v (wakeV v).1 := by
  unfold wakeV at h ⊢
  split at h
  · cases h
  · rename_i h0
    rw [if_neg h0]
    split at h
    · cases h
    · rename_i h1
      rw [if_neg h1]
      exact ⟨rfl, rfl, rfl, rfl⟩
end Veh
theorem bool_neq41 {P : Program} {w : World} {K : Value → World → Prop} {X : List PanicEntry → World → Prop} {t : TypeId} (ht : P.underlying t = some .bool) {ox oy : Operand} {a b : Bool} : DoV P (binS .neq t ox oy (.bool a) (.bool b)) w K X = K (.bool (a != b)) w :=
  DoV_ok (by cases a <;> cases b <;> simp [binS, eqGuard, run_neq_bool w t _ _ ht])
theorem Ty.errnos : Tryz.prog.underlying 45 = some (.slice 32) := by kernel_rfl
theorem Ty.errno_info : (Tryz.prog.info? 32).map (fun i => (i.zero, i.size, i.bytes)) = some (some (.int .i64 0), 1, 8) := by kernel_rfl
theorem keeps_g {s g : SVeh} {v x : Veh.V} {w w' : World} (hs : VehIs w s v) (hg : VehIs w' g x) (h : Veh.Keeps v x) : g.id = s.id ∧ g.ver = s.ver ∧ g.used = s.used ∧ g.mode = s.mode :=
  ⟨by rw [hg.1, hs.1, h.1], by rw [hg.2.1, hs.2.1, h.2.1], by rw [hg.2.2.2.2.2.2.1, hs.2.2.2.2.2.2.1, h.2.2.1], by rw [hg.2.2.2.2.2.2.2, hs.2.2.2.2.2.2.2, h.2.2.2]⟩
theorem VehicleStates_ret {s : SVeh} {v : Veh.V} {e : SEntry} {n : Int} (hok : VehOk v) (he : e.Ok) (w : World) (hv : VehIs w s v) (ht : Tab w) : Ret Tryz.prog 4 #[.agg s.cells.toArray, .agg e.cells.toArray, .int .i64 n] w (TrueQ w) := by
  refine ret_of (fun _ _ => sh_landfalllaw41_VehicleStates_ok _ _ _) fun R hR => ?_
  unfold sh_landfalllaw41_VehicleStates
  refine box_i fun b3 w1 x1 hat3 _ _ => ?_
  refine box_i fun b4 w2 x2 hat4 _ _ => ?_
  refine callF_ret (head41_ret w2 (ht.ext (x1.trans x2))) ?_
  rintro _ w3 ⟨rfl, x3⟩
  have x03 := (x1.trans x2).trans x3
  have h3 := (At.ext (At.ext hat3 x2) x3)
  have h4 := (At.ext hat4 x3)
  refine join0 (fun W => Ext w3 W ∧ Veh.Valid v ∧ Rep.formed e = true) ?_ fun K hK => ?_
  · rintro _ W ⟨xW, hV, hf⟩
    have x0W := x03.trans xW
    have hvW := hv.ext x0W
    rw [SVeh.g_all (has_of_at (h3.ext xW)), SEntry.g_all (has_of_at (h4.ext xW))]
    refine callF_ret (vwrite_ret hok he W hvW (ht.ext x0W)) ?_
    rintro _ w4 hq
    obtain ⟨ga, rfl, x4, hga⟩ := hq.is hvW
    rw [ext2_0, ext2_1]
    refine SVeh.var fun b8 w5 x5 hat8 _ => ?_
    have xa := x4.trans x5
    have hv5 := hvW.ext xa
    rw [SVeh.g_all (has_of_at ((h3.ext xW).ext xa))]
    refine callF_ret (vmark_ret hok w5 hv5 (ht.ext (x0W.trans xa))) ?_
    rintro _ w6 hq
    obtain ⟨gb, rfl, x6, hgb⟩ := hq.is hv5
    rw [ext2_0, ext2_1]
    refine SVeh.var fun b10 w7 x7 hat10 _ => ?_
    have xb := (x6.trans x7)
    have xab := xa.trans xb
    have hv7 := hvW.ext xab
    rw [SVeh.g_all (has_of_at ((h3.ext xW).ext xab))]
    refine callF_ret (vcrash_ret (n := n) hok w7 hv7 (ht.ext (x0W.trans xab))) ?_
    rintro _ w8 hq
    obtain ⟨gc, rfl, x8, hgc⟩ := hq.is hv7
    rw [ext2_0, ext2_1]
    refine SVeh.var fun b12 w9 x9 hat12 _ => ?_
    have xc := (x8.trans x9)
    have xac := xab.trans xc
    have hv9 := hvW.ext xac
    rw [SVeh.g_all (has_of_at ((h3.ext xW).ext xac))]
    refine callF_ret (vwake_ret hok w9 hv9 (ht.ext (x0W.trans xac))) ?_
    rintro _ w10 hq
    obtain ⟨gd, rfl, x10, hgd⟩ := hq.is hv9
    rw [ext2_0, ext2_1]
    refine SVeh.var fun b14 w11 x11 hat14 _ => ?_
    have xd := (x10.trans x11)
    have xad := xac.trans xd
    have h311 := (h3.ext xW).ext xad
    have eu : s.up = v.up := hv.2.2.2.2.2.1
    have x011 := x0W.trans xad
    refine join0 (fun W => W = w11) ?_ fun K2 hK2 => ?_
    · rintro _ W' hW'
      subst W'
      have k8 := has_of_at (hat8.ext ((xb.trans xc).trans xd))
      have k10 := has_of_at (hat10.ext (xc.trans xd))
      have k12 := has_of_at (hat12.ext xd)
      rw [SVeh.g_all k8, SVeh.g_all k10, SVeh.g_all k12, SVeh.g_all (has_of_at hat14)]
      refine SVeh.row_lit [ga, gb, gc, gd] rfl (by decide) (by decide) rfl fun vr w12 x12 hrow _ => ?_
      have hrow := Sl.of_owns hrow
      rw [SVeh.row_len hrow]
      have kp : ∀ k (h : k < 4), ([(Veh.writeV v e).2, (Veh.markV v).2, (Veh.crashV v n).2, (Veh.wakeV v).2] : List Int)[k] = 0 → ∀ g, ([ga, gb, gc, gd] : List SVeh)[k] = g → g.id = s.id ∧ g.ver = s.ver ∧ g.used = s.used ∧ g.mode = s.mode := fun k h h0 g hg => by
        match k, h with
        | 0, _ => cases hg; exact keeps_g hv hga (Veh.write_keeps h0)
        | 1, _ => cases hg; exact keeps_g hv hgb (Veh.mark_keeps h0)
        | 2, _ => cases hg; exact keeps_g hv hgc (Veh.crash_keeps h0)
        | 3, _ => cases hg; exact keeps_g hv hgd (Veh.wake_keeps h0)
      refine loop2 (fun x y W => x = .bool true ∧ ∃ k : Nat, k ≤ 4 ∧ y = .int .i64 k ∧ Ext w12 W) (fun _ y _ => 4 - (intOf y).toNat) ⟨rfl, 0, by omega, rfl, Ext.refl _⟩ ?_
      rintro h _ _ W3 hx hy ⟨rfl, k, hk, rfl, xk⟩ K3 hK3
      rw [hx, hy, bin_lss]
      refine Br_i (fun hb => ?_) fun hb => hR _ _ ⟨rfl, (x011.trans x12).trans xk⟩
      have hlt : k < 4 := by have := dec_t hb; simp at this; omega
      refine join1 (fun x W => x = .bool true ∧ Ext w12 W) ?_ fun K4 hK4 => ?_
      · rintro h4 x W4 hx4 ⟨rfl, x4'⟩
        rw [hx4, bin_add, i64_wrap (by omega) (by omega)]
        exact hK3 _ _ _ ⟨rfl, k + 1, by omega, by simp, x4'⟩ (by simp [intOf]; omega)
      obtain ⟨bb, oo, hhas, _, hix⟩ := SVeh.row_at hrow (show k < ([ga, gb, gc, gd] : List SVeh).length from hlt)
      rw [hix, SVeh.g_all (hhas W3 xk)]
      refine SVeh.var fun b17 w13 x13 hat17 _ => ?_
      obtain ⟨ie, hie, hze, hse, _⟩ := Ty.info_parts Ty.errno_info
      refine litn_i ((([(Veh.writeV v e).2, (Veh.markV v).2, (Veh.crashV v n).2, (Veh.wakeV v).2] : List Int)).map fun z => Value.int .i64 z) Ty.errnos hie hse hze (fun u hu => by simp only [List.map_cons, List.map_nil, List.mem_cons, List.not_mem_nil, or_false] at hu; rcases hu with rfl | rfl | rfl | rfl <;> rfl) rfl (by decide) (by decide) rfl fun ve w14 x14 herr _ => ?_
      obtain ⟨b9, o9, hcell, hb9, hix9⟩ := (Sl.of_owns herr).index Ty.errnos hie hse (k := .i64) (j := k) hlt (by decide)
      rw [hix9]
      have hget : ((([(Veh.writeV v e).2, (Veh.markV v).2, (Veh.crashV v n).2, (Veh.wakeV v).2] : List Int)).map fun z => Value.int .i64 z)[k]? = some (.int .i64 (([(Veh.writeV v e).2, (Veh.markV v).2, (Veh.crashV v n).2, (Veh.wakeV v).2] : List Int)[k])) := by
        rw [List.getElem?_map, List.getElem?_eq_getElem (show k < ([(Veh.writeV v e).2, (Veh.markV v).2, (Veh.crashV v n).2, (Veh.wakeV v).2] : List Int).length from hlt)]; rfl
      rw [load_cell Ty.errno_agg (u := .int .i64 (([(Veh.writeV v e).2, (Veh.markV v).2, (Veh.crashV v n).2, (Veh.wakeV v).2] : List Int)[k])) (by rw [Nat.mul_one]; exact hcell _ _ hget), bin_eql]
      have xk4 := (xk.trans x13).trans x14
      refine Br_i (fun hb2 => ?_) fun hb2 => hK4 _ _ ⟨rfl, xk4⟩
      obtain ⟨p1, p2, p3, p4⟩ := kp k hlt (dec_t hb2) _ rfl
      have g17 := has_of_at (hat17.ext x14)
      have g3 := has_of_at (((h311.ext x12).ext xk).ext (x13.trans x14))
      refine gd_t ?_
      rw [SVeh.g_id g17, SVeh.g_id g3, bin_eql, decide_eq_true p1]
      refine gd_t ?_
      rw [SVeh.g_ver g17, SVeh.g_ver g3, bin_eql, decide_eq_true p2]
      refine gd_t ?_
      rw [SVeh.g_used g17, SVeh.g_used g3, bin_eql, decide_eq_true p3]
      refine gd_t ?_
      rw [SVeh.g_mode g17, SVeh.g_mode g3, bin_eql, decide_eq_true p4]
      exact hK4 _ _ ⟨rfl, xk4⟩
    · refine join_in fun K3 hK3 => ?_
      have g3 := has_of_at h311
      have bx : ∀ b : Bool, ((!b) == b) = false := by decide
      rw [bin_eql, SVeh.g_up g3, eu, bool_eql Ty.bool, Veh.write_state hV hf, bx]
      refine gd_f ?_
      rw [bin_eql, SVeh.g_up g3, eu, bool_eql Ty.bool, Veh.mark_state hV, bx]
      refine gd_f ?_
      rw [bin_eql, SVeh.g_up g3, eu, bool_eql Ty.bool, Veh.crash_state hV, bx]
      refine gd_f ?_
      rw [bin_eql, SVeh.g_up g3, eu, bool_neq41 Ty.bool, Veh.wake_state hV, bne_self_eq_false]
      refine leaf1 hK3 fun h hh => ?_
      rw [hh]
      exact br_f (hK2 _ rfl)
  · refine join_in fun K2 hK2 => ?_
    rw [SVeh.g_all (has_of_at h3)]
    refine callF_ret (vfew_ret w3 (hv.ext x03)) ?_
    rintro _ w4 ⟨⟨b, rfl, _⟩, x4⟩
    rw [un_not]
    refine Gd_i (fun _ => ?_) fun _ => leaf1 hK2 fun h hh => by rw [hh]; exact br_t (hR _ _ ⟨rfl, x03.trans x4⟩)
    rw [SVeh.g_all (has_of_at (h3.ext x4))]
    refine callF_ret (rvalid_ret hok w4 (hv.ext (x03.trans x4))) ?_
    rintro _ w5 ⟨rfl, x5⟩
    have x35 := x4.trans x5
    rw [un_not]
    refine Gd_i (fun hb => ?_) fun _ => leaf1 hK2 fun h hh => by rw [hh]; exact br_t (hR _ _ ⟨rfl, x03.trans x35⟩)
    rw [SEntry.g_all (has_of_at (h4.ext x35))]
    refine callF_ret (Form_ret e w5) ?_
    rintro _ w6 ⟨rfl, x6⟩
    rw [un_not]
    refine leaf1 hK2 fun h hh => ?_
    rw [hh]
    exact Br_i (fun _ => hR _ _ ⟨rfl, x03.trans (x35.trans x6)⟩) fun hb2 => hK _ ⟨x35.trans x6, Veh.valid_iff.1 (by simpa using hb), by simpa using hb2⟩
theorem VehicleMarks_ret {s : SVeh} {v : Veh.V} {ul : Value} {l : List SEntry} {cut : Int} (hok : VehOk v) (hl : ∀ e ∈ l, e.Ok) (hc : 0 ≤ cut ∧ cut < 65536) (w : World) (hv : VehIs w s v) (hrow : SEntry.Row w ul l) (ht : Tab w) :
    Ret Tryz.prog 3 #[.agg s.cells.toArray, ul, .int .u16 cut] w (TrueQ w) := by
  refine ret_of (fun _ _ => sh_landfalllaw41_VehicleMarks_ok _ _ _) fun R hR => ?_
  unfold sh_landfalllaw41_VehicleMarks
  refine box_i fun b3 w1 x1 hat3 hb3 _ => ?_
  refine callF_ret (head41_ret w1 (ht.ext x1)) ?_
  rintro _ w2 ⟨rfl, x2⟩
  have x02 := x1.trans x2
  have h3 := At.ext hat3 x2
  refine join0 (fun W => Ext w2 W ∧ v.b.length ≤ 3000 ∧ l.length ≤ 6) ?_ fun K hK => ?_
  · rintro _ W ⟨xW, _, hl6⟩
    have x0W := x02.trans xW
    have hvW := hv.ext x0W
    rw [SVeh.g_all (has_of_at (h3.ext xW))]
    refine callF_ret (vmark_ret hok W hvW (ht.ext x0W)) ?_
    rintro _ w3 hq
    obtain ⟨gx, rfl, x3, hgx⟩ := hq.is hvW
    rw [ext2_0, ext2_1]
    refine SVeh.var fun b8 w4 x4 hat8 hb8 => ?_
    have xW4 := x3.trans x4
    have x04 := x0W.trans xW4
    refine join0 (fun W' => Ext w4 W' ∧ (Veh.markV v).2 = 0) ?_ fun K2 hK2 => ?_
    · rintro _ w5 ⟨x5, hm0⟩
      have hmk := Veh.mark_ok hm0
      obtain ⟨rs, hkept⟩ := Veh.Kept.mark hm0
      have hments : (Veh.markV v).1.log.ents = v.log.ents := by
        obtain ⟨_, _, r, e1, _⟩ := hmk
        rw [e1]
      have hat85 := hat8.ext x5
      have x45 := x4.trans x5
      have x05 := x04.trans x5
      have hgx5 := hgx.ext x45
      have hrow5 := Sl.ext hrow x05
      have lx : Live (fun k => k = b8) w5 gx (Veh.markV v).1 := Live.of_ext hgx x45 fun k h => by have h : k = b8 := h; omega
      rw [SVeh.g_log_ents (has_of_at hat85), SEntry.row_len hgx5.2.2.1.2.2, SEntry.row_len hrow5, hments]
      have hbw : w.heap.size ≤ b8 := by have := x0W.size; have := x3.size; omega
      refine loop1 (fun x W' => ∃ k : Nat, k ≤ l.length ∧ x = .int .i64 k ∧ Ext w W' ∧ Mod (fun j => j = b8 ∨ w5.heap.size ≤ j) w5 W' ∧ ∃ (g : SVeh) (xv : Veh.V), At W' b8 (.cells g.cells.toArray 28 (0, 0)) ∧ Live (fun k => k = b8) W' g xv ∧ VehOk xv ∧ Veh.Kept rs v.log.ents xv) (fun x _ => l.length - (intOf x).toNat)
        ⟨0, by omega, rfl, x05, Mod.refl _ _, gx, (Veh.markV v).1, hat85, lx, hok.mark, hkept⟩ ?_
      rintro h _ w6 hx ⟨k, hk, rfl, x06, m6, g, xv, hat86, lg, hokx, hkx⟩ K3 hK3
      have h36 : At w6 b3 (.cells s.cells.toArray 28 (0, 0)) := ((h3.ext xW).ext (xW4.trans x5)).mod m6 fun hh => by
        have := (h3.ext xW).lt
        have := (xW4.trans x5).size
        have := x3.size
        rcases hh with e | e <;> omega
      rw [hx, bin_lss]
      refine Br_i (fun hb => ?_) fun hb => ?_
      · have hlt : k < l.length := by have := dec_t hb; omega
        have hek := hl l[k] (List.getElem_mem hlt)
        refine join0 (fun W' => Ext w W' ∧ Mod (fun j => j = b8 ∨ w5.heap.size ≤ j) w5 W' ∧ ∃ (g : SVeh) (xv : Veh.V), At W' b8 (.cells g.cells.toArray 28 (0, 0)) ∧ Live (fun k => k = b8) W' g xv ∧ VehOk xv ∧ Veh.Kept rs v.log.ents xv) ?_ fun K4 hK4 => ?_
        · rintro _ W7 ⟨x7, m7, hh7⟩
          rw [bin_add, i64_wrap (by omega) (by omega)]
          exact hK3 _ _ ⟨k + 1, by omega, by simp, x7, m7, hh7⟩ (by simp [intOf]; omega)
        obtain ⟨bb, oo, hhas, _, hix⟩ := SEntry.row_at hrow hlt
        rw [hix, SEntry.g_all (hhas w6 x06)]
        refine SEntry.var fun b12 w7 x7 hat12 hb12 => ?_
        have x07 := x06.trans x7
        rw [SVeh.g_all (has_of_at (hat86.ext x7)), SEntry.g_all (has_of_at hat12)]
        have lg7 := lg.ext x7
        refine callF_ret (vwrite_ret hokx hek w7 lg7.is (ht.ext x07)) ?_
        rintro _ w8 ⟨gy, rfl, x8, hfy⟩
        rw [ext2_0, ext2_1]
        have x68 := x7.trans x8
        have ly : Live (fun k => k = b8) w8 gy (Veh.writeV xv l[k]).1 := Live.of_frame lg7 x8 (fun k h => by have h : k = b8 := h; have := (hat86.ext x7).lt; omega) hfy
        refine SVeh.var fun b13 w9 x9 hat13 hb13 => ?_
        have x69 := x68.trans x9
        have x09 := x06.trans x69
        have m69 : Mod (fun j => j = b8 ∨ w5.heap.size ≤ j) w5 w9 := m6.trans (.of_ext x69)
        rw [bin_eql]
        refine Br_i (fun hb2 => ?_) fun hb2 => hK4 _ ⟨x09, m69, g, xv, hat86.ext x69, lg.ext x69, hokx, hkx⟩
        have hw0 : (Veh.writeV xv l[k]).2 = 0 := dec_t hb2
        rw [SVeh.g_all (has_of_at hat13)]
        refine SVeh.set (hat86.ext x69) fun w10 m10 hat10 _ => ?_
        exact hK4 _ ⟨ext_step x09 m10 hbw, m69.trans (m10.mono fun _ _ => .inl), gy, _, hat10, (ly.ext x9).mod m10, hokx.write hek, hkx.write hek hw0⟩
      · have hV := hkx.ok
        have vx := lg.is
        have hg6 := has_of_at hat86
        obtain ⟨hs0, hs1⟩ := Veh.ends_le hV.2.2.2
        have hup := Veh.up_of hV hkx.up
        have hs2 : xv.sure ≤ (xv.b.length : Int) := by rw [hup.1]; exact hs1
        have hbl := hup.2.2.2.2.1
        have es : g.sure = xv.sure := vx.2.2.2.2.1
        obtain ⟨sn, hsn⟩ : ∃ sn : Nat, xv.sure = sn := ⟨xv.sure.toNat, by omega⟩
        refine join0 (fun W' => W' = w6) ?_ fun K4 hK4 => ?_
        · rintro _ W' hW'
          subst W'
          obtain ⟨d, hd⟩ : ∃ d : Nat, d = xv.b.length - sn + 1 := ⟨_, rfl⟩
          obtain ⟨at_, hat_⟩ : ∃ a : Nat, a = sn + cut.toNat % d := ⟨_, rfl⟩
          have hmod := Nat.mod_lt cut.toNat (show 0 < d by omega)
          have ha1 : xv.sure ≤ at_ := by omega
          have ha2 : at_ ≤ xv.b.length := by omega
          obtain ⟨q1, q2, q3, q4⟩ := hkx.crash ha1 ha2
          refine drawRX fun w7 x7 _ => ?_
          have hg7 : ∀ W', Ext w7 W' → Has W' b8 0 g.cells := fun W' x => has_of_at ((hat86.ext x7).ext x)
          have v7 : ∀ W', Ext w7 W' → VehIs W' g xv := fun W' x => vx.ext (x7.trans x)
          refine det_rx _ (fun W' x K => SVeh.g_all (hg7 W' x)) ?_
          refine det_rx _ (fun W' x K => Ty.SVeh_f4) ?_
          refine det_rx (.int .i64 sn) (fun W' x K => load_cell Ty.int_agg (has_at (hg7 W' x) (d := 6) rfl (by rw [← hsn, ← es]; rfl))) ?_
          refine det_rx (.int .i64 cut) (fun W' x K => by rw [conv_int Ty.u16 Ty.int, i64_wrap (by omega) (by omega)]) ?_
          refine det_rx _ (fun W' x K => Ty.SVeh_f3) ?_
          refine det_rx g.byts.val (fun W' x K => load_cell Ty.hdr26 (has_at (hg7 W' x) (d := 5) rfl rfl)) ?_
          refine det_rx _ (fun W' x K => (v7 W' x).2.2.2.1.len Ty.bytes) ?_
          refine det_rx _ (fun W' x K => Ty.SVeh_f4) ?_
          refine det_rx (.int .i64 sn) (fun W' x K => load_cell Ty.int_agg (has_at (hg7 W' x) (d := 6) rfl (by rw [← hsn, ← es]; rfl))) ?_
          refine det_rx (.int .i64 ((xv.b.length : Int) - sn)) (fun W' x K => by rw [bin_sub, i64_wrap (by omega) (by omega)]) ?_
          refine det_rx (.int .i64 (d : Int)) (fun W' x K => by rw [bin_add, i64_wrap (by omega) (by omega), show (xv.b.length : Int) - sn + 1 = (d : Int) by omega]) ?_
          refine det_rx (.int .i64 ((cut.toNat % d : Nat) : Int)) (fun W' x K => by rw [bin_rem (by omega), tmod_nat hc.1]) ?_
          refine det_rx (.int .i64 (at_ : Int)) (fun W' x K => by rw [bin_add, i64_wrap (by omega) (by omega), show (sn : Int) + ((cut.toNat % d : Nat) : Int) = (at_ : Int) by omega]) ?_
          refine veh_thr (fun W' x => vcrash_ret (n := (at_ : Int)) hokx W' (v7 W' x) (ht.ext (x06.trans (x7.trans x)))) ?_
          refine veh_alloc_thr ?_
          rintro hh w8 x8 ⟨_, ⟨_, _, _, gc, e5, hfc⟩, k7, e7, hat7', hk7⟩
          simp only [List.cons.injEq, and_true] at e5 e7
          rw [e5.2.2.1, e5.2.2.2, e7]
          have hgc : VehIs w8 gc (Veh.crashV xv at_).1 := hfc w8 (Mod.refl _ _) (v7 w8 x8)
          have x68 := x7.trans x8
          have lc : Live (fun k => k = k7) w8 gc (Veh.crashV xv at_).1 := fun W' m' =>
            hfc W' (m'.mono fun k _ h => .inr (by have h : k = k7 := h; subst h; exact ⟨_, _, hat7'⟩)) (Live.of_ext vx x68 (B := fun k => k = k7) (fun k h => by have h : k = k7 := h; have := x7.size; omega) W' m')
          refine SVeh.set (r := SVeh.zero) hat7' fun w9 m9 hat9 _ => ?_
          have x69 : Ext w6 w9 := ext_step x68 m9 (by have := x7.size; omega)
          have x09 := x06.trans x69
          have vc := (lc.mod m9).is
          have okc : VehOk (Veh.crashV xv at_).1 := hokx.crash _
          rw [SVeh.g_all (has_of_at hat9)]
          refine callF_ret (vwake_ret okc w9 vc (ht.ext x09)) ?_
          rintro _ w10 hq10
          obtain ⟨gw, rfl, x10, hgw⟩ := hq10.is vc
          rw [ext2_0, ext2_1]
          refine SVeh.var fun b17 w11 x11 hat17 _ => ?_
          have x611 := x69.trans (x10.trans x11)
          refine draw_ext fun w12 x12 => ?_
          have x612 := x611.trans x12
          have x012 := x06.trans x612
          have hg3 : ∀ W', Ext w12 W' → Has W' b3 0 s.cells := fun W' x => has_of_at ((h36.ext x612).ext x)
          have hg17 : ∀ W', Ext w12 W' → Has W' b17 0 gw.cells := fun W' x => has_of_at ((hat17.ext x12).ext x)
          have hv12 := hv.ext x012
          have vw12 := hgw.ext (x11.trans x12)
          refine gd_t ?_
          refine det_read (.bool true) (fun W' x K => by rw [bin_eql, q1]; rfl) ?_
          refine gd_t ?_
          refine det_read (.bool true) (fun W' x K => by rw [bin_eql, q2]; rfl) ?_
          refine gd_t ?_
          refine det_read _ (fun W' x K => Ty.SVeh_f2) ?_
          refine det_read _ (fun W' x K => Ty.SLog_f2) ?_
          refine det_read s.log.ents.val (fun W' x K => load_cell Ty.ents_agg (has_at (hg3 W' x) (d := 4) rfl rfl)) ?_
          refine det_read _ (fun W' x K => SEntry.row_len (Sl.ext hv12.2.2.1.2.2 x)) ?_
          refine det_read (.bool true) (fun W' x K => by rw [bin_eql, decide_eq_true rfl]) ?_
          refine gd_t ?_
          refine det_read _ (fun W' x K => Ty.SVeh_f2) ?_
          refine det_read _ (fun W' x K => Ty.SLog_f2) ?_
          refine det_read gw.log.ents.val (fun W' x K => load_cell Ty.ents_agg (has_at (hg17 W' x) (d := 4) rfl rfl)) ?_
          refine det_read _ (fun W' x K => SEntry.row_len (Sl.ext vw12.2.2.1.2.2 x)) ?_
          refine det_read (.bool true) (fun W' x K => by rw [bin_geq, decide_eq_true (by omega)]) ?_
          refine gd_t ?_
          refine det_read _ (fun W' x K => Ty.SVeh_f2) ?_
          refine det_read _ (fun W' x K => Ty.SLog_f2) ?_
          refine det_read gw.log.ents.val (fun W' x K => load_cell Ty.ents_agg (has_at (hg17 W' x) (d := 4) rfl rfl)) ?_
          obtain ⟨vt, hvt, hsl⟩ := ents_upto vw12.2.2.1.2.2 q3
          refine det_read vt (fun W' x K => hsl W' K _) ?_
          refine det_read _ (fun W' x K => Ty.SVeh_f2) ?_
          refine det_read _ (fun W' x K => Ty.SLog_f2) ?_
          refine det_read s.log.ents.val (fun W' x K => load_cell Ty.ents_agg (has_at (hg3 W' x) (d := 4) rfl rfl)) ?_
          intro w13 x13 _
          refine callF_ret (SameEntries_ret w13 (Sl.ext hvt x13) (Sl.ext hv12.2.2.1.2.2 x13)) ?_
          rintro _ w14 ⟨rfl, x14⟩
          exact hR _ _ ⟨by rw [decide_eq_true q4], (x012.trans x13).trans x14⟩
        · refine join_in fun K5 hK5 => ?_
          rw [SVeh.g_sure hg6, es, bin_lss, decide_eq_false (by omega)]
          refine gd_f ?_
          rw [SVeh.g_sure hg6, es, SVeh.g_byts hg6, vx.2.2.2.1.len Ty.bytes, bin_gtr, decide_eq_false (by omega)]
          refine leaf1 hK5 fun h hh => ?_
          rw [hh]
          exact br_f (hK4 _ rfl)
    · refine join_in fun K3 hK3 => ?_
      rw [bin_neq]
      refine Gd_i (fun hb => ?_) fun hb => leaf1 hK3 fun h hh => by
        rw [hh]
        refine br_t (gd_t ?_)
        have hne : (Veh.markV v).2 ≠ 0 := by simpa using hb
        have hgz : gx.up = false := by rw [(hgx.ext x4).2.2.2.2.2.1, Veh.mark_zero hne]; rfl
        rw [SVeh.g_up (has_of_at hat8), hgz, un_not]
        exact hR _ _ ⟨rfl, x04⟩
      have h0 : (Veh.markV v).2 = 0 := by simpa using hb
      rw [SVeh.g_all (has_of_at ((h3.ext xW).ext xW4))]
      refine callF_ret (rvalid_ret hok w4 (hv.ext x04)) ?_
      rintro _ w5 ⟨rfl, x5⟩
      rw [un_not, Veh.valid_iff.2 (Veh.mark_ok h0).1]
      refine leaf1 hK3 fun h hh => ?_
      rw [hh]
      exact br_f (hK2 _ ⟨x5, h0⟩)
  · refine join_in fun K2 hK2 => ?_
    rw [SVeh.g_all (has_of_at h3)]
    refine callF_ret (vfew_ret w2 (hv.ext x02)) ?_
    rintro _ w3 ⟨⟨b, rfl, hbf⟩, x3⟩
    rw [un_not]
    refine Gd_i (fun hb => ?_) fun _ => leaf1 hK2 fun h hh => by rw [hh]; exact br_t (hR _ _ ⟨rfl, x02.trans x3⟩)
    rw [SEntry.row_len (Sl.ext hrow (x02.trans x3)), bin_gtr]
    refine leaf1 hK2 fun h hh => ?_
    rw [hh]
    exact Br_i (fun _ => hR _ _ ⟨rfl, x02.trans x3⟩) fun hb2 => hK _ ⟨x3, hbf (by simpa using hb), by have := dec_f hb2; omega⟩
structure MSt (s : SVeh) (e : SEntry) (b6 b7 b14 b16 : Nat) (w W : World) : Prop where
  x : Ext w W
  a6 : At W b6 (.cells s.cells.toArray 28 (0, 0))
  a7 : At W b7 (.cells e.cells.toArray 38 (0, 0))
  a14 : ∃ g : SVeh, At W b14 (.cells g.cells.toArray 28 (0, 0))
  a16 : ∃ g : SVeh, At W b16 (.cells g.cells.toArray 28 (0, 0))
theorem MSt.ext {s : SVeh} {e : SEntry} {b6 b7 b14 b16 : Nat} {w W W' : World} (h : MSt s e b6 b7 b14 b16 w W) (x : Ext W W') : MSt s e b6 b7 b14 b16 w W' :=
  ⟨h.x.trans x, h.a6.ext x, h.a7.ext x, by obtain ⟨g, h⟩ := h.a14; exact ⟨g, h.ext x⟩, by obtain ⟨g, h⟩ := h.a16; exact ⟨g, h.ext x⟩⟩
theorem MSt.set14 {s g : SVeh} {e : SEntry} {b6 b7 b14 b16 : Nat} {w W W' : World} (h : MSt s e b6 b7 b14 b16 w W) (hlt : w.heap.size ≤ b6 ∧ b6 < b7 ∧ b7 < b14 ∧ b14 < b16) (m : Mod (· = b14) W W') (hat : At W' b14 (.cells g.cells.toArray 28 (0, 0))) : MSt s e b6 b7 b14 b16 w W' :=
  ⟨ext_step h.x m (by omega), h.a6.mod m (by omega), h.a7.mod m (by omega), ⟨g, hat⟩, by obtain ⟨g, h⟩ := h.a16; exact ⟨g, h.mod m (by omega)⟩⟩
theorem MSt.set16 {s g : SVeh} {e : SEntry} {b6 b7 b14 b16 : Nat} {w W W' : World} (h : MSt s e b6 b7 b14 b16 w W) (hlt : w.heap.size ≤ b6 ∧ b6 < b7 ∧ b7 < b14 ∧ b14 < b16) (m : Mod (· = b16) W W') (hat : At W' b16 (.cells g.cells.toArray 28 (0, 0))) : MSt s e b6 b7 b14 b16 w W' :=
  ⟨ext_step h.x m (by omega), h.a6.mod m (by omega), h.a7.mod m (by omega), by obtain ⟨g, h⟩ := h.a14; exact ⟨g, h.mod m (by omega)⟩, ⟨g, hat⟩⟩
theorem VehicleMatchesReference_ret {s : SVeh} {v : Veh.V} {e : SEntry} {id ver n : Int} {u : Value} {rs : List (List SPoint)} (hok : VehOk v) (he : e.Ok) (hrs : ∀ l ∈ rs, ∀ p ∈ l, p.Ok) (w : World) (hv : VehIs w s v) (hrl : RL w u rs) (ht : Tab w) :
    Ret Tryz.prog 5 #[.agg s.cells.toArray, .agg e.cells.toArray, .int .i64 id, .int .i64 ver, .int .i64 n, u] w (TrueQ w) := by
  refine ret_of (fun _ _ => sh_landfalllaw41_VehicleMatchesReference_ok _ _ _ _ _ _) fun R hR => ?_
  unfold sh_landfalllaw41_VehicleMatchesReference
  refine box_i fun b6 w1 x1 hat6 hb6 _ => ?_
  refine box_i fun b7 w2 x2 hat7 hb7 _ => ?_
  refine callF_ret (head41_ret w2 (ht.ext (x1.trans x2))) ?_
  rintro _ w3 ⟨rfl, x3⟩
  have x03 := (x1.trans x2).trans x3
  have h6 := At.ext (At.ext hat6 x2) x3
  have h7 := At.ext hat7 x3
  refine join0 (fun W => Ext w3 W) ?_ fun K hK => ?_
  · rintro _ W xW
    have x0W := x03.trans xW
    refine callF_ret (vnew_ret (id := id) (ver := ver) hrs W (hrl.ext x0W)) ?_
    rintro _ w4 ⟨gx, rfl, x4, hfx⟩
    rw [ext2_0, ext2_1]
    have hgx : VehIs w4 gx (Veh.newV id ver rs).1 := hfx w4 (Mod.refl _ _) (hrl.ext (x0W.trans x4))
    refine SVeh.var fun b14 w5 x5 hat14 hb14 => ?_
    have x05 := (x0W.trans x4).trans x5
    refine callF_ret (rnew_ret (id := id) (ver := ver) w5 (hrl.ext x05)) ?_
    rintro _ w6 ⟨gy, rfl, x6, hfy⟩
    rw [ext2_0, ext2_1]
    have hgy : VehIs w6 gy (Veh.newV id ver rs).1 := hfy w6 (Mod.refl _ _) (hrl.ext (x05.trans x6))
    refine SVeh.var fun b16 w7 x7 hat16 hb16 => ?_
    have x57 := x6.trans x7
    have x07 := x05.trans x57
    have z1 := x1.size
    have z2 := x2.size
    have z3 := x3.size
    have zW := xW.size
    have z4 := x4.size
    have z6 := x6.size
    have hlt : w.heap.size ≤ b6 ∧ b6 < b7 ∧ b7 < b14 ∧ b14 < b16 := by
      have := At.lt hat6
      have := At.lt hat7
      have := hat14.lt
      refine ⟨?_, ?_, ?_, ?_⟩ <;> omega
    have xW7 := (x4.trans x5).trans x57
    have st0 : MSt s e b6 b7 b14 b16 w w7 := ⟨x07, (h6.ext xW).ext xW7, (h7.ext xW).ext xW7, ⟨gx, hat14.ext x57⟩, ⟨gy, hat16⟩⟩
    have hBw : ∀ k, (k = b14 ∨ k = b16) → w.heap.size ≤ k := fun k h => by rcases h with h | h <;> omega
    have low : ∀ {W : World}, MSt s e b6 b7 b14 b16 w W → ∀ k, (k = b14 ∨ k = b16) → k < W.heap.size := fun h k hk => by
      obtain ⟨g, h1⟩ := h.a14
      obtain ⟨g, h2⟩ := h.a16
      have := h1.lt
      have := h2.lt
      rcases hk with h | h <;> omega
    refine join1 (fun x W => x = .bool true ∧ MSt s e b6 b7 b14 b16 w W) ?_ fun K2 hK2 => ?_
    · rintro j1 _ W1 hj1 ⟨rfl, st1⟩
      rw [SVeh.g_all (has_of_at st1.a6), SEntry.g_all (has_of_at st1.a7)]
      refine callF_ret (vwrite_ret hok he W1 (hv.ext st1.x) (ht.ext st1.x)) ?_
      rintro _ Va1 ⟨gx1, rfl, ya1, fx1⟩
      rw [ext2_0, ext2_1]
      have lx1 : Live (fun k => k = b14 ∨ k = b16) Va1 gx1 (Veh.writeV v e).1 := Live.of_frame (Live.of_ext hv st1.x hBw) ya1 (low st1) fx1
      have sa1 := st1.ext ya1
      obtain ⟨_, ha1⟩ := sa1.a14
      refine SVeh.set ha1 fun Vb1 mb1 hb14 _ => ?_
      have sb1 := sa1.set14 hlt mb1 hb14
      have lxb1 := lx1.mod (mb1.mono fun _ _ h => .inl h)
      rw [SVeh.g_all (has_of_at sb1.a6), SEntry.g_all (has_of_at sb1.a7)]
      refine callF_ret (rwrite_ret hok he Vb1 (hv.ext sb1.x)) ?_
      rintro _ Vc1 ⟨gy1, rfl, yc1, fy1⟩
      rw [ext2_0, ext2_1]
      have ly1 : Live (fun k => k = b14 ∨ k = b16) Vc1 gy1 (Veh.writeV v e).1 := Live.of_frame (Live.of_ext hv sb1.x hBw) yc1 (low sb1) fy1
      have sc1 := sb1.ext yc1
      obtain ⟨_, hc1⟩ := sc1.a16
      refine SVeh.set hc1 fun Vd1 md1 hd16 _ => ?_
      have sd1 := sc1.set16 hlt md1 hd16
      have hx1 := (((lxb1.ext yc1).mod (md1.mono fun _ _ h => .inr h))).is
      have hy1 := (ly1.mod (md1.mono fun _ _ h => .inr h)).is
      have h141 := (hb14.ext yc1).mod md1 (show b14 ≠ b16 by omega)
      refine join1 (fun x W => x = .bool true ∧ MSt s e b6 b7 b14 b16 w W) ?_ fun J1 hJ1 => ?_
      rotate_left
      · rw [hj1]
        refine gd_t ?_
        rw [SVeh.g_all (has_of_at h141), SVeh.g_all (has_of_at hd16)]
        refine callF_ret (vsame_ret Vd1 hx1 hy1) ?_
        rintro _ Ve1 ⟨rfl, ye1⟩
        refine gd_t ?_
        rw [bin_eql, decide_eq_true rfl]
        exact hJ1 _ _ ⟨rfl, sd1.ext ye1⟩
      rintro j2 _ W2 hj2 ⟨rfl, st2⟩
      rw [SVeh.g_all (has_of_at st2.a6)]
      refine callF_ret (vmark_ret hok W2 (hv.ext st2.x) (ht.ext st2.x)) ?_
      rintro _ Va2 ⟨gx2, rfl, ya2, fx2⟩
      rw [ext2_0, ext2_1]
      have lx2 : Live (fun k => k = b14 ∨ k = b16) Va2 gx2 (Veh.markV v).1 := Live.of_frame (Live.of_ext hv st2.x hBw) ya2 (low st2) fx2
      have sa2 := st2.ext ya2
      obtain ⟨_, ha2⟩ := sa2.a14
      refine SVeh.set ha2 fun Vb2 mb2 hb24 _ => ?_
      have sb2 := sa2.set14 hlt mb2 hb24
      have lxb2 := lx2.mod (mb2.mono fun _ _ h => .inl h)
      rw [SVeh.g_all (has_of_at sb2.a6)]
      refine callF_ret (rmark_ret hok Vb2 (hv.ext sb2.x)) ?_
      rintro _ Vc2 ⟨gy2, rfl, yc2, fy2⟩
      rw [ext2_0, ext2_1]
      have ly2 : Live (fun k => k = b14 ∨ k = b16) Vc2 gy2 (Veh.markV v).1 := Live.of_frame (Live.of_ext hv sb2.x hBw) yc2 (low sb2) fy2
      have sc2 := sb2.ext yc2
      obtain ⟨_, hc2⟩ := sc2.a16
      refine SVeh.set hc2 fun Vd2 md2 hd26 _ => ?_
      have sd2 := sc2.set16 hlt md2 hd26
      have hx2 := (((lxb2.ext yc2).mod (md2.mono fun _ _ h => .inr h))).is
      have hy2 := (ly2.mod (md2.mono fun _ _ h => .inr h)).is
      have h142 := (hb24.ext yc2).mod md2 (show b14 ≠ b16 by omega)
      refine join1 (fun x W => x = .bool true ∧ MSt s e b6 b7 b14 b16 w W) ?_ fun J2 hJ2 => ?_
      rotate_left
      · rw [hj2]
        refine gd_t ?_
        rw [SVeh.g_all (has_of_at h142), SVeh.g_all (has_of_at hd26)]
        refine callF_ret (vsame_ret Vd2 hx2 hy2) ?_
        rintro _ Ve2 ⟨rfl, ye2⟩
        refine gd_t ?_
        rw [bin_eql, decide_eq_true rfl]
        exact hJ2 _ _ ⟨rfl, sd2.ext ye2⟩
      rintro j3 _ W3 hj3 ⟨rfl, st3⟩
      rw [SVeh.g_all (has_of_at st3.a6)]
      refine callF_ret (vcrash_ret (n := n) hok W3 (hv.ext st3.x) (ht.ext st3.x)) ?_
      rintro _ Va3 ⟨gx3, rfl, ya3, fx3⟩
      rw [ext2_0, ext2_1]
      have lx3 : Live (fun k => k = b14 ∨ k = b16) Va3 gx3 (Veh.crashV v n).1 := Live.of_frame (Live.of_ext hv st3.x hBw) ya3 (low st3) fx3
      have sa3 := st3.ext ya3
      obtain ⟨_, ha3⟩ := sa3.a14
      refine SVeh.set ha3 fun Vb3 mb3 hb34 _ => ?_
      have sb3 := sa3.set14 hlt mb3 hb34
      have lxb3 := lx3.mod (mb3.mono fun _ _ h => .inl h)
      rw [SVeh.g_all (has_of_at sb3.a6)]
      refine callF_ret (rcrash_ret (n := n) hok Vb3 (hv.ext sb3.x)) ?_
      rintro _ Vc3 ⟨gy3, rfl, yc3, fy3⟩
      rw [ext2_0, ext2_1]
      have ly3 : Live (fun k => k = b14 ∨ k = b16) Vc3 gy3 (Veh.crashV v n).1 := Live.of_frame (Live.of_ext hv sb3.x hBw) yc3 (low sb3) fy3
      have sc3 := sb3.ext yc3
      obtain ⟨_, hc3⟩ := sc3.a16
      refine SVeh.set hc3 fun Vd3 md3 hd36 _ => ?_
      have sd3 := sc3.set16 hlt md3 hd36
      have hx3 := (((lxb3.ext yc3).mod (md3.mono fun _ _ h => .inr h))).is
      have hy3 := (ly3.mod (md3.mono fun _ _ h => .inr h)).is
      have h143 := (hb34.ext yc3).mod md3 (show b14 ≠ b16 by omega)
      refine join1 (fun x W => x = .bool true ∧ MSt s e b6 b7 b14 b16 w W) ?_ fun J3 hJ3 => ?_
      rotate_left
      · rw [hj3]
        refine gd_t ?_
        rw [SVeh.g_all (has_of_at h143), SVeh.g_all (has_of_at hd36)]
        refine callF_ret (vsame_ret Vd3 hx3 hy3) ?_
        rintro _ Ve3 ⟨rfl, ye3⟩
        refine gd_t ?_
        rw [bin_eql, decide_eq_true rfl]
        exact hJ3 _ _ ⟨rfl, sd3.ext ye3⟩
      rintro j4 _ W4 hj4 ⟨rfl, st4⟩
      rw [SVeh.g_all (has_of_at st4.a6)]
      refine callF_ret (vwake_ret hok W4 (hv.ext st4.x) (ht.ext st4.x)) ?_
      rintro _ Va4 ⟨gx4, rfl, ya4, fx4⟩
      rw [ext2_0, ext2_1]
      have lx4 : Live (fun k => k = b14 ∨ k = b16) Va4 gx4 (Veh.wakeV v).1 := Live.of_frame (Live.of_ext hv st4.x hBw) ya4 (low st4) fx4
      have sa4 := st4.ext ya4
      obtain ⟨_, ha4⟩ := sa4.a14
      refine SVeh.set ha4 fun Vb4 mb4 hb44 _ => ?_
      have sb4 := sa4.set14 hlt mb4 hb44
      have lxb4 := lx4.mod (mb4.mono fun _ _ h => .inl h)
      rw [SVeh.g_all (has_of_at sb4.a6)]
      refine callF_ret (rwake_ret hok Vb4 (hv.ext sb4.x)) ?_
      rintro _ Vc4 ⟨gy4, rfl, yc4, fy4⟩
      rw [ext2_0, ext2_1]
      have ly4 : Live (fun k => k = b14 ∨ k = b16) Vc4 gy4 (Veh.wakeV v).1 := Live.of_frame (Live.of_ext hv sb4.x hBw) yc4 (low sb4) fy4
      have sc4 := sb4.ext yc4
      obtain ⟨_, hc4⟩ := sc4.a16
      refine SVeh.set hc4 fun Vd4 md4 hd46 _ => ?_
      have sd4 := sc4.set16 hlt md4 hd46
      have hx4 := (((lxb4.ext yc4).mod (md4.mono fun _ _ h => .inr h))).is
      have hy4 := (ly4.mod (md4.mono fun _ _ h => .inr h)).is
      have h144 := (hb44.ext yc4).mod md4 (show b14 ≠ b16 by omega)
      rw [hj4]
      refine gd_t ?_
      rw [SVeh.g_all (has_of_at h144), SVeh.g_all (has_of_at hd46)]
      refine callF_ret (vsame_ret Vd4 hx4 hy4) ?_
      rintro _ Ve4 ⟨rfl, ye4⟩
      refine gd_t ?_
      rw [bin_eql, decide_eq_true rfl]
      exact hR _ _ ⟨rfl, (sd4.ext ye4).x⟩
    · refine draw_ext fun w8 x8 => ?_
      have st8 := st0.ext x8
      refine gd_t ?_
      refine det_read _ (fun W' x K => SVeh.g_all (has_of_at (st8.a6.ext x))) ?_
      refine det_ret _ (fun W' x => vehValid_ret hok W' (hv.ext (st8.x.trans x)) (ht.ext (st8.x.trans x))) ?_
      refine det_read _ (fun W' x K => SVeh.g_all (has_of_at (st8.a6.ext x))) ?_
      refine det_ret _ (fun W' x => rvalid_ret hok W' (hv.ext (st8.x.trans x))) ?_
      refine det_read (.bool true) (fun W' x K => by rw [bool_eql Ty.bool, beq_self_eq_true]) ?_
      refine gd_t ?_
      refine det_read _ (fun W' x K => SVeh.g_all (has_of_at (((hat14.ext x57).ext x8).ext x))) ?_
      refine det_read _ (fun W' x K => SVeh.g_all (has_of_at ((hat16.ext x8).ext x))) ?_
      refine det_ret _ (fun W' x => vsame_ret W' (hgx.ext (x5.trans ((x57.trans x8).trans x))) (hgy.ext (x7.trans (x8.trans x)))) ?_
      refine gd_t ?_
      intro w9 x9 _
      rw [bin_eql, decide_eq_true rfl]
      exact hK2 _ _ ⟨rfl, st8.ext x9⟩
  · refine join_in fun K2 hK2 => ?_
    rw [SVeh.g_all (has_of_at h6)]
    refine callF_ret (vfew_ret w3 (hv.ext x03)) ?_
    rintro _ w4 ⟨⟨b, rfl, _⟩, x4⟩
    rw [un_not]
    refine Gd_i (fun _ => ?_) fun _ => leaf1 hK2 fun h hh => by rw [hh]; exact br_t (hR _ _ ⟨rfl, x03.trans x4⟩)
    refine callF_ret (refRegionFew_ret w4 (hrl.ext (x03.trans x4))) ?_
    rintro _ w5 ⟨⟨b2, rfl, _⟩, x5⟩
    rw [un_not]
    refine leaf1 hK2 fun h hh => ?_
    rw [hh]
    exact Br_i (fun _ => hR _ _ ⟨rfl, x03.trans (x4.trans x5)⟩) fun _ => hK _ (x4.trans x5)
end Go.Proofs.YtoeblipchoglaaaGreatDoor
