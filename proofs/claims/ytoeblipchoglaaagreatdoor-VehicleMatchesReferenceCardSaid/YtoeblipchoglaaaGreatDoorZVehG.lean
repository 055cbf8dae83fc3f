/- The walks of vehicles: New of both, Write, Mark, Crash, Wake of the reference implementation; Same, Few. -/
import Derived.Test.YtoeblipchoglaaaGreatDoorZVehF
namespace Go.Proofs.YtoeblipchoglaaaGreatDoor
set_option maxRecDepth 100000
set_option maxHeartbeats 8000000
open Sh Go.RowKit
theorem new_log1 (v : Int) : Tryz.prog.built 25 [(0, .int .i64 v)] = some (SLog.mk v ⟨none, 0, 0⟩ ⟨none, 0, 0⟩).cells.toArray := by kernel_rfl
theorem new_log2v (v : Int) (d : Hdr) : Tryz.prog.built 25 [(0, .int .i64 v), (1, d.val)] = some (SLog.mk v d ⟨none, 0, 0⟩).cells.toArray := by kernel_rfl
theorem new_veh (a b : Int) (l : SLog) : Tryz.prog.built 28 [(0, .int .i64 a), (1, .int .i64 b), (2, .agg l.cells.toArray), (5, .bool true)] = some (SVeh.mk a b l ⟨none, 0, 0⟩ 0 true 0 0).cells.toArray := by kernel_rfl
theorem Hul.valid_small {l : List SPoint} (h : Hul.valid l = true) : l.length ≤ 64 := (Hul.valid_iff.1 h).1.1.2
theorem reg_small {rs : List (List SPoint)} (h : regValid rs = true) : rs.length ≤ 32 ∧ ∀ l ∈ rs, l.length ≤ 64 := by
  unfold regValid at h
  rw [Bool.and_eq_true, decide_eq_true_eq, List.all_eq_true] at h
  exact ⟨h.1, fun l hl => Hul.valid_small (h.2 l hl)⟩
def NewQ (u : Value) (rs : List (List SPoint)) (p : Veh.V × Int) (w : World) (r : Value) (w' : World) : Prop := ∃ g : SVeh, r = .tuple #[.agg g.cells.toArray, .int .i64 p.2] ∧ Ext w w' ∧ ∀ W, Mod (LowT w.heap.size w') w' W → RL W u rs → VehIs W g p.1
theorem new_none {b : Nat} {w0 w : World} {e : Int} {R : Ending → World → Prop} {u : Value} {rs : List (List SPoint)} {p : Veh.V × Int} {r : SVeh} {X0 : List PanicEntry → World → Prop} (hR : ∀ x w', NewQ u rs p w0 x w' → R (.returned x) w') (hx : Ext w0 w) (hb : w0.heap.size ≤ b) (hat : At w b (.cells r.cells.toArray 28 (0, 0)))
    (he : p = (Veh.zero, e)) : DoV Tryz.prog (Instr.build 28 #[]) w (fun t w1 => DoU Tryz.prog (Instr.storeAt 28 (.pointer (some ⟨b, 0, none⟩)) t) w1 (fun _ w2 => Res Tryz.prog [.cell (.pointer (some ⟨b, 0, none⟩)) 28, .tmp (.int .i64 e)] w2 R) (Pan R)) X0 := by
  rw [build_i new_noveh]
  refine veh_res (r := r) hat fun W m => ?_
  exact hR _ _ ⟨SVeh.zero, by rw [he], ext_step hx m hb, fun W _ _ => by rw [he]; exact VehIs.zero W⟩
theorem vnew_ret {id ver : Int} {u : Value} {rs : List (List SPoint)} (hok : ∀ l ∈ rs, ∀ p ∈ l, p.Ok) (w : World) (hv : RL w u rs) : Ret Tryz.prog 16 #[.int .i64 id, .int .i64 ver, u] w (NewQ u rs (Veh.newV id ver rs) w) := by
  refine ret_of (fun _ _ => sh_vehicle_New_ok _ _ _) fun R hR => ?_
  unfold sh_vehicle_New
  refine alloc_i Ty.SVeh_zero fun b6 w1 x1 hat6 hb6 _ => ?_
  have hat6 : At w1 b6 (.cells SVeh.zero.cells.toArray 28 (0, 0)) := hat6
  have z1 := x1.size
  have bad : ∀ W, Ext w1 W → ¬ (Rep.isID id = true ∧ Rep.isID ver = true ∧ regValid rs = true ∧ 0 < rs.length) → ∀ (X0 : List PanicEntry → World → Prop), DoV Tryz.prog (Instr.build 28 #[]) W (fun t w1 => DoU Tryz.prog (Instr.storeAt 28 (.pointer (some ⟨b6, 0, none⟩)) t) w1 (fun _ w2 => Res Tryz.prog [.cell (.pointer (some ⟨b6, 0, none⟩)) 28, .tmp (.int .i64 1)] w2 R) (Pan R)) X0 := fun W x hn X0 =>
    new_none (r := SVeh.zero) hR (x1.trans x) (by omega) (hat6.ext x) (by unfold Veh.newV; rw [if_neg hn])
  refine join0 (fun W => Ext w1 W ∧ Rep.isID id = true ∧ Rep.isID ver = true ∧ regValid rs = true ∧ 0 < rs.length) ?_ fun K hK => ?_
  · rintro _ W ⟨xW, hc⟩
    have hsm := reg_small hc.2.2.1
    rw [build_i (new_log1 id)]
    refine SLog.var fun b8 w3 x3 hat8 hb8 => ?_
    have x13 := xW.trans x3
    have x03 := x1.trans x13
    rw [(hv.ext x03).len]
    have hne : b8 ≠ b6 := by have := hat6.lt; have := xW.size; omega
    obtain ⟨ip, hip, hzp, hsp, hbp⟩ := Ty.info_parts Ty.points_info
    refine loop1 (fun x W' => ∃ k : Nat, k ≤ rs.length ∧ x = .int .i64 k ∧ Mod (fun j => j = b8 ∨ w3.heap.size ≤ j) w3 W' ∧ ∃ (hd : Hdr) (vs : List Value), At W' b8 (.cells (SLog.mk id hd ⟨none, 0, 0⟩).cells.toArray 25 (0, 0)) ∧ W'.ownsRow w3.heap.size 53 1 hd.val k vs ∧ ∀ (j : Nat) (u : Value) (l : List SPoint), vs[j]? = some u → rs[j]? = some l → SPoint.Owns w3.heap.size W' u l) (fun x _ => rs.length - (intOf x).toNat) ⟨0, by omega, rfl, Mod.refl _ _, ⟨none, 0, 0⟩, [], hat8, Own.nil _ _ _ _, fun j u l h => by simp at h⟩ ?_
    rintro h _ W4 hx ⟨k, hk, rfl, m4, hd, vs, h84, hown, hrow⟩ K2 hK2
    have x14 : Ext w1 W4 := ext_mod x13 (by have := xW.size; omega) m4
    have x04 := x1.trans x14
    have h64 : At W4 b6 (.cells SVeh.zero.cells.toArray 28 (0, 0)) := hat6.ext x14
    have hvl : vs.length = k := by have := (Sl.of_owns hown).length; omega
    rw [hx, bin_lss]
    refine Br_i (fun hb => ?_) fun hb => ?_
    · have hlt : k < rs.length := by have := dec_t hb; omega
      obtain ⟨p, hp, hix⟩ := (hv.ext x04).at_ hlt
      rw [hix W4 (Ext.refl _)]
      have hpl : rs[k].length ≤ 64 := hsm.2 _ (List.getElem_mem hlt)
      refine drawRX fun w5 x5 _ => ?_
      refine det_rx _ (fun w6 x6 K => Ty.SLog_f1) ?_
      refine det_rx hd.val (fun w6 x6 K => load_cell Ty.hdr22 (has_at (has_of_at ((h84.ext x5).ext x6)) (d := 1) rfl rfl)) ?_
      refine thr_x (fun us W' => ∃ u1 u2, us = [u1, u2] ∧ SPoint.Owns w5.heap.size W' u1 rs[k] ∧ Sl W' 1 u2 1 [u1]) ?_ ?_
      · refine nd_x (fun u W' => SPoint.Owns w5.heap.size W' u rs[k]) (fun u a b h x => Own.ext h x) (fun w6 x6 _ => ?_) fun u1 => ?_
        · refine callF_ret (clonePoints_ret w6 (Sl.ext hp (x5.trans x6)) (by omega)) ?_
          rintro u w7 ⟨h7, x7⟩
          exact ⟨x7, Own.mono h7 x6.size⟩
        refine nd_x (fun u W' => SPoint.Owns w5.heap.size W' u1 rs[k] ∧ Sl W' 1 u 1 [u1]) (fun u a b h x => ⟨Own.ext h.1 x, Sl.ext h.2 x⟩) (fun w6 x6 h6 => ?_) fun u2 => ?_
        · refine litn_i [u1] Ty.polys hip hsp hzp (fun v hv => by rw [List.mem_singleton] at hv; subst hv; exact Sl.cells (Sl.of_owns h6)) rfl (by decide) (by decide) rfl fun u w7 x7 h7 _ => ?_
          exact ⟨x7, Own.ext h6 x7, Sl.of_owns h7⟩
        · rintro w6 x6 ⟨h6, h7⟩
          exact ⟨u1, u2, rfl, h6, h7⟩
      rintro hh w6 x6 ⟨_, _, u1, u2, e1, hu1, hu2⟩
      simp only [List.cons.injEq, and_true] at e1
      obtain ⟨_, e1⟩ := e1
      rw [e1]
      have x46 := x5.trans x6
      have zz := m4.size
      have z5 := x5.size
      refine app_own (n := k) (m := 1) Ty.polys hip hzp hsp hbp rfl (by decide) (Own.ext hown x46) hu2 (fun u hu => by rw [List.mem_singleton] at hu; subst hu; exact Sl.one (Sl.of_owns hu1)) (by omega) (by omega) (by have := x46.size; omega) fun v7 w7 h7 m7 _ => ?_
      obtain ⟨d7, rfl⟩ := Hdr.of_sl (Sl.of_owns h7)
      have h87 := (h84.ext x46).mod m7 fun hh => Own.off_at (Own.ext hown x46) (h84.ext x46) (by decide) b8 hh rfl
      refine SLog.s_start h87 fun w8 m8 h88 _ => ?_
      rw [bin_add, i64_wrap (by omega) (by omega)]
      have m78 : Mod (fun j => j = b8 ∨ w3.heap.size ≤ j) w3 w8 := ((m4.trans (.of_ext x46)).trans (m7.mono fun j _ hj => .inr (Own.block (Own.ext hown x46) hj).1)).trans (m8.mono fun _ _ => .inl)
      have keep : ∀ {u : Value} {l : List SPoint} {base : Nat}, SPoint.Owns base w6 u l → SPoint.Owns base w8 u l := fun h => by
        have k1 := Own.mod h m7 (Own.off_own (Own.ext hown x46) h (by decide))
        exact Own.mod k1 m8 (Own.off_at k1 h87 (by decide))
      refine hK2 _ _ ⟨k + 1, by omega, by simp, m78, d7, vs ++ [u1], h88, Own.mod h7 m8 (Own.off_at h7 h87 (by decide)), fun j u l hu hl => ?_⟩ (by simp [intOf]; omega)
      rcases Nat.lt_or_ge j vs.length with hj | hj
      · rw [List.getElem?_append_left hj] at hu
        exact keep (Own.ext (hrow j u l hu hl) x46)
      · rw [List.getElem?_append_right hj] at hu
        have hj0 : j - vs.length = 0 := by
          rcases Nat.eq_zero_or_pos (j - vs.length) with h | h
          · exact h
          · rw [List.getElem?_eq_none (by simp; omega)] at hu; cases hu
        rw [hj0] at hu
        have : j = k := by omega
        subst this
        rw [List.getElem?_eq_getElem hlt] at hl
        cases hu; cases hl
        exact Own.mono (keep hu1) (by omega)
    · have hge : k = rs.length := by have := dec_f hb; omega
      subst hge
      rw [SLog.g_all (has_of_at h84), build_i (new_veh id ver _)]
      refine veh_res (r := SVeh.zero) h64 fun W m5 => ?_
      have e : Veh.newV id ver rs = (⟨id, ver, ⟨id, rs, []⟩, [], 0, true, 0, 0⟩, 0) := by unfold Veh.newV; rw [if_pos hc]
      refine hR _ _ ⟨_, by rw [e], ext_step x04 m5 (by omega), fun W' m' _ => ?_⟩
      rw [e]
      have hN : w.heap.size ≤ w3.heap.size := x03.size
      refine ⟨rfl, rfl, ⟨rfl, ⟨vs, Sl.of_owns (Own.low (Own.mod hown m5 (Own.off_at hown h64 (by decide))) hN (by decide) m'), fun j u l hu hl => ?_⟩, SEntry.row_nil _⟩, Sl.nil _ _, rfl, rfl, rfl, rfl⟩
      have := hrow j u l hu hl
      exact Sl.of_owns (Own.low (Own.mod this m5 (Own.off_at this h64 (by decide))) hN (by decide) m')
  · refine join_in fun K3 hK3 => ?_
    refine callF_same (vehID_ret _ w1) ?_
    rw [un_not]
    refine Gd_i (fun hb => ?_) fun hb => leaf1 hK3 fun h hh => by
      rw [hh]
      exact br_t (bad _ (Ext.refl _) (fun hn => by rw [hn.1] at hb; cases hb) _)
    have c1 : Rep.isID id = true := by simpa using hb
    refine callF_same (vehID_ret _ w1) ?_
    rw [un_not]
    refine Gd_i (fun hb => ?_) fun hb => leaf1 hK3 fun h hh => by
      rw [hh]
      exact br_t (bad _ (Ext.refl _) (fun hn => by rw [hn.2.1] at hb; cases hb) _)
    have c2 : Rep.isID ver = true := by simpa using hb
    refine callF_ret (regionValid_ret hok w1 (hv.ext x1)) ?_
    rintro _ w2 ⟨rfl, x2⟩
    rw [un_not]
    refine Gd_i (fun hb => ?_) fun hb => leaf1 hK3 fun h hh => by
      rw [hh]
      exact br_t (bad _ x2 (fun hn => by rw [hn.2.2.1] at hb; cases hb) _)
    have c3 : regValid rs = true := by simpa using hb
    rw [(hv.ext (x1.trans x2)).len, bin_eql]
    refine leaf1 hK3 fun h hh => ?_
    rw [hh]
    exact Br_i (fun hb => bad _ x2 (fun hn => by have := dec_t hb; omega) _) fun hb => hK _ ⟨x2, c1, c2, c3, by have := dec_f hb; omega⟩
theorem rnew_ret {id ver : Int} {u : Value} {rs : List (List SPoint)} (w : World) (hv : RL w u rs) : Ret Tryz.prog 17 #[.int .i64 id, .int .i64 ver, u] w (NewQ u rs (Veh.newV id ver rs) w) := by
  refine ret_of (fun _ _ => sh_landfallref41_New_ok _ _ _) fun R hR => ?_
  unfold sh_landfallref41_New
  refine alloc_i Ty.SVeh_zero fun b6 w1 x1 hat6 hb6 _ => ?_
  have hat6 : At w1 b6 (.cells SVeh.zero.cells.toArray 28 (0, 0)) := hat6
  have z1 := x1.size
  refine callF_ret (refRegionValid_ret w1 (hv.ext x1)) ?_
  rintro _ w2 ⟨rfl, x2⟩
  have x02 := x1.trans x2
  have bad : ¬ (Rep.isID id = true ∧ Rep.isID ver = true ∧ regValid rs = true ∧ 0 < rs.length) → ∀ (X0 : List PanicEntry → World → Prop), DoV Tryz.prog (Instr.build 28 #[]) w2 (fun t w1 => DoU Tryz.prog (Instr.storeAt 28 (.pointer (some ⟨b6, 0, none⟩)) t) w1 (fun _ w2 => Res Tryz.prog [.cell (.pointer (some ⟨b6, 0, none⟩)) 28, .tmp (.int .i64 1)] w2 R) (Pan R)) X0 := fun hn X0 =>
    new_none (r := SVeh.zero) hR x02 (by omega) (hat6.ext x2) (by unfold Veh.newV; rw [if_neg hn])
  refine join0 (fun W => W = w2 ∧ Rep.isID id = true ∧ Rep.isID ver = true ∧ regValid rs = true ∧ 0 < rs.length) ?_ fun K hK => ?_
  · rintro _ W ⟨hW, hc⟩
    subst W
    obtain ⟨d, rfl⟩ := hv.hdr
    rw [build_i (new_log2v id d), build_i (new_veh id ver _)]
    refine veh_res (r := SVeh.zero) (hat6.ext x2) fun W m5 => ?_
    have e : Veh.newV id ver rs = (⟨id, ver, ⟨id, rs, []⟩, [], 0, true, 0, 0⟩, 0) := by unfold Veh.newV; rw [if_pos hc]
    have xW := ext_step x02 m5 (by omega)
    refine hR _ _ ⟨_, by rw [e], xW, fun W' _ hv' => ?_⟩
    rw [e]
    exact ⟨rfl, rfl, ⟨rfl, hv', SEntry.row_nil _⟩, Sl.nil _ _, rfl, rfl, rfl, rfl⟩
  · refine join_in fun K3 hK3 => ?_
    refine callF_same (vehNumber_ret _ w2) ?_
    rw [un_not]
    refine Gd_i (fun hb => ?_) fun hb => leaf1 hK3 fun h hh => by
      rw [hh]
      exact br_t (bad (fun hn => by rw [hn.1] at hb; cases hb) _)
    have c1 : Rep.isID id = true := by simpa using hb
    refine callF_same (vehNumber_ret _ w2) ?_
    rw [un_not]
    refine Gd_i (fun hb => ?_) fun hb => leaf1 hK3 fun h hh => by
      rw [hh]
      exact br_t (bad (fun hn => by rw [hn.2.1] at hb; cases hb) _)
    have c2 : Rep.isID ver = true := by simpa using hb
    rw [un_not]
    refine Gd_i (fun hb => ?_) fun hb => leaf1 hK3 fun h hh => by
      rw [hh]
      exact br_t (bad (fun hn => by rw [hn.2.2.1] at hb; cases hb) _)
    have c3 : regValid rs = true := by simpa using hb
    rw [(hv.ext x02).len, bin_eql]
    refine leaf1 hK3 fun h hh => ?_
    rw [hh]
    exact Br_i (fun hb => bad (fun hn => by have := dec_t hb; omega) _) fun hb => hK _ ⟨rfl, c1, c2, c3, by have := dec_f hb; omega⟩
theorem rwrite_ret {s : SVeh} {v : Veh.V} {e : SEntry} (hok : VehOk v) (he : e.Ok) (w : World) (hv : VehIs w s v) : Ret Tryz.prog 20 #[.agg s.cells.toArray, .agg e.cells.toArray] w (VehQ s v (Veh.writeV v e) w) := by
  refine ret_of (fun _ _ => sh_landfallref41_Write_ok _ _) fun R hR => ?_
  unfold sh_landfallref41_Write
  refine box_i fun b2 w1 x1 hat2 hb2 _ => ?_
  refine box_i fun b3 w2 x2 hat3 hb3 _ => ?_
  refine alloc_i Ty.SVeh_zero fun b4 w3 x3 hat4 hb4 _ => ?_
  have hat4 : At w3 b4 (.cells SVeh.zero.cells.toArray 28 (0, 0)) := hat4
  have x03 := (x1.trans x2).trans x3
  have h2 := At.ext (At.ext hat2 x2) x3
  have h3 := At.ext hat3 x3
  have z1 := x1.size
  have z2 := x2.size
  have z3 := x3.size
  have hn24 : b2 ≠ b4 := by have := At.lt hat2; omega
  have hn32 : b3 ≠ b2 := by have := At.lt hat2; omega
  rw [SVeh.g_all (has_of_at h2)]
  refine callF_ret (rvalid_ret hok w3 (hv.ext x03)) ?_
  rintro _ w4 ⟨rfl, x4⟩
  rw [SEntry.g_all (has_of_at (h3.ext x4))]
  refine callF_ret (Form_ret e w4) ?_
  rintro _ w5 ⟨rfl, x5⟩
  have x35 := x4.trans x5
  have x05 := x03.trans x35
  have bad : ∀ W, Ext w5 W → ∀ (c : Int) (X0 : List PanicEntry → World → Prop), Veh.writeV v e = (Veh.zero, c) → DoV Tryz.prog (Instr.build 28 #[]) W (fun t w1 => DoU Tryz.prog (Instr.storeAt 28 (.pointer (some ⟨b4, 0, none⟩)) t) w1 (fun _ w2 => Res Tryz.prog [.cell (.pointer (some ⟨b4, 0, none⟩)) 28, .tmp (.int .i64 c)] w2 R) (Pan R)) X0 := fun W x c X0 hc =>
    veh_none (r := SVeh.zero) hR (x05.trans x) (by omega) ((hat4.ext x35).ext x) hc
  refine join0 (fun W => W = w5 ∧ Veh.valid v = true ∧ Rep.formed e = true) ?_ fun K hK => ?_
  · rintro _ W ⟨hW, hvv, hf⟩
    subst W
    have hV := Veh.valid_iff.1 hvv
    have hsm := Veh.ents_small hV
    rw [SVeh.g_up (has_of_at (h2.ext x35)), un_not, hv.2.2.2.2.2.1]
    refine Br_i (fun hb => bad _ (Ext.refl _) 6 _ (by unfold Veh.writeV; rw [if_neg (by rw [hvv, hf]; simp), if_pos (by simpa using hb)])) fun hb => ?_
    have hu : v.up = true := by simpa using hb
    have hent := (hv.ext x05).2.2.1.2.2
    rw [SVeh.g_log_ents (has_of_at (h2.ext x35)), SEntry.row_len hent]
    refine join0 (fun W => Ext w5 W ∧ Veh.nextOk v.log.ents e = true) ?_ fun K2 hK2 => ?_
    · rintro _ W9 ⟨x9, hnx⟩
      have x39 := x35.trans x9
      have x09 := x03.trans x39
      rw [SVeh.g_byts (has_of_at (h2.ext x39)), SEntry.g_all (has_of_at (h3.ext x39)), build_i (refRecord_new1 1 e)]
      have hbl := (Veh.up_of hV hu).2.2.2.2.1
      refine callF_ret (jrefPut_ret (r := ent e) (Veh.ent_ok he) (by omega) W9 (hv.ext x09).2.2.2.1) ?_
      rintro _ w10 ⟨vb, rfl, hvb, x10⟩
      rw [ext2_0, ext2_1, bin_neq]
      have hw : Veh.writeV v e = Veh.putV v (ent e) fun v b => { v with b := b, log := ⟨v.log.veh, v.log.rs, v.log.ents ++ [e]⟩ } := by
        unfold Veh.writeV
        rw [if_neg (by rw [hvv, hf]; simp), if_neg (by rw [hu]; simp), if_neg (by rw [hnx]; simp)]
      have x310 := x39.trans x10
      refine Br_i (fun hb => ?_) fun hb => ?_
      · have hne : ¬ (jputV v.b (ent e)).2 = 0 := by simpa using hb
        refine bad _ (x9.trans x10) _ _ ?_
        rw [hw, Veh.putV, if_neg hne]
      · have h0 : (jputV v.b (ent e)).2 = 0 := by simpa using hb
        obtain ⟨db, rfl⟩ := Hdr.of_sl (Sl.of_owns hvb)
        have x010 := x03.trans x310
        rw [SVeh.g_log_ents (has_of_at (h2.ext x310))]
        refine SEntry.row_apps (SEntry.owns_nil w10.heap.size w10) (hv.ext x010).2.2.1.2.2 (by simp; omega) (Nat.le_refl _) fun v11 w11 h11 m11 => ?_
        have x11 : Ext w10 w11 := m11.ext fun j _ hj => by simp [Value.ownBlock] at hj
        rw [List.nil_append] at h11
        rw [SEntry.g_all (has_of_at (h3.ext (x310.trans x11)))]
        refine SEntry.row_lit [e] rfl (by decide) (by decide) rfl fun v12 w12 x12 h12 _ => ?_
        refine SEntry.row_apps (Own.ext h11 x12) (Sl.of_owns h12) (by simp; omega) (by have := x11.size; have := x12.size; omega) fun v13 w13 h13 m13 => ?_
        obtain ⟨d13, rfl⟩ := Hdr.of_sl (Sl.of_owns h13)
        have x1013 : Ext w10 w13 := ((Mod.of_ext (x11.trans x12) : Mod (w10.heap.size ≤ ·) w10 w12).trans (m13.mono fun j _ hj => (Own.block (Own.ext h11 x12) hj).1)).new
        have x313 := x310.trans x1013
        refine SVeh.s_log_ents (h2.ext x313) fun w14 m14 h14 _ => ?_
        refine SVeh.s_byts h14 fun w15 m15 h15 _ => ?_
        rw [SVeh.g_all (has_of_at h15)]
        have h415 := (((hat4.ext x313).mod m14 hn24.symm).mod m15 hn24.symm)
        rw [show (Value.int .i64 0 : Value) = .int .i64 (Veh.writeV v e).2 by rw [hw, Veh.putV, if_pos h0]]
        refine veh_res (r := SVeh.zero) h415 fun W m16 => ?_
        have z313 := x313.size
        have z310 := x310.size
        have xW : Ext w W := ext_step (ext_step (ext_step (x03.trans x313) m14 (by omega)) m15 (by omega)) m16 (by omega)
        have off : ∀ {base : Nat} {t : TypeId} {sz n : Nat} {u : Value} {xs : List Value}, w13.ownsRow base t sz u n xs → 28 ≠ t → W.ownsRow base t sz u n xs := fun h hne => by
          have k1 := Own.mod h m14 (Own.off_at h (h2.ext x313) (Ne.symm hne))
          have k2 := Own.mod k1 m15 (Own.off_at k1 h14 (Ne.symm hne))
          exact Own.mod k2 m16 (Own.off_at k2 h415 (Ne.symm hne))
        refine hR _ _ ⟨_, rfl, xW, fun W' m' hvW => ?_⟩
        rw [hw, Veh.putV, if_pos h0]
        have := x09.size
        have := (x03.trans x310).size
        exact ⟨hvW.1, hvW.2.1, ⟨hvW.2.2.1.1, hvW.2.2.1.2.1, Sl.of_owns (Own.low (off h13 (by decide)) (by omega) (by decide) m')⟩, Sl.of_owns (Own.low (off (Own.ext hvb x1013) (by decide)) (by omega) (by decide) m'), hvW.2.2.2.2⟩
    · refine join_in fun K3 hK3 => ?_
      refine draw_ext fun w9 x9 => ?_
      have h39 : ∀ W', Ext w9 W' → Has W' b3 0 e.cells := fun W' x => has_of_at (((h3.ext x35).ext x9).ext x)
      have h29 : ∀ W', Ext w9 W' → Has W' b2 0 s.cells := fun W' x => has_of_at (((h2.ext x35).ext x9).ext x)
      have hbad : ∀ W', Ext w9 W' → Veh.nextOk v.log.ents e = false → ∀ (X0 : List PanicEntry → World → Prop), DoV Tryz.prog (Instr.build 28 #[]) W' (fun t w1 => DoU Tryz.prog (Instr.storeAt 28 (.pointer (some ⟨b4, 0, none⟩)) t) w1 (fun _ w2 => Res Tryz.prog [.cell (.pointer (some ⟨b4, 0, none⟩)) 28, .tmp (.int .i64 7)] w2 R) (Pan R)) X0 := fun W' x hn X0 =>
        bad W' (x9.trans x) 7 X0 (by
          unfold Veh.writeV
          rw [if_neg (by rw [hvv, hf]; simp), if_neg (by rw [hu]; simp), if_pos hn])
      refine det_read _ (fun w10 x10 K => Ty.SEntry_f0) ?_
      refine det_read (.int .i64 e.seq) (fun w10 x10 K => load_cell Ty.int_agg (has_at (h39 w10 x10) (d := 0) rfl rfl)) ?_
      refine det_read (.int .i64 ((v.log.ents.length : Int) + 1)) (fun w10 x10 K => by rw [bin_add, i64_wrap (by omega) (by omega)]) ?_
      refine det_read _ (fun w10 x10 K => bin_neq) ?_
      refine Gd_i (fun hb => ?_) fun hb => ?_
      · have hsq : e.seq = (v.log.ents.length : Int) + 1 := by simpa using hb
        refine det_read _ (fun w10 x10 K => bin_gtr) ?_
        refine Gd_i (fun hb2 => ?_) fun hb2 => ?_
        · have hb2 : 0 < v.log.ents.length := by have := dec_t hb2; omega
          refine det_read _ (fun w10 x10 K => Ty.SEntry_f1) ?_
          refine det_read (.int .i64 e.time) (fun w10 x10 K => load_cell Ty.int_agg (has_at (h39 w10 x10) (d := 1) rfl rfl)) ?_
          refine det_read _ (fun w10 x10 K => Ty.SVeh_f2) ?_
          refine det_read _ (fun w10 x10 K => Ty.SLog_f2) ?_
          refine det_read s.log.ents.val (fun w10 x10 K => load_cell Ty.ents_agg (has_at (h29 w10 x10) (d := 4) rfl rfl)) ?_
          refine det_read (.int .i64 ((v.log.ents.length - 1 : Nat) : Int)) (fun w10 x10 K => by rw [bin_sub, i64_wrap (by omega) (by omega), show (v.log.ents.length : Int) - 1 = ((v.log.ents.length - 1 : Nat) : Int) by omega]) ?_
          obtain ⟨bb, oo, hhe, _, hix⟩ := SEntry.row_at (Sl.ext hent x9) (show v.log.ents.length - 1 < v.log.ents.length by omega)
          have eg : v.log.ents[v.log.ents.length - 1]'(by omega) = Rep.el v.log.ents (v.log.ents.length - 1) := by rw [Rep.el_of (by omega)]
          rw [eg] at hhe
          refine det_read _ (fun w10 x10 K => hix w10 K _) ?_
          refine det_read _ (fun w10 x10 K => Ty.SEntry_f1) ?_
          refine det_read (.int .i64 (Rep.el v.log.ents (v.log.ents.length - 1)).time) (fun w10 x10 K => load_cell Ty.int_agg (has_at (hhe w10 x10) (d := 1) rfl rfl)) ?_
          intro w10 x10 _
          rw [bin_lss]
          refine leaf1 hK3 fun h hh => ?_
          rw [hh]
          refine Br_i (fun hb3 => hbad _ x10 ?_ _) fun hb3 => hK2 _ ⟨x9.trans x10, ?_⟩
          · have := dec_t hb3
            rw [Veh.nextOk, decide_eq_true hsq, decide_eq_false (show ¬ v.log.ents.length = 0 by omega), decide_eq_false (show ¬ (Rep.el v.log.ents (v.log.ents.length - 1)).time ≤ e.time by omega)]; rfl
          · have := dec_f hb3
            rw [Veh.nextOk, decide_eq_true hsq, decide_eq_true (show (Rep.el v.log.ents (v.log.ents.length - 1)).time ≤ e.time by omega), Bool.or_true]; rfl
        · have hb2 : v.log.ents.length = 0 := by have := dec_f hb2; omega
          intro w10 x10 _
          refine leaf1 hK3 fun h hh => ?_
          rw [hh]
          refine br_f (hK2 _ ⟨x9.trans x10, ?_⟩)
          rw [Veh.nextOk, decide_eq_true hsq, decide_eq_true hb2]; rfl
      · have hb : ¬ e.seq = (v.log.ents.length : Int) + 1 := by simpa using hb
        intro w10 x10 _
        refine leaf1 hK3 fun h hh => ?_
        rw [hh]
        refine br_t (hbad _ x10 ?_ _)
        rw [Veh.nextOk, decide_eq_false hb]; rfl
  · refine join_in fun K3 hK3 => ?_
    rw [un_not]
    refine Gd_i (fun hb => ?_) fun hb => leaf1 hK3 fun h hh => by
      rw [hh]
      refine br_t (bad _ (Ext.refl _) 1 _ ?_)
      unfold Veh.writeV
      rw [if_pos (.inl (by simpa using hb))]
    have hvv : Veh.valid v = true := by simpa using hb
    rw [un_not]
    refine leaf1 hK3 fun h hh => ?_
    rw [hh]
    refine Br_i (fun hb2 => bad _ (Ext.refl _) 1 _ ?_) fun hb2 => hK _ ⟨rfl, hvv, by simpa using hb2⟩
    unfold Veh.writeV
    rw [if_pos (.inr (by simpa using hb2))]
end Go.Proofs.YtoeblipchoglaaaGreatDoor
