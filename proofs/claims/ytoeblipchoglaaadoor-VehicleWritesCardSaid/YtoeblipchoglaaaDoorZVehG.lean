/- The walks of vehicles: New of both, Write, Mark, Crash, Wake of the reference implementation; Same, Few. -/
import Derived.Test.YtoeblipchoglaaaDoorZVehF
set_option linter.unusedVariables false
set_option linter.unusedSimpArgs false
namespace Go.Proofs.YtoeblipchoglaaaDoor
set_option maxRecDepth 100000
set_option maxHeartbeats 8000000
open Sh Go.RowKit
theorem new_log1 (v : Int) : Tryd.prog.built 25 [(0, .int .i64 v)] = some (SLog.mk v ⟨none, 0, 0⟩ ⟨none, 0, 0⟩).cells.toArray := by kernel_rfl
theorem new_veh (a b : Int) (l : SLog) : Tryd.prog.built 28 [(0, .int .i64 a), (1, .int .i64 b), (2, .agg l.cells.toArray), (5, .bool true)] = some (SVeh.mk a b l ⟨none, 0, 0⟩ 0 true 0 0).cells.toArray := by kernel_rfl
theorem Hul.valid_small {l : List SPoint} (h : Hul.valid l = true) : l.length ≤ 64 := (Hul.valid_iff.1 h).1.1.2
theorem reg_small {rs : List (List SPoint)} (h : regValid rs = true) : rs.length ≤ 32 ∧ ∀ l ∈ rs, l.length ≤ 64 := by
  unfold regValid at h
  rw [Bool.and_eq_true, decide_eq_true_eq, List.all_eq_true] at h
  exact ⟨h.1, fun l hl => Hul.valid_small (h.2 l hl)⟩
def NewQ (u : Value) (rs : List (List SPoint)) (p : Veh.V × Int) (w : World) (r : Value) (w' : World) : Prop := ∃ g : SVeh, r = .tuple #[.agg g.cells.toArray, .int .i64 p.2] ∧ Ext w w' ∧ ∀ W, Mod (LowT w.heap.size w') w' W → RL W u rs → VehIs W g p.1
theorem new_none {b : Nat} {w0 w : World} {e : Int} {R : Ending → World → Prop} {u : Value} {rs : List (List SPoint)} {p : Veh.V × Int} {r : SVeh} {X0 : List PanicEntry → World → Prop} (hR : ∀ x w', NewQ u rs p w0 x w' → R (.returned x) w') (hx : Ext w0 w) (hb : w0.heap.size ≤ b) (hat : At w b (.cells r.cells.toArray 28 (0, 0)))
    (he : p = (Veh.zero, e)) : DoV Tryd.prog (Instr.build 28 #[]) w (fun t w1 => DoU Tryd.prog (Instr.storeAt 28 (.pointer (some ⟨b, 0, none⟩)) t) w1 (fun _ w2 => Res Tryd.prog [.cell (.pointer (some ⟨b, 0, none⟩)) 28, .tmp (.int .i64 e)] w2 R) (Pan R)) X0 := by
  rw [build_i new_noveh]
  refine veh_res (r := r) hat fun W m => ?_
  exact hR _ _ ⟨SVeh.zero, by rw [he], ext_step hx m hb, fun W _ _ => by rw [he]; exact VehIs.zero W⟩
theorem vnew_ret {id ver : Int} {u : Value} {rs : List (List SPoint)} (hok : ∀ l ∈ rs, ∀ p ∈ l, p.Ok) (w : World) (hv : RL w u rs) : Ret Tryd.prog 9 #[.int .i64 id, .int .i64 ver, u] w (NewQ u rs (Veh.newV id ver rs) w) := by
  refine ret_of (fun _ _ => sh_vehicle_New_ok _ _ _) fun R hR => ?_
  unfold sh_vehicle_New
  refine alloc_i Ty.SVeh_zero fun b6 w1 x1 hat6 hb6 _ => ?_
  have hat6 : At w1 b6 (.cells SVeh.zero.cells.toArray 28 (0, 0)) := hat6
  have z1 := x1.size
  have bad : ∀ W, Ext w1 W → ¬ (Rep.isID id = true ∧ Rep.isID ver = true ∧ regValid rs = true ∧ 0 < rs.length) → ∀ (X0 : List PanicEntry → World → Prop), DoV Tryd.prog (Instr.build 28 #[]) W (fun t w1 => DoU Tryd.prog (Instr.storeAt 28 (.pointer (some ⟨b6, 0, none⟩)) t) w1 (fun _ w2 => Res Tryd.prog [.cell (.pointer (some ⟨b6, 0, none⟩)) 28, .tmp (.int .i64 1)] w2 R) (Pan R)) X0 := fun W x hn X0 =>
    new_none (r := SVeh.zero) hR (x1.trans x) (by omega) (hat6.ext x) (by unfold Veh.newV; rw [if_neg hn])
  refine join0 (fun W => Ext w1 W ∧ Rep.isID id = true ∧ Rep.isID ver = true ∧ regValid rs = true ∧ 0 < rs.length) ?_ fun K hK => ?_
  · rintro _ W ⟨xW, hc⟩
    have hsm := reg_small hc.2.2.1
    rw [build_i (new_log1 id)]
    refine SLog.var fun b8 w3 x3 hat8 hb8 => ?_
    have x13 := xW.trans x3
    have x03 := x1.trans x13
    rw [(hv.ext x03).len]
    have hne : b8 ≠ b6 := by have := hat6.lt; have := xW.size; omega
    obtain ⟨ip, hip, hzp, hsp, hbp⟩ := Ty.info_parts Ty.points_info
    refine loop1 (fun x W' => ∃ k : Nat, k ≤ rs.length ∧ x = .int .i64 k ∧ Mod (fun j => j = b8 ∨ w3.heap.size ≤ j) w3 W' ∧ ∃ (hd : Hdr) (vs : List Value), At W' b8 (.cells (SLog.mk id hd ⟨none, 0, 0⟩).cells.toArray 25 (0, 0)) ∧ W'.ownsRow w3.heap.size 43 1 hd.val k vs ∧ ∀ (j : Nat) (u : Value) (l : List SPoint), vs[j]? = some u → rs[j]? = some l → SPoint.Owns w3.heap.size W' u l) (fun x _ => rs.length - (intOf x).toNat) ⟨0, by omega, rfl, Mod.refl _ _, ⟨none, 0, 0⟩, [], hat8, Own.nil _ _ _ _, fun j u l h => by simp at h⟩ ?_
    rintro h _ W4 hx ⟨k, hk, rfl, m4, hd, vs, h84, hown, hrow⟩ K2 hK2
    have x14 : Ext w1 W4 := ext_mod x13 (by have := xW.size; omega) m4
    have x04 := x1.trans x14
    have h64 : At W4 b6 (.cells SVeh.zero.cells.toArray 28 (0, 0)) := hat6.ext x14
    have hvl : vs.length = k := by have := (Sl.of_owns hown).length; omega
    rw [hx, bin_lss]
    refine Br_i (fun hb => ?_) fun hb => ?_
    · have hlt : k < rs.length := by have := dec_t hb; omega
      obtain ⟨p, hp, hix⟩ := (hv.ext x04).at_ hlt
      rw [hix W4 (Ext.refl _)]
      have hpl : rs[k].length ≤ 64 := hsm.2 _ (List.getElem_mem hlt)
      refine drawRX fun w5 x5 _ => ?_
      refine det_rx _ (fun w6 x6 K => Ty.SLog_f1) ?_
      refine det_rx hd.val (fun w6 x6 K => load_cell Ty.hdr22 (has_at (has_of_at ((h84.ext x5).ext x6)) (d := 1) rfl rfl)) ?_
      refine thr_x (fun us W' => ∃ u1 u2, us = [u1, u2] ∧ SPoint.Owns w5.heap.size W' u1 rs[k] ∧ Sl W' 1 u2 1 [u1]) ?_ ?_
      · refine nd_x (fun u W' => SPoint.Owns w5.heap.size W' u rs[k]) (fun u a b h x => Own.ext h x) (fun w6 x6 _ => ?_) fun u1 => ?_
        · refine callF_ret (clonePoints_ret w6 (Sl.ext hp (x5.trans x6)) (by omega)) ?_
          rintro u w7 ⟨h7, x7⟩
          exact ⟨x7, Own.mono h7 x6.size⟩
        refine nd_x (fun u W' => SPoint.Owns w5.heap.size W' u1 rs[k] ∧ Sl W' 1 u 1 [u1]) (fun u a b h x => ⟨Own.ext h.1 x, Sl.ext h.2 x⟩) (fun w6 x6 h6 => ?_) fun u2 => ?_
        · refine litn_i [u1] Ty.polys hip hsp hzp (fun v hv => by rw [List.mem_singleton] at hv; subst hv; exact Sl.cells (Sl.of_owns h6)) rfl (by decide) (by decide) rfl fun u w7 x7 h7 _ => ?_
          exact ⟨x7, Own.ext h6 x7, Sl.of_owns h7⟩
        · rintro w6 x6 ⟨h6, h7⟩
          exact ⟨u1, u2, rfl, h6, h7⟩
      rintro hh w6 x6 ⟨_, _, u1, u2, e1, hu1, hu2⟩
      simp only [List.cons.injEq, and_true] at e1
      obtain ⟨_, e1⟩ := e1
      rw [e1]
      have x46 := x5.trans x6
      have zz := m4.size
      have z5 := x5.size
      refine app_own (n := k) (m := 1) Ty.polys hip hzp hsp hbp rfl (by decide) (Own.ext hown x46) hu2 (fun u hu => by rw [List.mem_singleton] at hu; subst hu; exact Sl.one (Sl.of_owns hu1)) (by omega) (by omega) (by have := x46.size; omega) fun v7 w7 h7 m7 _ => ?_
      obtain ⟨d7, rfl⟩ := Hdr.of_sl (Sl.of_owns h7)
      have h87 := (h84.ext x46).mod m7 fun hh => Own.off_at (Own.ext hown x46) (h84.ext x46) (by decide) b8 hh rfl
      refine SLog.s_start h87 fun w8 m8 h88 _ => ?_
      rw [bin_add, i64_wrap (by omega) (by omega)]
      have m78 : Mod (fun j => j = b8 ∨ w3.heap.size ≤ j) w3 w8 := ((m4.trans (.of_ext x46)).trans (m7.mono fun j _ hj => .inr (Own.block (Own.ext hown x46) hj).1)).trans (m8.mono fun _ _ => .inl)
      have keep : ∀ {u : Value} {l : List SPoint} {base : Nat}, SPoint.Owns base w6 u l → SPoint.Owns base w8 u l := fun h => by
        have k1 := Own.mod h m7 (Own.off_own (Own.ext hown x46) h (by decide))
        exact Own.mod k1 m8 (Own.off_at k1 h87 (by decide))
      refine hK2 _ _ ⟨k + 1, by omega, by simp, m78, d7, vs ++ [u1], h88, Own.mod h7 m8 (Own.off_at h7 h87 (by decide)), fun j u l hu hl => ?_⟩ (by simp [intOf]; omega)
      rcases Nat.lt_or_ge j vs.length with hj | hj
      · rw [List.getElem?_append_left hj] at hu
        exact keep (Own.ext (hrow j u l hu hl) x46)
      · rw [List.getElem?_append_right hj] at hu
        have hj0 : j - vs.length = 0 := by
          rcases Nat.eq_zero_or_pos (j - vs.length) with h | h
          · exact h
          · rw [List.getElem?_eq_none (by simp; omega)] at hu; cases hu
        rw [hj0] at hu
        have : j = k := by omega
        subst this
        rw [List.getElem?_eq_getElem hlt] at hl
        cases hu; cases hl
        exact Own.mono (keep hu1) (by omega)
    · have hge : k = rs.length := by have := dec_f hb; omega
      subst hge
      rw [SLog.g_all (has_of_at h84), build_i (new_veh id ver _)]
      refine veh_res (r := SVeh.zero) h64 fun W m5 => ?_
      have e : Veh.newV id ver rs = (⟨id, ver, ⟨id, rs, []⟩, [], 0, true, 0, 0⟩, 0) := by unfold Veh.newV; rw [if_pos hc]
      refine hR _ _ ⟨_, by rw [e], ext_step x04 m5 (by omega), fun W' m' _ => ?_⟩
      rw [e]
      have hN : w.heap.size ≤ w3.heap.size := x03.size
      refine ⟨rfl, rfl, ⟨rfl, ⟨vs, Sl.of_owns (Own.low (Own.mod hown m5 (Own.off_at hown h64 (by decide))) hN (by decide) m'), fun j u l hu hl => ?_⟩, SEntry.row_nil _⟩, Sl.nil _ _, rfl, rfl, rfl, rfl⟩
      have := hrow j u l hu hl
      exact Sl.of_owns (Own.low (Own.mod this m5 (Own.off_at this h64 (by decide))) hN (by decide) m')
  · refine join_in fun K3 hK3 => ?_
    refine callF_same (vehID_ret _ w1) ?_
    rw [un_not]
    refine Gd_i (fun hb => ?_) fun hb => leaf1 hK3 fun h hh => by
      rw [hh]
      exact br_t (bad _ (Ext.refl _) (fun hn => by rw [hn.1] at hb; cases hb) _)
    have c1 : Rep.isID id = true := by simpa using hb
    refine callF_same (vehID_ret _ w1) ?_
    rw [un_not]
    refine Gd_i (fun hb => ?_) fun hb => leaf1 hK3 fun h hh => by
      rw [hh]
      exact br_t (bad _ (Ext.refl _) (fun hn => by rw [hn.2.1] at hb; cases hb) _)
    have c2 : Rep.isID ver = true := by simpa using hb
    refine callF_ret (regionValid_ret hok w1 (hv.ext x1)) ?_
    rintro _ w2 ⟨rfl, x2⟩
    rw [un_not]
    refine Gd_i (fun hb => ?_) fun hb => leaf1 hK3 fun h hh => by
      rw [hh]
      exact br_t (bad _ x2 (fun hn => by rw [hn.2.2.1] at hb; cases hb) _)
    have c3 : regValid rs = true := by simpa using hb
    rw [(hv.ext (x1.trans x2)).len, bin_eql]
    refine leaf1 hK3 fun h hh => ?_
    rw [hh]
    exact Br_i (fun hb => bad _ x2 (fun hn => by have := dec_t hb; omega) _) fun hb => hK _ ⟨x2, c1, c2, c3, by have := dec_f hb; omega⟩
end Go.Proofs.YtoeblipchoglaaaDoor
