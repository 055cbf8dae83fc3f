/- The walks of vehicles: Mark, Crash, Wake of the reference implementation; Same, Few. -/
import Derived.Test.YtoeblipchoglaaaGreatDoorZVehG
namespace Go.Proofs.YtoeblipchoglaaaGreatDoor
set_option maxRecDepth 100000
set_option maxHeartbeats 8000000
open Sh Go.RowKit
theorem rmark_ret {s : SVeh} {v : Veh.V} (hok : VehOk v) (w : World) (hv : VehIs w s v) : Ret Tryz.prog 21 #[.agg s.cells.toArray] w (VehQ s v (Veh.markV v) w) := by
  refine ret_of (fun _ _ => sh_landfallref41_Mark_ok _) fun R hR => ?_
  unfold sh_landfallref41_Mark
  refine box_i fun b1 w1 x1 hat1 hb1 _ => ?_
  refine alloc_i Ty.SVeh_zero fun b2 w3 x3 hat2 hb2 _ => ?_
  have hat2 : At w3 b2 (.cells SVeh.zero.cells.toArray 28 (0, 0)) := hat2
  have x03 := x1.trans x3
  have h1 := At.ext hat1 x3
  have z1 := x1.size
  have z3 := x3.size
  have hn12 : b1 ≠ b2 := by have := At.lt hat1; omega
  rw [SVeh.g_all (has_of_at h1)]
  refine callF_ret (rvalid_ret hok w3 (hv.ext x03)) ?_
  rintro _ w5 ⟨rfl, x35⟩
  have x05 := x03.trans x35
  have bad : ∀ W, Ext w5 W → ∀ (c : Int) (X0 : List PanicEntry → World → Prop), Veh.markV v = (Veh.zero, c) → DoV Tryz.prog (Instr.build 28 #[]) W (fun t w1 => DoU Tryz.prog (Instr.storeAt 28 (.pointer (some ⟨b2, 0, none⟩)) t) w1 (fun _ w2 => Res Tryz.prog [.cell (.pointer (some ⟨b2, 0, none⟩)) 28, .tmp (.int .i64 c)] w2 R) (Pan R)) X0 := fun W x c X0 hc =>
    veh_none (r := SVeh.zero) hR (x05.trans x) (by omega) ((hat2.ext x35).ext x) hc
  rw [un_not]
  refine Br_i (fun hb => bad _ (Ext.refl _) 1 _ (by unfold Veh.markV; rw [if_pos (by simpa using hb)])) fun hb => ?_
  have hvv : Veh.valid v = true := by simpa using hb
  rw [SVeh.g_up (has_of_at (h1.ext x35)), un_not, hv.2.2.2.2.2.1]
  refine Br_i (fun hb => bad _ (Ext.refl _) 6 _ (by unfold Veh.markV; rw [if_neg (by rw [hvv]; simp), if_pos (by simpa using hb)])) fun hb => ?_
  have hu : v.up = true := by simpa using hb
  have hV := Veh.valid_iff.1 hvv
  have hsm := Veh.ents_small hV
  have hbl := (Veh.up_of hV hu).2.2.2.2.1
  have hmk : Veh.markV v = Veh.putV v (chk v.log.ents.length (Rep.carry (Rep.begin v.id) v.log.ents)) fun v b => { v with b := b, sure := b.length } := by
    unfold Veh.markV
    rw [if_neg (by rw [hvv]; simp), if_neg (by rw [hu]; simp)]
  refine draw_ext fun w6 x6 => ?_
  have x06 := x05.trans x6
  have hg6 : ∀ W', Ext w6 W' → Has W' b1 0 s.cells := fun W' x => has_of_at (((h1.ext x35).ext x6).ext x)
  refine det_read _ (fun w7 x7 K => Ty.SVeh_f0) ?_
  refine det_read (.int .i64 v.id) (fun w7 x7 K => load_cell Ty.int_agg (has_at (hg6 w7 x7) (d := 0) rfl (by rw [← hv.1]; rfl))) ?_
  refine det_ret _ (fun w7 x7 => Begin_ret hok.1 w7) ?_
  refine det_read _ (fun w7 x7 K => Ty.SVeh_f2) ?_
  refine det_read _ (fun w7 x7 K => Ty.SLog_f2) ?_
  refine det_read s.log.ents.val (fun w7 x7 K => load_cell Ty.ents_agg (has_at (hg6 w7 x7) (d := 4) rfl rfl)) ?_
  intro w7 x7 _
  have x07 := x06.trans x7
  refine callF_ret (Carry_ret _ hok.2.2.1.2.2 w7 (hv.ext x07).2.2.1.2.2) ?_
  rintro _ w8 ⟨rfl, x8⟩
  have x58 := (x6.trans x7).trans x8
  have x38 := x35.trans x58
  have x08 := x03.trans x38
  rw [SVeh.g_byts (has_of_at (h1.ext x38)), SVeh.g_log_ents (has_of_at (h1.ext x38)), SEntry.row_len (hv.ext x08).2.2.1.2.2, build_i (refRecord_new2 2 _ _)]
  refine callF_ret (jrefPut_ret (r := chk v.log.ents.length (Rep.carry (Rep.begin v.id) v.log.ents)) (Veh.chk_ok hsm _).2 (by omega) w8 (hv.ext x08).2.2.2.1) ?_
  rintro _ w9 ⟨vb, rfl, hvb, x9⟩
  rw [ext2_0, ext2_1, bin_neq]
  have x39 := x38.trans x9
  have x09 := x03.trans x39
  refine Br_i (fun hb => ?_) fun hb => ?_
  · have hne : ¬ (jputV v.b (chk v.log.ents.length (Rep.carry (Rep.begin v.id) v.log.ents))).2 = 0 := by simpa using hb
    refine bad _ (x58.trans x9) _ _ ?_
    rw [hmk, Veh.putV, if_neg hne]
  · have h0 : (jputV v.b (chk v.log.ents.length (Rep.carry (Rep.begin v.id) v.log.ents))).2 = 0 := by simpa using hb
    obtain ⟨db, rfl⟩ := Hdr.of_sl (Sl.of_owns hvb)
    refine SVeh.s_byts (h1.ext x39) fun w10 m10 h10 _ => ?_
    have hvb10 := Own.mod hvb m10 (Own.off_at hvb (h1.ext x39) (by decide))
    rw [(Sl.of_owns hvb10).len Ty.bytes]
    refine SVeh.s_sure h10 fun w11 m11 h11 _ => ?_
    rw [SVeh.g_all (has_of_at h11)]
    have h211 := (((hat2.ext x39).mod m10 hn12.symm).mod m11 hn12.symm)
    rw [show (Value.int .i64 0 : Value) = .int .i64 (Veh.markV v).2 by rw [hmk, Veh.putV, if_pos h0]]
    refine veh_res (r := SVeh.zero) h211 fun W m12 => ?_
    have z39 := x39.size
    have xW : Ext w W := ext_step (ext_step (ext_step x09 m10 (by omega)) m11 (by omega)) m12 (by omega)
    have k2 := Own.mod hvb10 m11 (Own.off_at hvb10 h10 (by decide))
    have k3 := Own.mod k2 m12 (Own.off_at k2 h211 (by decide))
    refine hR _ _ ⟨_, rfl, xW, fun W' m' hvW => ?_⟩
    rw [hmk, Veh.putV, if_pos h0]
    exact ⟨hvW.1, hvW.2.1, hvW.2.2.1, Sl.of_owns (Own.low k3 (by have := x08.size; omega) (by decide) m'), rfl, hvW.2.2.2.2.2⟩
theorem rcrash_ret {s : SVeh} {v : Veh.V} {n : Int} (hok : VehOk v) (w : World) (hv : VehIs w s v) : Ret Tryz.prog 22 #[.agg s.cells.toArray, .int .i64 n] w (VehQ s v (Veh.crashV v n) w) := by
  refine ret_of (fun _ _ => sh_landfallref41_Crash_ok _ _) fun R hR => ?_
  unfold sh_landfallref41_Crash
  refine box_i fun b1 w1 x1 hat1 hb1 _ => ?_
  refine alloc_i Ty.SVeh_zero fun b2 w3 x3 hat2 hb2 _ => ?_
  have hat2 : At w3 b2 (.cells SVeh.zero.cells.toArray 28 (0, 0)) := hat2
  have x03 := x1.trans x3
  have h1 := At.ext hat1 x3
  have z1 := x1.size
  have z3 := x3.size
  have hn12 : b1 ≠ b2 := by have := At.lt hat1; omega
  rw [SVeh.g_all (has_of_at h1)]
  refine callF_ret (rvalid_ret hok w3 (hv.ext x03)) ?_
  rintro _ w5 ⟨rfl, x35⟩
  have x05 := x03.trans x35
  have bad : ∀ (c : Int) (X0 : List PanicEntry → World → Prop), Veh.crashV v n = (Veh.zero, c) → DoV Tryz.prog (Instr.build 28 #[]) w5 (fun t w1 => DoU Tryz.prog (Instr.storeAt 28 (.pointer (some ⟨b2, 0, none⟩)) t) w1 (fun _ w2 => Res Tryz.prog [.cell (.pointer (some ⟨b2, 0, none⟩)) 28, .tmp (.int .i64 c)] w2 R) (Pan R)) X0 := fun c X0 hc =>
    veh_none (r := SVeh.zero) hR x05 (by omega) (hat2.ext x35) hc
  rw [un_not]
  refine Br_i (fun hb => bad 1 _ (by unfold Veh.crashV; rw [if_pos (by simpa using hb)])) fun hb => ?_
  have hvv : Veh.valid v = true := by simpa using hb
  rw [SVeh.g_up (has_of_at (h1.ext x35)), un_not, hv.2.2.2.2.2.1]
  refine Br_i (fun hb => bad 6 _ (by unfold Veh.crashV; rw [if_neg (by rw [hvv]; simp), if_pos (by simpa using hb)])) fun hb => ?_
  have hu : v.up = true := by simpa using hb
  refine join0 (fun W => W = w5 ∧ ¬ (n < v.sure ∨ (v.b.length : Int) < n)) ?_ fun K hK => ?_
  · rintro _ W ⟨hW, hno⟩
    subst W
    have hV := Veh.valid_iff.1 hvv
    have hs0 := (Veh.ends_le hV.2.2.2).1
    obtain ⟨k, rfl⟩ : ∃ k : Nat, n = k := ⟨n.toNat, by omega⟩
    have hkl : k ≤ v.b.length := by omega
    have hbl := (Veh.up_of hV hu).2.2.2.2.1
    refine lit_nobytes fun v6 w6 x6 h6 _ => ?_
    have x36 := x35.trans x6
    rw [SVeh.g_byts (has_of_at (h1.ext x36))]
    refine up_bytes (hv.ext (x03.trans x36)).2.2.2.1 hkl fun vs hs => ?_
    refine app_bytes h6 hs (by simp; omega) x6.size fun v7 w7 h7 m7 => ?_
    rw [List.nil_append] at h7
    have x57 : Ext w5 w7 := ((Mod.of_ext x6 : Mod (w5.heap.size ≤ ·) w5 w6).trans (m7.mono fun j _ hj => (Own.block h6 hj).1)).new
    obtain ⟨d, rfl⟩ := Hdr.of_sl (Sl.of_owns h7)
    have x37 := x35.trans x57
    have x07 := x03.trans x37
    refine SVeh.s_byts (h1.ext x37) fun w8 m8 h8 _ => ?_
    have e0 : (Value.slice none 0 0) = (⟨none, 0, 0⟩ : Hdr).val := rfl
    rw [e0]
    refine SVeh.s_log_ents h8 fun w9 m9 h9 _ => ?_
    refine SVeh.s_up h9 fun w10 m10 h10 _ => ?_
    rw [SVeh.g_all (has_of_at h10)]
    have z37 := x37.size
    have h210 := (((hat2.ext x37).mod m8 hn12.symm).mod m9 hn12.symm).mod m10 hn12.symm
    refine veh_res (r := SVeh.zero) h210 fun W m11 => ?_
    have xW : Ext w W := ext_step (ext_step (ext_step (ext_step x07 m8 (by omega)) m9 (by omega)) m10 (by omega)) m11 (by omega)
    have k1 := Own.mod h7 m8 (Own.off_at h7 (h1.ext x37) (by decide))
    have k2 := Own.mod k1 m9 (Own.off_at k1 h8 (by decide))
    have k3 := Own.mod k2 m10 (Own.off_at k2 h9 (by decide))
    have k4 := Own.mod k3 m11 (Own.off_at k3 h210 (by decide))
    have ec : Veh.crashV v k = ({ v with b := v.b.take k, log := ⟨v.log.veh, v.log.rs, []⟩, up := false }, 0) := by
      unfold Veh.crashV
      rw [if_neg (by rw [hvv]; simp), if_neg (by rw [hu]; simp), if_neg hno]; rfl
    refine hR _ _ ⟨_, by rw [ec], xW, fun W' m' hvW => ?_⟩
    rw [ec]
    exact ⟨hvW.1, hvW.2.1, ⟨hvW.2.2.1.1, hvW.2.2.1.2.1, SEntry.row_nil _⟩, Sl.of_owns (Own.low k4 (by have := x05.size; omega) (by decide) m'), hvW.2.2.2.2.1, rfl, hvW.2.2.2.2.2.2⟩
  · refine join_in fun K3 hK3 => ?_
    have out : (n < v.sure ∨ (v.b.length : Int) < n) → Veh.crashV v n = (Veh.zero, 1) := fun h => by
      unfold Veh.crashV
      rw [if_neg (by rw [hvv]; simp), if_neg (by rw [hu]; simp), if_pos h]
    rw [SVeh.g_sure (has_of_at (h1.ext x35)), hv.2.2.2.2.1, bin_lss]
    refine Gd_i (fun hb => ?_) fun hb => leaf1 hK3 fun h hh => by
      rw [hh]
      exact br_t (bad 1 _ (out (.inl (dec_t hb))))
    have hb1 := dec_f hb
    rw [SVeh.g_byts (has_of_at (h1.ext x35)), (hv.ext x05).2.2.2.1.len Ty.bytes, bin_gtr]
    refine leaf1 hK3 fun h hh => ?_
    rw [hh]
    exact Br_i (fun hb2 => bad 1 _ (out (.inr (dec_t hb2)))) fun hb2 => hK _ ⟨rfl, fun h => h.elim hb1 (dec_f hb2)⟩
theorem rwake_ret {s : SVeh} {v : Veh.V} (hok : VehOk v) (w : World) (hv : VehIs w s v) : Ret Tryz.prog 23 #[.agg s.cells.toArray] w (VehQ s v (Veh.wakeV v) w) := by
  refine ret_of (fun _ _ => sh_landfallref41_Wake_ok _) fun R hR => ?_
  unfold sh_landfallref41_Wake
  refine box_i fun b1 w1 x1 hat1 hb1 _ => ?_
  refine alloc_i Ty.SVeh_zero fun b2 w3 x3 hat2 hb2 _ => ?_
  have hat2 : At w3 b2 (.cells SVeh.zero.cells.toArray 28 (0, 0)) := hat2
  have x03 := x1.trans x3
  have h1 := At.ext hat1 x3
  have z1 := x1.size
  have z3 := x3.size
  have hn12 : b1 ≠ b2 := by have := At.lt hat1; omega
  rw [SVeh.g_all (has_of_at h1)]
  refine callF_ret (rvalid_ret hok w3 (hv.ext x03)) ?_
  rintro _ w5 ⟨rfl, x35⟩
  have x05 := x03.trans x35
  have bad : ∀ (c : Int) (X0 : List PanicEntry → World → Prop), Veh.wakeV v = (Veh.zero, c) → DoV Tryz.prog (Instr.build 28 #[]) w5 (fun t w1 => DoU Tryz.prog (Instr.storeAt 28 (.pointer (some ⟨b2, 0, none⟩)) t) w1 (fun _ w2 => Res Tryz.prog [.cell (.pointer (some ⟨b2, 0, none⟩)) 28, .tmp (.int .i64 c)] w2 R) (Pan R)) X0 := fun c X0 hc =>
    veh_none (r := SVeh.zero) hR x05 (by omega) (hat2.ext x35) hc
  rw [un_not]
  refine Br_i (fun hb => bad 1 _ (by unfold Veh.wakeV; rw [if_pos (by simpa using hb)])) fun hb => ?_
  have hvv : Veh.valid v = true := by simpa using hb
  rw [SVeh.g_up (has_of_at (h1.ext x35)), hv.2.2.2.2.2.1]
  refine Br_i (fun hb => bad 6 _ (by unfold Veh.wakeV; rw [if_neg (by rw [hvv]; simp), if_pos hb])) fun hu => ?_
  have hV := Veh.valid_iff.1 hvv
  obtain ⟨o, ho, ec⟩ := Veh.wake_ok hV hu
  rw [SVeh.g_byts (has_of_at (h1.ext x35)), SVeh.g_id (has_of_at (h1.ext x35)), hv.1]
  refine callF_ret (rsays_ret hok.1 w5 (hv.ext x05).2.2.2.1) ?_
  rintro _ w6 ⟨xe, rfl, hxe, x6⟩
  rw [ho] at hxe ⊢
  have hxe : SEntry.Owns w5.heap.size w6 xe o := hxe
  obtain ⟨de, rfl⟩ := Hdr.of_sl (Sl.of_owns hxe)
  rw [ext3_0, ext3_1, ext3_2]
  show DoV _ _ _ _ _
  have e1 : (if (some o).isSome = true then (((Jou.load v.b).2 : Nat) : Int) else 0) = ((Jou.load v.b).2 : Nat) := rfl
  rw [e1]
  have hwl : (Jou.load v.b).2 ≤ v.b.length := (Veh.load_inv v.b).2.2.2.1
  have hbl := (Veh.says_iff.1 ho).1
  refine lit_nobytes fun v7 w7 x7 h7 _ => ?_
  have x37 := (x35.trans x6).trans x7
  rw [SVeh.g_byts (has_of_at (h1.ext x37))]
  refine up_bytes (hv.ext (x03.trans x37)).2.2.2.1 hwl fun vs hs => ?_
  refine app_bytes h7 hs (by simp; omega) x7.size fun v8 w8 h8 m8 => ?_
  rw [List.nil_append] at h8
  have x68 : Ext w6 w8 := ((Mod.of_ext x7 : Mod (w6.heap.size ≤ ·) w6 w7).trans (m8.mono fun j _ hj => (Own.block h7 hj).1)).new
  obtain ⟨d, rfl⟩ := Hdr.of_sl (Sl.of_owns h8)
  have x38 := (x35.trans x6).trans x68
  have x08 := x03.trans x38
  have hxe8 := Own.ext hxe x68
  refine SVeh.s_byts (h1.ext x38) fun w9 m9 h9 _ => ?_
  refine SVeh.s_sure h9 fun w10 m10 h10 _ => ?_
  refine SVeh.s_log_ents h10 fun w11 m11 h11 _ => ?_
  refine SVeh.s_up h11 fun w12 m12 h12 _ => ?_
  rw [SVeh.g_all (has_of_at h12)]
  have z38 := x38.size
  have h212 := ((((hat2.ext x38).mod m9 hn12.symm).mod m10 hn12.symm).mod m11 hn12.symm).mod m12 hn12.symm
  refine veh_res (r := SVeh.zero) h212 fun W m13 => ?_
  have xW : Ext w W := ext_step (ext_step (ext_step (ext_step (ext_step x08 m9 (by omega)) m10 (by omega)) m11 (by omega)) m12 (by omega)) m13 (by omega)
  have off : ∀ {base : Nat} {t : TypeId} {sz n : Nat} {u : Value} {xs : List Value}, w8.ownsRow base t sz u n xs → 28 ≠ t → W.ownsRow base t sz u n xs := fun h hne => by
    have k1 := Own.mod h m9 (Own.off_at h (h1.ext x38) (Ne.symm hne))
    have k2 := Own.mod k1 m10 (Own.off_at k1 h9 (Ne.symm hne))
    have k3 := Own.mod k2 m11 (Own.off_at k2 h10 (Ne.symm hne))
    have k4 := Own.mod k3 m12 (Own.off_at k3 h11 (Ne.symm hne))
    exact Own.mod k4 m13 (Own.off_at k4 h212 (Ne.symm hne))
  refine hR _ _ ⟨_, by rw [ec], xW, fun W' m' hvW => ?_⟩
  rw [ec]
  exact ⟨hvW.1, hvW.2.1, ⟨hvW.2.2.1.1, hvW.2.2.1.2.1, Sl.of_owns (Own.low (off hxe8 (by decide)) (by have := x05.size; omega) (by decide) m')⟩, Sl.of_owns (Own.low (off h8 (by decide)) (by have := x05.size; have := x6.size; omega) (by decide) m'), rfl, rfl, hvW.2.2.2.2.2.2⟩
theorem rpts_ret {x y : Value} {l : List SPoint} (w : World) (hx : SPoint.Row w x l) (hy : SPoint.Row w y l) : Ret Tryz.prog 90 #[x, y] w fun r w' => r = .bool true ∧ Ext w w' := by
  refine ret_of (fun _ _ => sh_landfallref03_Same_ok _ _) fun R hR => ?_
  unfold sh_landfallref03_Same
  have hle := hx.le
  rw [SPoint.row_len hx, SPoint.row_len hy, bin_neq, decide_eq_true rfl]
  refine br_f ?_
  refine loop1 (fun x W => ∃ k : Nat, k ≤ l.length ∧ x = .int .i64 k ∧ Ext w W) (fun x _ => l.length - (intOf x).toNat) ⟨0, by omega, rfl, Ext.refl _⟩ ?_
  rintro h _ W hz ⟨k, hk, rfl, xW⟩ K hK
  rw [SPoint.row_len (Sl.ext hx xW), hz, bin_lss]
  refine Br_i (fun hb => ?_) fun hb => hR _ _ ⟨rfl, xW⟩
  have hlt : k < l.length := by have := dec_t hb; omega
  obtain ⟨b, o, hhas, _, hix⟩ := SPoint.row_at hx hlt
  obtain ⟨b2, o2, hhas2, _, hix2⟩ := SPoint.row_at hy hlt
  refine draw_ext fun w2 x2 => ?_
  refine det_read _ (fun w3 x3 K => hix w3 K _) ?_
  refine det_read _ (fun w3 x3 K => SPoint.g_all (hhas w3 (xW.trans (x2.trans x3)))) ?_
  refine det_read _ (fun w3 x3 K => hix2 w3 K _) ?_
  refine det_read _ (fun w3 x3 K => SPoint.g_all (hhas2 w3 (xW.trans (x2.trans x3)))) ?_
  intro w3 x3 _
  rw [SPoint.neq, decide_eq_true rfl]
  refine br_f ?_
  rw [bin_add, i64_wrap (by omega) (by omega)]
  exact hK _ _ ⟨k + 1, by omega, by simp, xW.trans (x2.trans x3)⟩ (by simp [intOf]; omega)
theorem RL.at2 {w : World} {v : Value} {rs : List (List SPoint)} (h : RL w v rs) {k : Nat} (hk : k < rs.length) : ∃ u b o, SPoint.Row w u rs[k] ∧ (∀ (w1 : World) (K : Value → World → Prop) (X : List PanicEntry → World → Prop), DoV Tryz.prog (Instr.indexAt 22 v (.int .i64 k)) w1 K X = K (.pointer (some ⟨b, o, none⟩)) w1) ∧
    ∀ (w1 : World), Ext w w1 → ∀ (K : Value → World → Prop) (X : List PanicEntry → World → Prop), DoV Tryz.prog (Instr.loadAt 53 (.pointer (some ⟨b, o, none⟩))) w1 K X = K u w1 := by
  obtain ⟨vs, h1, h2⟩ := h
  obtain ⟨i, hi, hz, hs, hby⟩ := Ty.info_parts Ty.points_info
  have hvl : vs.length = rs.length := by have := h1.length; omega
  obtain ⟨b, o, hcell, hb, hix⟩ := h1.index Ty.polys hi hs (k := .i64) hk (by decide)
  have hu : vs[k]? = some (vs[k]'(by omega)) := List.getElem?_eq_getElem _
  refine ⟨vs[k]'(by omega), b, o + k, h2 k _ _ hu (List.getElem?_eq_getElem hk), (by rw [Nat.mul_one] at hix; exact hix), fun w1 x1 K X => ?_⟩
  exact load_cell (fun w => show (isAgg 53).run Tryz.prog w = .ok false w by kernel_rfl) (cell_ext (hcell k _ hu) hb x1)
theorem rpolys_ret {x y : Value} {rs : List (List SPoint)} (w : World) (hx : RL w x rs) (hy : RL w y rs) : Ret Tryz.prog 64 #[x, y] w fun r w' => r = .bool true ∧ Ext w w' := by
  refine ret_of (fun _ _ => sh_landfallref07_Same_ok _ _) fun R hR => ?_
  unfold sh_landfallref07_Same
  have hle := hx.le
  rw [hx.len, hy.len, bin_neq, decide_eq_true rfl]
  refine br_f ?_
  refine loop1 (fun x W => ∃ k : Nat, k ≤ rs.length ∧ x = .int .i64 k ∧ Ext w W) (fun x _ => rs.length - (intOf x).toNat) ⟨0, by omega, rfl, Ext.refl _⟩ ?_
  rintro h _ W hz ⟨k, hk, rfl, xW⟩ K hK
  rw [(hx.ext xW).len, hz, bin_lss]
  refine Br_i (fun hb => ?_) fun hb => hR _ _ ⟨rfl, xW⟩
  have hlt : k < rs.length := by have := dec_t hb; omega
  obtain ⟨u, b, o, hu, hix, hld⟩ := hx.at2 hlt
  obtain ⟨u2, b2, o2, hu2, hix2, hld2⟩ := hy.at2 hlt
  refine draw_ext fun w2 x2 => ?_
  refine det_read _ (fun w3 x3 K => hix w3 K _) ?_
  refine det_read _ (fun w3 x3 K => hld w3 (xW.trans (x2.trans x3)) K _) ?_
  refine det_read _ (fun w3 x3 K => hix2 w3 K _) ?_
  refine det_read _ (fun w3 x3 K => hld2 w3 (xW.trans (x2.trans x3)) K _) ?_
  intro w3 x3 _
  have x03 := xW.trans (x2.trans x3)
  refine callF_ret (rpts_ret w3 (Sl.ext hu x03) (Sl.ext hu2 x03)) ?_
  rintro _ w4 ⟨rfl, x4⟩
  rw [un_not]
  refine br_f ?_
  rw [bin_add, i64_wrap (by omega) (by omega)]
  exact hK _ _ ⟨k + 1, by omega, by simp, x03.trans x4⟩ (by simp [intOf]; omega)
theorem sameLog_ret {s t : SLog} {L : Rep.Lg} (w : World) (hs : LogIs w s L) (ht : LogIs w t L) : Ret Tryz.prog 42 #[.agg s.cells.toArray, .agg t.cells.toArray] w fun r w' => r = .bool true ∧ Ext w w' := by
  refine ret_of (fun _ _ => sh_landfallref24_SameLog_ok _ _) fun R hR => ?_
  unfold sh_landfallref24_SameLog
  refine box_i fun b1 w1 x1 hat1 _ _ => ?_
  refine box_i fun b2 w2 x2 hat2 _ _ => ?_
  have x02 := x1.trans x2
  have h1 := At.ext hat1 x2
  rw [SLog.g_veh (has_of_at h1), SLog.g_veh (has_of_at hat2), bin_eql, decide_eq_true (show s.veh = t.veh by rw [hs.1, ht.1])]
  refine gd_t ?_
  rw [SLog.g_start (has_of_at h1), SLog.g_start (has_of_at hat2)]
  refine callF_ret (rpolys_ret w2 (hs.ext x02).2.1 (ht.ext x02).2.1) ?_
  rintro _ w3 ⟨rfl, x3⟩
  refine gd_t ?_
  rw [SLog.g_ents (has_of_at (h1.ext x3)), SLog.g_ents (has_of_at (At.ext hat2 x3))]
  have x03 := x02.trans x3
  refine callF_ret (SameEntries_ret w3 (hs.ext x03).2.2 (ht.ext x03).2.2) ?_
  rintro _ w4 ⟨rfl, x4⟩
  exact hR _ _ ⟨by rw [decide_eq_true rfl], x03.trans x4⟩
theorem vsame_ret {s t : SVeh} {v : Veh.V} (w : World) (hs : VehIs w s v) (ht : VehIs w t v) : Ret Tryz.prog 19 #[.agg s.cells.toArray, .agg t.cells.toArray] w fun r w' => r = .bool true ∧ Ext w w' := by
  refine ret_of (fun _ _ => sh_landfallref41_Same_ok _ _) fun R hR => ?_
  unfold sh_landfallref41_Same
  refine box_i fun b1 w1 x1 hat1 _ _ => ?_
  refine box_i fun b2 w2 x2 hat2 _ _ => ?_
  have x02 := x1.trans x2
  have h1 := At.ext hat1 x2
  rw [SVeh.g_log (has_of_at h1), SVeh.g_log (has_of_at hat2)]
  refine callF_ret (sameLog_ret w2 (hs.ext x02).2.2.1 (ht.ext x02).2.2.1) ?_
  rintro _ w3 ⟨rfl, x3⟩
  have g1 : Has w3 b1 0 s.cells := has_of_at (h1.ext x3)
  have g2 : Has w3 b2 0 t.cells := has_of_at (At.ext hat2 x3)
  have hs3 := hs.ext (x02.trans x3)
  have ht3 := ht.ext (x02.trans x3)
  refine gd_t ?_
  rw [SVeh.g_id g1, SVeh.g_id g2, bin_eql, decide_eq_true (show s.id = t.id by rw [hs.1, ht.1])]
  refine gd_t ?_
  rw [SVeh.g_ver g1, SVeh.g_ver g2, bin_eql, decide_eq_true (show s.ver = t.ver by rw [hs.2.1, ht.2.1])]
  refine gd_t ?_
  rw [SVeh.g_byts g1, str_conv hs3.2.2.2.1, SVeh.g_byts g2, str_conv ht3.2.2.2.1, bin_str_eql, beq_self_eq_true]
  refine gd_t ?_
  rw [SVeh.g_sure g1, SVeh.g_sure g2, bin_eql, decide_eq_true (show s.sure = t.sure by rw [hs.2.2.2.2.1, ht.2.2.2.2.1])]
  refine gd_t ?_
  rw [SVeh.g_up g1, SVeh.g_up g2, bool_eql Ty.bool, show s.up = t.up by rw [hs.2.2.2.2.2.1, ht.2.2.2.2.2.1], beq_self_eq_true]
  refine gd_t ?_
  rw [SVeh.g_used g1, SVeh.g_used g2, bin_eql, decide_eq_true (show s.used = t.used by rw [hs.2.2.2.2.2.2.1, ht.2.2.2.2.2.2.1])]
  refine gd_t ?_
  rw [SVeh.g_mode g1, SVeh.g_mode g2, bin_eql, decide_eq_true (show s.mode = t.mode by rw [hs.2.2.2.2.2.2.2, ht.2.2.2.2.2.2.2])]
  exact hR _ _ ⟨rfl, x02.trans x3⟩
theorem vfew_ret {s : SVeh} {v : Veh.V} (w : World) (hs : VehIs w s v) : Ret Tryz.prog 7 #[.agg s.cells.toArray] w fun r w' => (∃ b, r = .bool b ∧ (b = true → v.b.length ≤ 3000)) ∧ Ext w w' := by
  refine ret_of (fun _ _ => sh_landfallref41_Few_ok _) fun R hR => ?_
  unfold sh_landfallref41_Few
  refine box_i fun b1 w1 x1 hat1 _ _ => ?_
  rw [SVeh.g_log (has_of_at hat1)]
  refine callF_ret (Few_ret w1 (hs.ext x1).2.2.1) ?_
  rintro _ w2 ⟨⟨b, rfl, _⟩, x2⟩
  have x02 := x1.trans x2
  refine Gd_i (fun hb => ?_) fun hb => hR _ _ ⟨⟨_, rfl, fun h => by cases h⟩, x02⟩
  rw [SVeh.g_byts (has_of_at (At.ext hat1 x2)), (hs.ext x02).2.2.2.1.len Ty.bytes, bin_leq]
  exact hR _ _ ⟨⟨_, rfl, fun h => by have := dec_t h; omega⟩, x02⟩
end Go.Proofs.YtoeblipchoglaaaGreatDoor
