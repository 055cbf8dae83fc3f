/- The walks of vehicles: put, New, Write, Mark, Crash, Wake. -/
import Derived.Test.YtoeblipchoglaaaGreatDoorZVehL
namespace Go.Proofs.YtoeblipchoglaaaGreatDoor
set_option maxRecDepth 100000
set_option maxHeartbeats 8000000
open Sh Go.RowKit
theorem slnil_bytes (a : Option Addr) (n c : Nat) (w : World) : (binS .eql 26 (.tmp 3) (.const (.slice none 0 0)) (.slice a n c) (.slice none 0 0)).run Tryz.prog w = .ok (.bool a.isNone) w := by
  cases a with
  | none => kernel_rfl
  | some a => kernel_rfl
theorem slnil_points (a : Option Addr) (n c : Nat) (w : World) : (binS .eql 53 (.tmp 3) (.const (.slice none 0 0)) (.slice a n c) (.slice none 0 0)).run Tryz.prog w = .ok (.bool a.isNone) w := by
  cases a with
  | none => kernel_rfl
  | some a => kernel_rfl
theorem SVeh.s_log_ents {s : SVeh} {x : Hdr} {b : Nat} {e : TypeId} {w : World} {K : Value → World → Prop} {X0 X1 X2 : List PanicEntry → World → Prop} (h : At w b (.cells s.cells.toArray e (0, 0))) (hk : ∀ w1, Mod (· = b) w w1 → At w1 b (.cells ({ s with log := { s.log with ents := x } } : SVeh).cells.toArray e (0, 0)) → w1.heap.size = w.heap.size → K undef w1) :
    DoV Tryz.prog (Instr.fieldAt 28 (.pointer (some ⟨b, 0, none⟩)) 2) w (fun a1 w1 => DoV Tryz.prog (Instr.fieldAt 25 a1 2) w1 (fun a2 w2 => DoU Tryz.prog (Instr.storeAt 23 a2 x.val) w2 K X0) X1) X2 := by
  rw [Ty.SVeh_f2, Ty.SLog_f2]
  exact store_i (o := 4) (fun w => show (sizeOf 23).run Tryz.prog w = .ok 1 w by kernel_rfl) h (by show 4 < 10; omega) rfl hk
theorem veh_res {g r : SVeh} {b : Nat} {w : World} {e : Int} {R : Ending → World → Prop} (hat : At w b (.cells r.cells.toArray 28 (0, 0))) (hk : ∀ W, Mod (· = b) w W → R (.returned (.tuple #[.agg g.cells.toArray, .int .i64 e])) W) :
    DoU Tryz.prog (Instr.storeAt 28 (.pointer (some ⟨b, 0, none⟩)) (.agg g.cells.toArray)) w (fun _ w2 => Res Tryz.prog [.cell (.pointer (some ⟨b, 0, none⟩)) 28, .tmp (.int .i64 e)] w2 R) (Pan R) := by
  refine SVeh.set (r := r) (s := g) hat fun w5 m5 h5 _ => ?_
  have hvv : (loadVar 28 ⟨b, 0, none⟩).run Tryz.prog w5 = .ok (.agg g.cells.toArray) w5 := loadVar_agg Ty.SVeh_agg Ty.SVeh_size (xs := g.cells) rfl (has_of_at h5)
  exact res_i (rv_cell hvv (rv_tmp (rv_nil w5))) (hk _ m5)
def VPutQ (s : SVeh) (v : Veh.V) (r : SRecord) (w : World) (x : Value) (w' : World) : Prop := ∃ g : SVeh, x = .tuple #[.agg g.cells.toArray, .int .i64 (jputV v.b r).2] ∧ Ext w w' ∧
  ((jputV v.b r).2 = 0 → ∃ d, g = { s with byts := d } ∧ w'.ownsRow w.heap.size 5 1 d.val (jputV v.b r).1.length (bv (jputV v.b r).1)) ∧ ((jputV v.b r).2 ≠ 0 → g = SVeh.zero)
theorem vput_ret {s : SVeh} {v : Veh.V} {r : SRecord} (hr : r.Ok) (hbl : v.b.length ≤ 1000000000000000) (w : World) (hv : Sl w 1 s.byts.val v.b.length (bv v.b)) : Ret Tryz.prog 27 #[.agg s.cells.toArray, .agg r.cells.toArray] w (VPutQ s v r w) := by
  refine ret_of (fun _ _ => sh_vehicle_put_ok _ _) fun R hR => ?_
  unfold sh_vehicle_put
  refine box_i fun b1 w1 x1 hat1 hb1 _ => ?_
  refine box_i fun b2 w2 x2 hat2 hb2 _ => ?_
  refine alloc_i Ty.SVeh_zero fun b3 w3 x3 hat3 hb3 _ => ?_
  have x03 := (x1.trans x2).trans x3
  have h1 := At.ext (At.ext hat1 x2) x3
  rw [SVeh.g_byts (has_of_at h1), SRecord.g_all (has_of_at (At.ext hat2 x3))]
  refine callF_ret (jPut_ret hr hbl w3 (hv.ext x03)) ?_
  rintro _ w4 ⟨vb, rfl, hown, x4⟩
  have x04 := x03.trans x4
  rw [ext2_0, ext2_1, bin_neq]
  have z1 := x1.size
  have z2 := x2.size
  have z3 := x3.size
  obtain ⟨d, rfl⟩ := Hdr.of_sl (Sl.of_owns hown)
  refine Br_i (fun hb => ?_) fun hb => ?_
  · have hne : (jputV v.b r).2 ≠ 0 := by simpa using hb
    rw [build_i new_noveh]
    refine veh_res (r := SVeh.zero) (At.ext hat3 x4) fun W m => ?_
    exact hR _ _ ⟨_, rfl, ext_step x04 m (by omega), fun h => absurd h hne, fun _ => rfl⟩
  · have he : (jputV v.b r).2 = 0 := by simpa using hb
    have hat3 : At w3 b3 (.cells SVeh.zero.cells.toArray 28 (0, 0)) := hat3
    refine SVeh.s_byts (h1.ext x4) fun w5 m5 h5 _ => ?_
    rw [SVeh.g_all (has_of_at h5)]
    have hne : b3 ≠ b1 := by have := At.lt hat1; omega
    rw [show (Value.int .i64 0 : Value) = .int .i64 (jputV v.b r).2 by rw [he]]
    refine veh_res (r := SVeh.zero) ((At.ext hat3 x4).mod m5 hne) fun W m => ?_
    refine hR _ _ ⟨_, rfl, ext_step (ext_step x04 m5 (by omega)) m (by omega), fun _ => ⟨d, rfl, ?_⟩, fun h => absurd he h⟩
    refine Own.mono (Own.mod (Own.mod hown m5 (Own.off_at hown (h1.ext x4) (by decide))) m fun j hj e => ?_) (by omega)
    have := Own.block hown hj
    have := At.lt hat3
    omega
theorem Veh.ents_small {v : Veh.V} (h : Veh.Valid v) : v.log.ents.length ≤ 2000 := (Rep.follows_iff.1 (Veh.valid_ents h)).1
theorem cloneBytes_ret {v : Value} {l : List UInt8} (w : World) (h : Sl w 1 v l.length (bv l)) (hl : l.length < 100000000) : Ret Tryz.prog 36 #[v] w fun r w' => w'.ownsRow w.heap.size 5 1 r l.length (bv l) ∧ Ext w w' := by
  refine ret_of (fun _ _ => sh_slices_Clone___byte_byte__ok _) fun R hR => ?_
  unfold sh_slices_Clone___byte_byte_
  obtain ⟨a, c, rfl, hr⟩ := id h
  rw [DoV_ok (slnil_bytes a l.length c w)]
  refine Br_i (fun hb => ?_) fun hb => ?_
  · cases a with
    | some _ => cases hb
    | none =>
      rcases hr.2.2.2 with h0 | ⟨_, _, h0, _⟩
      · have hl0 : l = [] := by
          cases l with
          | nil => rfl
          | cons x l => cases h0
        subst hl0
        exact hR _ _ ⟨Own.nil _ _ _ _, Ext.refl _⟩
      · cases h0
  · refine lit_nobytes fun v1 w1 x1 ho1 hs1 => ?_
    refine app_bytes ho1 (Sl.ext h x1) (by simp; omega) (by omega) fun v2 w2 ho2 m2 => ?_
    refine hR _ _ ⟨ho2, ?_⟩
    exact ((Mod.of_ext x1 : Mod (w.heap.size ≤ ·) w w1).trans (m2.mono fun k _ hk => (Own.block ho1 hk).1)).new
theorem clonePoints_ret {v : Value} {l : List SPoint} (w : World) (h : SPoint.Row w v l) (hl : l.length < 100000000) : Ret Tryz.prog 40 #[v] w fun r w' => SPoint.Owns w.heap.size w' r l ∧ Ext w w' := by
  refine ret_of (fun _ _ => sh_slices_Clone___api_Point_api_Point__ok _) fun R hR => ?_
  unfold sh_slices_Clone___api_Point_api_Point_
  obtain ⟨a, c, rfl, hr⟩ := id h
  rw [DoV_ok (slnil_points a l.length c w)]
  refine Br_i (fun hb => ?_) fun hb => ?_
  · cases a with
    | some _ => cases hb
    | none =>
      rcases hr.2.2.2 with h0 | ⟨_, _, h0, _⟩
      · have hl0 : l = [] := by
          cases l with
          | nil => rfl
          | cons x l => rw [fl_cons] at h0; have := SPoint.len x; rw [(List.append_eq_nil_iff.1 h0).1] at this; cases this
        subst hl0
        exact hR _ _ ⟨SPoint.owns_nil _ _, Ext.refl _⟩
      · cases h0
  · refine SPoint.row_lit0 fun v1 w1 x1 ho1 hs1 => ?_
    refine SPoint.row_apps ho1 (Sl.ext h x1) (by simp; omega) (by omega) fun v2 w2 ho2 m2 => ?_
    refine hR _ _ ⟨ho2, ?_⟩
    exact ((Mod.of_ext x1 : Mod (w.heap.size ≤ ·) w w1).trans (m2.mono fun k _ hk => (Own.block ho1 hk).1)).new
theorem Veh.write_ok' {v : Veh.V} (h : Veh.Valid v) (hu : v.up = true) : Veh.says v.b v.id = some v.log.ents := (Veh.up_of h hu).2.2.2.2.2
theorem det_rx_ret {w0 : World} {f : FuncId} {args : Array Value} {rest : Value → (World → Prop) → Prop} {P : Program} {X : List PanicEntry → World → Prop} (c : Value) (h : ∀ w1, Ext w0 w1 → Ret P f args w1 fun r w' => r = c ∧ Ext w1 w') (hk : rest c fun _ => True) :
    DetOp Ext (Both Ext fun _ => Ext) w0 (fun w1 K => CallF P f args w1 K X) rest :=
  ⟨c, fun _ => True, fun _ _ _ _ => trivial, fun w1 h1 => callF_ret (h w1 h1) fun v w2 hq => ⟨hq.1, ⟨hq.2, fun _ => hq.2⟩, trivial⟩, hk⟩
theorem put_snd {v : Veh.V} {r : SRecord} {f : Veh.V → List UInt8 → Veh.V} : (Veh.putV v r f).2 = (jputV v.b r).2 := by
  unfold Veh.putV
  split
  · rename_i h; exact h.symm
  · rfl
theorem put_end {g : SVeh} {v : Veh.V} {r : SRecord} {f : Veh.V → List UInt8 → Veh.V} {w' : World} (h0 : (jputV v.b r).2 = 0 → VehIs w' g (f v (jputV v.b r).1)) (h1 : (jputV v.b r).2 ≠ 0 → g = SVeh.zero) : VehIs w' g (Veh.putV v r f).1 := by
  unfold Veh.putV
  split
  · rename_i h; exact h0 h
  · rename_i h; rw [h1 h]; exact VehIs.zero _
theorem vwrite_ret {s : SVeh} {v : Veh.V} {e : SEntry} (hok : VehOk v) (he : e.Ok) (w : World) (hv : VehIs w s v) (ht : Tab w) : Ret Tryz.prog 10 #[.agg s.cells.toArray, .agg e.cells.toArray] w (VehQ s v (Veh.writeV v e) w) := by
  refine ret_of (fun _ _ => sh_vehicle_Write_ok _ _) fun R hR => ?_
  unfold sh_vehicle_Write
  refine box_i fun b2 w1 x1 hat2 hb2 _ => ?_
  refine box_i fun b3 w2 x2 hat3 hb3 _ => ?_
  refine alloc_i Ty.SVeh_zero fun b4 w3 x3 hat4 hb4 _ => ?_
  have hat4 : At w3 b4 (.cells SVeh.zero.cells.toArray 28 (0, 0)) := hat4
  have x03 := (x1.trans x2).trans x3
  have h2 := At.ext (At.ext hat2 x2) x3
  have h3 := At.ext hat3 x3
  have z1 := x1.size
  have z2 := x2.size
  have z3 := x3.size
  have hn24 : b2 ≠ b4 := by have := At.lt hat2; omega
  have hn34 : b3 ≠ b4 := by have := At.lt hat3; omega
  rw [SVeh.g_all (has_of_at h2)]
  refine callF_ret (load_ret hok w3 (hv.ext x03) (ht.ext x03)) ?_
  rintro _ w4 ⟨m, rfl, x4, hms, hm⟩
  rw [ext2_0, ext2_1]
  refine SMem.var fun b6 w5 x5 hat6 _ => ?_
  have x35 := x4.trans x5
  have x05 := x03.trans x35
  have bad : ∀ W, Ext w5 W → ∀ (c : Int) (X0 : List PanicEntry → World → Prop), Veh.writeV v e = (Veh.zero, c) → DoV Tryz.prog (Instr.build 28 #[]) W (fun t w1 => DoU Tryz.prog (Instr.storeAt 28 (.pointer (some ⟨b4, 0, none⟩)) t) w1 (fun _ w2 => Res Tryz.prog [.cell (.pointer (some ⟨b4, 0, none⟩)) 28, .tmp (.int .i64 c)] w2 R) (Pan R)) X0 := fun W x c X0 hc =>
    veh_none (r := SVeh.zero) hR (x05.trans x) (by omega) ((hat4.ext x35).ext x) hc
  refine join0 (fun W => Ext w5 W ∧ Veh.valid v = true ∧ Rep.formed e = true ∧ v.up = true) ?_ fun K hK => ?_
  · rintro _ W ⟨xW, hvv, hf, hu⟩
    have hV := Veh.valid_iff.1 hvv
    obtain ⟨o, ho, hown, _⟩ := hm hvv
    rw [Veh.write_ok' hV hu] at ho
    cases ho
    have hsm := Veh.ents_small hV
    refine drawRX fun w6 x6 _ => ?_
    have x56 := xW.trans x6
    have hm6 : ∀ W', Ext w6 W' → Has W' b6 0 m.cells := fun W' x => has_of_at ((hat6.ext x56).ext x)
    have h36 : ∀ W', Ext w6 W' → Has W' b3 0 e.cells := fun W' x => has_of_at (((h3.ext x35).ext x56).ext x)
    refine det_rx _ (fun w7 x7 K => Ty.SMem_f1) ?_
    refine det_rx m.says.val (fun w7 x7 K => load_cell Ty.ents_agg (has_at (hm6 w7 x7) (d := 10) rfl rfl)) ?_
    refine det_rx (.agg e.cells.toArray) (fun w7 x7 K => SEntry.g_all (h36 w7 x7)) ?_
    refine thr_x (fun vs W => ∃ u, vs = [u] ∧ SEntry.Owns w6.heap.size W u v.log.ents) ?_ ?_
    · refine nd_x (fun u W => SEntry.Owns w6.heap.size W u v.log.ents) (fun u a b h x => Own.ext h x) (fun w7 x7 _ => ?_) fun u => ?_
      · refine callF_ret (Clone_ret w7 (Sl.of_owns (Own.ext hown ((x5.trans x56).trans x7))) (by omega)) ?_
        rintro u w8 ⟨h8, x8⟩
        exact ⟨x8, Own.mono h8 x7.size⟩
      · intro w7 x7 h7
        exact ⟨u, rfl, h7⟩
    refine thr_x (fun vs W => ∃ u, vs = [u] ∧ SEntry.Row W u [e]) ?_ ?_
    · refine nd_x (fun u W => SEntry.Row W u [e]) (fun u a b h x => Sl.ext h x) (fun w7 x7 _ => ?_) fun u => ?_
      · refine SEntry.row_lit [e] rfl (by decide) (by decide) rfl fun u w8 x8 h8 _ => ?_
        exact ⟨x8, Sl.of_owns h8⟩
      · intro w7 x7 h7
        exact ⟨u, rfl, h7⟩
    rintro hh w7 x7 ⟨_, ⟨_, u1, e1, hu1⟩, u2, e2, hu2⟩
    simp only [List.cons.injEq, and_true] at e1 e2
    rw [e1, e2]
    refine SEntry.row_apps hu1 hu2 (by simp; omega) x7.size fun u8 w8 h8 m8 => ?_
    have x68 : Ext w6 w8 := ((Mod.of_ext x7 : Mod (w6.heap.size ≤ ·) w6 w7).trans (m8.mono fun k _ hk => (Own.block hu1 hk).1)).new
    obtain ⟨d8, rfl⟩ := Hdr.of_sl (Sl.of_owns h8)
    have x58 := x56.trans x68
    have x08 := x05.trans x58
    have hl8 : (v.log.ents ++ [e]).length = v.log.ents.length + 1 := by simp
    have z6 := x56.size
    have z5 := x5.size
    have z4 := x4.size
    refine join0 (fun W => Ext w8 W ∧ Veh.nextOk v.log.ents e = true) ?_ fun K2 hK2 => ?_
    · rintro _ W9 ⟨x9, hnx⟩
      have x59 := x58.trans x9
      have x09 := x05.trans x59
      refine SVeh.s_log_ents ((h2.ext x35).ext x59) fun w10 m10 h10 _ => ?_
      have h310 := ((h3.ext x35).ext x59).mod m10 (show b3 ≠ b2 by have := At.lt hat2; omega)
      rw [SVeh.g_all (has_of_at h10), SEntry.g_all (has_of_at h310), build_i (refRecord_new1 1 e)]
      have x010 : Ext w w10 := ext_step x09 m10 (by omega)
      have hv10 := hv.ext x010
      refine callF_ret (vput_ret (r := ent e) (v := v) (Veh.ent_ok he) (by have := (Veh.up_of hV hu).2.2.2.2.1; omega) w10 hv10.2.2.2.1) ?_
      rintro _ w11 ⟨g, rfl, x11, hg0, hg1⟩
      rw [ext2_0, ext2_1]
      have hw : Veh.writeV v e = Veh.putV v (ent e) fun v b => { v with b := b, log := ⟨v.log.veh, v.log.rs, v.log.ents ++ [e]⟩ } := by
        unfold Veh.writeV
        rw [if_neg (by rw [hvv, hf]; simp), if_neg (by rw [hu]; simp), if_neg (by rw [hnx]; simp)]
      have h411 := ((((hat4.ext x35).ext x59).mod m10 hn24.symm).ext x11)
      refine veh_res (r := SVeh.zero) h411 fun W m12 => ?_
      have z9 := x59.size
      have z10 := m10.size
      have xW12 : Ext w W := ext_step (x010.trans x11) m12 (by omega)
      refine hR _ _ ⟨g, by rw [hw, put_snd], xW12, fun W' m' hvW => ?_⟩
      rw [hw]
      refine put_end (fun h => ?_) hg1
      obtain ⟨d, rfl, hd⟩ := hg0 h
      have ho8 := Own.mod (Own.ext (Own.mod (Own.ext h8 x9) m10 fun j hj e' => by have := Own.block h8 hj; have := At.lt hat2; omega) x11) m12 fun j hj e' => by have := Own.block h8 hj; have := At.lt hat4; have := x35.size; omega
      have hod := Own.mod hd m12 fun j hj e' => by have := Own.block hd hj; have := At.lt hat4; have := x35.size; omega
      exact ⟨hvW.1, hvW.2.1, ⟨hvW.2.2.1.1, hvW.2.2.1.2.1, Sl.of_owns (Own.low ho8 (by omega) (by decide) m')⟩, Sl.of_owns (Own.low hod (by omega) (by decide) m'), hvW.2.2.2.2⟩
    · refine join_in fun K3 hK3 => ?_
      refine draw_ext fun w9 x9 => ?_
      have x59 := x58.trans x9
      have h39 : ∀ W', Ext w9 W' → Has W' b3 0 e.cells := fun W' x => has_of_at (((h3.ext x35).ext x59).ext x)
      have hr8 : ∀ W', Ext w9 W' → SEntry.Row W' d8.val (v.log.ents ++ [e]) := fun W' x => Sl.of_owns (Own.ext h8 (x9.trans x))
      have hbad : ∀ W', Ext w9 W' → Veh.nextOk v.log.ents e = false → ∀ (X0 : List PanicEntry → World → Prop), DoV Tryz.prog (Instr.build 28 #[]) W' (fun t w1 => DoU Tryz.prog (Instr.storeAt 28 (.pointer (some ⟨b4, 0, none⟩)) t) w1 (fun _ w2 => Res Tryz.prog [.cell (.pointer (some ⟨b4, 0, none⟩)) 28, .tmp (.int .i64 7)] w2 R) (Pan R)) X0 := fun W' x hn X0 =>
        bad W' (x59.trans x) 7 X0 (by
          unfold Veh.writeV
          rw [if_neg (by rw [hvv, hf]; simp), if_neg (by rw [hu]; simp), if_pos hn])
      refine det_read _ (fun w10 x10 K => Ty.SEntry_f0) ?_
      refine det_read (.int .i64 e.seq) (fun w10 x10 K => load_cell Ty.int_agg (has_at (h39 w10 x10) (d := 0) rfl rfl)) ?_
      refine det_read _ (fun w10 x10 K => SEntry.row_len (hr8 w10 x10)) ?_
      refine det_read _ (fun w10 x10 K => bin_neq) ?_
      refine Gd_i (fun hb => ?_) fun hb => ?_
      · have hb : e.seq = ((v.log.ents ++ [e]).length : Int) := by simpa using hb
        have hsq : e.seq = (v.log.ents.length : Int) + 1 := by rw [hb, hl8]; omega
        refine det_read _ (fun w10 x10 K => SEntry.row_len (hr8 w10 x10)) ?_
        refine det_read _ (fun w10 x10 K => bin_gtr) ?_
        refine Gd_i (fun hb2 => ?_) fun hb2 => ?_
        · have hb2 : 0 < v.log.ents.length := by have := dec_t hb2; omega
          refine det_read _ (fun w10 x10 K => Ty.SEntry_f1) ?_
          refine det_read (.int .i64 e.time) (fun w10 x10 K => load_cell Ty.int_agg (has_at (h39 w10 x10) (d := 1) rfl rfl)) ?_
          refine det_read _ (fun w10 x10 K => SEntry.row_len (hr8 w10 x10)) ?_
          refine det_read (.int .i64 ((v.log.ents.length - 1 : Nat) : Int)) (fun w10 x10 K => by rw [bin_sub, i64_wrap (by omega) (by omega), show ((v.log.ents ++ [e]).length : Int) - 2 = ((v.log.ents.length - 1 : Nat) : Int) by omega]) ?_
          obtain ⟨bb, oo, hhe, _, hix⟩ := SEntry.row_at (hr8 w9 (Ext.refl _)) (show v.log.ents.length - 1 < (v.log.ents ++ [e]).length by omega)
          have eg : (v.log.ents ++ [e])[v.log.ents.length - 1]'(by omega) = Rep.el v.log.ents (v.log.ents.length - 1) := by
            rw [List.getElem_append_left (by omega), Rep.el_of (by omega)]
          rw [eg] at hhe
          refine det_read _ (fun w10 x10 K => hix w10 K _) ?_
          refine det_read _ (fun w10 x10 K => Ty.SEntry_f1) ?_
          refine det_read (.int .i64 (Rep.el v.log.ents (v.log.ents.length - 1)).time) (fun w10 x10 K => load_cell Ty.int_agg (has_at (hhe w10 x10) (d := 1) rfl rfl)) ?_
          intro w10 x10 _
          rw [bin_lss]
          refine leaf1 hK3 fun h hh => ?_
          rw [hh]
          refine Br_i (fun hb3 => hbad _ x10 ?_ _) fun hb3 => hK2 _ ⟨x9.trans x10, ?_⟩
          · have := dec_t hb3
            rw [Veh.nextOk, decide_eq_true hsq, decide_eq_false (show ¬ v.log.ents.length = 0 by omega), decide_eq_false (show ¬ (Rep.el v.log.ents (v.log.ents.length - 1)).time ≤ e.time by omega)]; rfl
          · have := dec_f hb3
            rw [Veh.nextOk, decide_eq_true hsq, decide_eq_true (show (Rep.el v.log.ents (v.log.ents.length - 1)).time ≤ e.time by omega), Bool.or_true]; rfl
        · have hb2 : v.log.ents.length = 0 := by have := dec_f hb2; omega
          intro w10 x10 _
          refine leaf1 hK3 fun h hh => ?_
          rw [hh]
          refine br_f (hK2 _ ⟨x9.trans x10, ?_⟩)
          rw [Veh.nextOk, decide_eq_true hsq, decide_eq_true hb2]; rfl
      · have hb : ¬ e.seq = ((v.log.ents ++ [e]).length : Int) := by simpa using hb
        intro w10 x10 _
        refine leaf1 hK3 fun h hh => ?_
        rw [hh]
        refine br_t (hbad _ x10 ?_ _)
        rw [Veh.nextOk, decide_eq_false (show ¬ e.seq = (v.log.ents.length : Int) + 1 by rw [hl8] at hb; omega)]; rfl
  · refine join_in fun K3 hK3 => ?_
    rw [un_not]
    refine Gd_i (fun hb => ?_) fun hb => leaf1 hK3 fun h hh => by
      rw [hh]
      refine br_t (bad _ (Ext.refl _) 1 _ ?_)
      unfold Veh.writeV
      rw [if_pos (.inl (by simpa using hb))]
    have hvv : Veh.valid v = true := by simpa using hb
    rw [SEntry.g_all (has_of_at (h3.ext x35))]
    refine callF_ret (vehFormed_ret he w5 (ht.ext x05)) ?_
    rintro _ w6 ⟨rfl, x6⟩
    rw [un_not]
    refine leaf1 hK3 fun h hh => ?_
    rw [hh]
    refine Br_i (fun hb2 => ?_) fun hb2 => ?_
    · refine bad _ x6 1 _ ?_
      unfold Veh.writeV
      rw [if_pos (.inr (by simpa using hb2))]
    · have hf : Rep.formed e = true := by simpa using hb2
      rw [SMem.g_v_up (has_of_at (hat6.ext x6)), un_not, hms, hv.2.2.2.2.2.1]
      refine Br_i (fun hb3 => ?_) fun hb3 => ?_
      · refine bad _ x6 6 _ ?_
        unfold Veh.writeV
        rw [if_neg (by rw [hvv, hf]; simp), if_pos (by simpa using hb3)]
      · exact hK _ ⟨x6, hvv, hf, by simpa using hb3⟩
theorem vmark_ret {s : SVeh} {v : Veh.V} (hok : VehOk v) (w : World) (hv : VehIs w s v) (ht : Tab w) : Ret Tryz.prog 8 #[.agg s.cells.toArray] w (VehQ s v (Veh.markV v) w) := by
  refine ret_of (fun _ _ => sh_vehicle_Mark_ok _) fun R hR => ?_
  unfold sh_vehicle_Mark
  refine box_i fun b1 w1 x1 hat1 hb1 _ => ?_
  refine alloc_i Ty.SVeh_zero fun b2 w3 x3 hat2 hb2 _ => ?_
  have hat2 : At w3 b2 (.cells SVeh.zero.cells.toArray 28 (0, 0)) := hat2
  have x03 := x1.trans x3
  have h1 := At.ext hat1 x3
  have z1 := x1.size
  have z3 := x3.size
  have hn12 : b1 ≠ b2 := by have := At.lt hat1; omega
  rw [SVeh.g_all (has_of_at h1)]
  refine callF_ret (load_ret hok w3 (hv.ext x03) (ht.ext x03)) ?_
  rintro _ w4 ⟨m, rfl, x4, hms, hm⟩
  rw [ext2_0, ext2_1]
  refine SMem.var fun b4 w5 x5 hat4 _ => ?_
  have x35 := x4.trans x5
  have x05 := x03.trans x35
  have bad : ∀ W, Ext w5 W → ∀ (c : Int) (X0 : List PanicEntry → World → Prop), Veh.markV v = (Veh.zero, c) → DoV Tryz.prog (Instr.build 28 #[]) W (fun t w1 => DoU Tryz.prog (Instr.storeAt 28 (.pointer (some ⟨b2, 0, none⟩)) t) w1 (fun _ w2 => Res Tryz.prog [.cell (.pointer (some ⟨b2, 0, none⟩)) 28, .tmp (.int .i64 c)] w2 R) (Pan R)) X0 := fun W x c X0 hc =>
    veh_none (r := SVeh.zero) hR (x05.trans x) (by omega) ((hat2.ext x35).ext x) hc
  rw [un_not]
  refine Br_i (fun hb => bad _ (Ext.refl _) 1 _ (by unfold Veh.markV; rw [if_pos (by simpa using hb)])) fun hb => ?_
  have hvv : Veh.valid v = true := by simpa using hb
  rw [SMem.g_v_up (has_of_at hat4), un_not, hms, hv.2.2.2.2.2.1]
  refine Br_i (fun hb => bad _ (Ext.refl _) 6 _ (by unfold Veh.markV; rw [if_neg (by rw [hvv]; simp), if_pos (by simpa using hb)])) fun hb => ?_
  have hu : v.up = true := by simpa using hb
  have hV := Veh.valid_iff.1 hvv
  obtain ⟨o, ho, hown, _⟩ := hm hvv
  rw [Veh.write_ok' hV hu] at ho
  cases ho
  have hsm := Veh.ents_small hV
  have hmk : Veh.markV v = Veh.putV v (chk v.log.ents.length (Rep.carry (Rep.begin v.id) v.log.ents)) fun v b => { v with b := b, sure := b.length } := by
    unfold Veh.markV
    rw [if_neg (by rw [hvv]; simp), if_neg (by rw [hu]; simp)]
  have hval : Rep.Lg.valid ⟨v.id, v.log.rs, v.log.ents⟩ = true := by
    have := hV.2.1.1
    rw [← hV.2.1.2]; exact this
  have hlok : LogOk ⟨v.id, v.log.rs, v.log.ents⟩ := ⟨hok.1, hok.2.2.1.2⟩
  refine drawRX fun w6 x6 _ => ?_
  have x56 := x6
  have x06 := x05.trans x6
  have hm6 : ∀ W', Ext w6 W' → Has W' b4 0 m.cells := fun W' x => has_of_at ((hat4.ext x6).ext x)
  have hs6 : ∀ W', Ext w6 W' → SEntry.Row W' m.says.val v.log.ents := fun W' x => Sl.of_owns (Own.ext hown ((x5.trans x6).trans x))
  refine det_rx (.agg s.cells.toArray) (fun w7 x7 K => SVeh.g_all (has_of_at (((h1.ext x35).ext x6).ext x7))) ?_
  refine det_rx _ (fun w7 x7 K => Ty.SMem_f1) ?_
  refine det_rx m.says.val (fun w7 x7 K => load_cell Ty.ents_agg (has_at (hm6 w7 x7) (d := 10) rfl rfl)) ?_
  refine det_rx _ (fun w7 x7 K => SEntry.row_len (hs6 w7 x7)) ?_
  refine det_rx _ (fun w7 x7 K => Ty.SMem_f1) ?_
  refine det_rx m.says.val (fun w7 x7 K => load_cell Ty.ents_agg (has_at (hm6 w7 x7) (d := 10) rfl rfl)) ?_
  refine det_rx _ (fun w7 x7 K => SEntry.row_len (hs6 w7 x7)) ?_
  refine det_rx_ret (u64v (Rep.carry (Rep.begin v.id) v.log.ents)) (fun w7 x7 => ?_) ?_
  · have := mchain_ret (m := m) (v := v) (o := v.log.ents) (n := v.log.ents.length) hlok hval (Nat.le_refl _) w7 ((hat4.ext x6).ext x7) (by rw [hms]; exact hv.ext (x06.trans x7)) (hs6 w7 x7) (ht.ext (x06.trans x7))
    rw [List.take_length] at this; exact this
  refine det_rx (.agg (chk v.log.ents.length (Rep.carry (Rep.begin v.id) v.log.ents)).cells.toArray) (fun w7 x7 K => build_i (refRecord_new2 2 _ _)) ?_
  refine thr_x (fun vs W => ∃ g : SVeh, ∃ a b, vs = [a, b, .agg g.cells.toArray, .int .i64 (jputV v.b (chk v.log.ents.length (Rep.carry (Rep.begin v.id) v.log.ents))).2] ∧
    ((jputV v.b (chk v.log.ents.length (Rep.carry (Rep.begin v.id) v.log.ents))).2 = 0 → ∃ d, g = { s with byts := d } ∧ W.ownsRow w6.heap.size 5 1 d.val (jputV v.b (chk v.log.ents.length (Rep.carry (Rep.begin v.id) v.log.ents))).1.length (bv (jputV v.b (chk v.log.ents.length (Rep.carry (Rep.begin v.id) v.log.ents))).1)) ∧
    ((jputV v.b (chk v.log.ents.length (Rep.carry (Rep.begin v.id) v.log.ents))).2 ≠ 0 → g = SVeh.zero)) ?_ ?_
  · generalize hj : jputV v.b (chk v.log.ents.length (Rep.carry (Rep.begin v.id) v.log.ents)) = J
    let G : SVeh → World → Prop := fun g W => (J.2 = 0 → ∃ d, g = { s with byts := d } ∧ W.ownsRow w6.heap.size 5 1 d.val J.1.length (bv J.1)) ∧ (J.2 ≠ 0 → g = SVeh.zero)
    have hG : ∀ g a b, G g a → Ext a b → G g b := fun g a b h x => ⟨fun e => by obtain ⟨d, h1, h2⟩ := h.1 e; exact ⟨d, h1, Own.ext h2 x⟩, h.2⟩
    refine nd_x (fun u W => ∃ g : SVeh, u = .tuple #[.agg g.cells.toArray, .int .i64 J.2] ∧ G g W) (fun u a b h x => by obtain ⟨g, h1, h2⟩ := h; exact ⟨g, h1, hG _ _ _ h2 x⟩) (fun w7 x7 _ => ?_) fun u1 => ?_
    · refine callF_ret (vput_ret (v := v) (Veh.chk_ok hsm _).2 (by have := (Veh.up_of hV hu).2.2.2.2.1; omega) w7 ((hv.ext (x06.trans x7)).2.2.2.1)) ?_
      rintro _ w8 ⟨g, rfl, x8, h0, h1⟩
      rw [hj] at h0 h1 ⊢
      exact ⟨x8, g, rfl, fun e => by obtain ⟨d, e1, e2⟩ := h0 e; exact ⟨d, e1, Own.mono e2 x7.size⟩, h1⟩
    refine nd_x (fun u W => ∃ g : SVeh, u = .tuple #[.agg g.cells.toArray, .int .i64 J.2] ∧ G g W) (fun u a b h x => by obtain ⟨g, h1, h2⟩ := h; exact ⟨g, h1, hG _ _ _ h2 x⟩) (fun w7 x7 h => ⟨Ext.refl _, h⟩) fun u2 => ?_
    refine nd_x (fun u W => ∃ g : SVeh, u2 = .tuple #[.agg g.cells.toArray, .int .i64 J.2] ∧ u = .agg g.cells.toArray ∧ G g W) (fun u a b h x => by obtain ⟨g, h0, h1, h2⟩ := h; exact ⟨g, h0, h1, hG _ _ _ h2 x⟩) (fun w7 x7 h => ?_) fun u3 => ?_
    · obtain ⟨g, rfl, h2⟩ := h
      rw [ext2_0]
      exact ⟨Ext.refl _, g, rfl, rfl, h2⟩
    refine nd_x (fun u W => ∃ g : SVeh, u3 = .agg g.cells.toArray ∧ u = .int .i64 J.2 ∧ G g W) (fun u a b h x => by obtain ⟨g, h0, h1, h2⟩ := h; exact ⟨g, h0, h1, hG _ _ _ h2 x⟩) (fun w7 x7 h => ?_) fun u4 => ?_
    · obtain ⟨g, rfl, rfl, h2⟩ := h
      rw [ext2_1]
      exact ⟨Ext.refl _, g, rfl, rfl, h2⟩
    rintro w7 x7 ⟨g, rfl, rfl, h2⟩
    exact ⟨g, u1, u2, rfl, h2.1, h2.2⟩
  rintro hh w7 x7 ⟨_, _, g, a, b, e1, hg0, hg1⟩
  simp only [List.cons.injEq, and_true] at e1
  rw [e1.2.2.1, e1.2.2.2]
  have x07 := x06.trans x7
  have x37 := (x35.trans x6).trans x7
  refine SVeh.set (r := s) (h1.ext x37) fun w8 m8 h8 _ => ?_
  have z37 := x37.size
  have z07 := x06.size
  have zz : w3.heap.size ≤ w6.heap.size := (x35.trans x6).size
  have x08 : Ext w w8 := ext_step x07 m8 (by omega)
  rw [SVeh.g_byts (has_of_at h8)]
  obtain ⟨n, hn, hl⟩ : ∃ n : Nat, (∀ (K : Value → World → Prop) (X : List PanicEntry → World → Prop) (cs : Array Bool), CallB Tryz.prog .len #[26] 3 cs #[g.byts.val] w8 K X = K (.int .i64 n) w8) ∧ ((jputV v.b (chk v.log.ents.length (Rep.carry (Rep.begin v.id) v.log.ents))).2 = 0 → n = (jputV v.b (chk v.log.ents.length (Rep.carry (Rep.begin v.id) v.log.ents))).1.length) ∧ ((jputV v.b (chk v.log.ents.length (Rep.carry (Rep.begin v.id) v.log.ents))).2 ≠ 0 → n = 0) := by
    by_cases h0 : (jputV v.b (chk v.log.ents.length (Rep.carry (Rep.begin v.id) v.log.ents))).2 = 0
    · obtain ⟨d, rfl, hd⟩ := hg0 h0
      have := Own.mod hd m8 (Own.off_at hd (h1.ext x37) (by decide))
      exact ⟨_, fun K X cs => (Sl.of_owns this).len Ty.bytes, fun _ => rfl, fun h => absurd h0 h⟩
    · rw [hg1 h0]
      exact ⟨0, fun K X cs => (Sl.nil w8 1).len Ty.bytes, fun h => absurd h h0, fun _ => rfl⟩
  rw [hn]
  refine SVeh.s_sure h8 fun w9 m9 h9 _ => ?_
  rw [SVeh.g_all (has_of_at h9)]
  have h29 := (((hat2.ext x37).mod m8 hn12.symm).mod m9 hn12.symm)
  refine veh_res (r := SVeh.zero) h29 fun W m10 => ?_
  have xW : Ext w W := ext_step (ext_step x08 m9 (by omega)) m10 (by omega)
  refine hR _ _ ⟨{ g with sure := n }, by rw [hmk, put_snd], xW, fun W' m' hvW => ?_⟩
  rw [hmk]
  refine put_end (fun h => ?_) (fun h => by rw [hg1 h, hl.2 h]; rfl)
  obtain ⟨d, rfl, hd⟩ := hg0 h
  have hd8 := Own.mod hd m8 (Own.off_at hd (h1.ext x37) (by decide))
  have hd9 := Own.mod hd8 m9 (Own.off_at hd8 h8 (by decide))
  have hd10 := Own.mod hd9 m10 (Own.off_at hd9 h29 (by decide))
  exact ⟨hvW.1, hvW.2.1, hvW.2.2.1, Sl.of_owns (Own.low hd10 (by omega) (by decide) m'), by show (n : Int) = _; rw [hl.1 h], hvW.2.2.2.2.2⟩
theorem vcrash_ret {s : SVeh} {v : Veh.V} {n : Int} (hok : VehOk v) (w : World) (hv : VehIs w s v) (ht : Tab w) : Ret Tryz.prog 11 #[.agg s.cells.toArray, .int .i64 n] w (VehQ s v (Veh.crashV v n) w) := by
  refine ret_of (fun _ _ => sh_vehicle_Crash_ok _ _) fun R hR => ?_
  unfold sh_vehicle_Crash
  refine box_i fun b1 w1 x1 hat1 hb1 _ => ?_
  refine alloc_i Ty.SVeh_zero fun b2 w3 x3 hat2 hb2 _ => ?_
  have hat2 : At w3 b2 (.cells SVeh.zero.cells.toArray 28 (0, 0)) := hat2
  have x03 := x1.trans x3
  have h1 := At.ext hat1 x3
  have z1 := x1.size
  have z3 := x3.size
  have hn12 : b1 ≠ b2 := by have := At.lt hat1; omega
  rw [SVeh.g_all (has_of_at h1)]
  refine callF_ret (load_ret hok w3 (hv.ext x03) (ht.ext x03)) ?_
  rintro _ w4 ⟨m, rfl, x4, hms, hm⟩
  rw [ext2_0, ext2_1]
  refine SMem.var fun b4 w5 x5 hat4 _ => ?_
  have x35 := x4.trans x5
  have x05 := x03.trans x35
  have bad : ∀ (c : Int) (X0 : List PanicEntry → World → Prop), Veh.crashV v n = (Veh.zero, c) → DoV Tryz.prog (Instr.build 28 #[]) w5 (fun t w1 => DoU Tryz.prog (Instr.storeAt 28 (.pointer (some ⟨b2, 0, none⟩)) t) w1 (fun _ w2 => Res Tryz.prog [.cell (.pointer (some ⟨b2, 0, none⟩)) 28, .tmp (.int .i64 c)] w2 R) (Pan R)) X0 := fun c X0 hc =>
    veh_none (r := SVeh.zero) hR x05 (by omega) (hat2.ext x35) hc
  refine join0 (fun W => W = w5 ∧ Veh.valid v = true ∧ v.up = true ∧ ¬ (n < v.sure ∨ (v.b.length : Int) < n)) ?_ fun K hK => ?_
  · rintro _ W ⟨hW, hvv, hu, hno⟩
    subst W
    have hV := Veh.valid_iff.1 hvv
    have hs0 := (Veh.ends_le hV.2.2.2).1
    obtain ⟨k, rfl⟩ : ∃ k : Nat, n = k := ⟨n.toNat, by omega⟩
    have hkl : k ≤ v.b.length := by omega
    have hbl := (Veh.up_of hV hu).2.2.2.2.1
    rw [SVeh.g_byts (has_of_at (h1.ext x35))]
    have hv5 := hv.ext x05
    refine up_bytes hv5.2.2.2.1 hkl fun vs hs => ?_
    refine callF_ret (cloneBytes_ret w5 hs (by rw [List.length_take]; omega)) ?_
    rintro vd w6 ⟨hown, x6⟩
    obtain ⟨d, rfl⟩ := Hdr.of_sl (Sl.of_owns hown)
    have x06 := x05.trans x6
    refine SVeh.s_byts ((h1.ext x35).ext x6) fun w7 m7 h7 _ => ?_
    have e0 : (Value.slice none 0 0) = (⟨none, 0, 0⟩ : Hdr).val := rfl
    rw [e0]
    refine SVeh.s_log_ents h7 fun w8 m8 h8 _ => ?_
    refine SVeh.s_up h8 fun w9 m9 h9 _ => ?_
    rw [SVeh.g_all (has_of_at h9)]
    have z5 := x35.size
    have z6 := x6.size
    have h29 := ((((hat2.ext x35).ext x6).mod m7 hn12.symm).mod m8 hn12.symm).mod m9 hn12.symm
    refine veh_res (r := SVeh.zero) h29 fun W m10 => ?_
    have xW : Ext w W := ext_step (ext_step (ext_step (ext_step x06 m7 (by omega)) m8 (by omega)) m9 (by omega)) m10 (by omega)
    have ho7 := Own.mod hown m7 (Own.off_at hown ((h1.ext x35).ext x6) (by decide))
    have ho8 := Own.mod ho7 m8 (Own.off_at ho7 h7 (by decide))
    have ho9 := Own.mod ho8 m9 (Own.off_at ho8 h8 (by decide))
    have ho10 := Own.mod ho9 m10 (Own.off_at ho9 h29 (by decide))
    have ec : Veh.crashV v k = ({ v with b := v.b.take k, log := ⟨v.log.veh, v.log.rs, []⟩, up := false }, 0) := by
      unfold Veh.crashV
      rw [if_neg (by rw [hvv]; simp), if_neg (by rw [hu]; simp), if_neg hno]; rfl
    refine hR _ _ ⟨_, by rw [ec], xW, fun W' m' hvW => ?_⟩
    rw [ec]
    exact ⟨hvW.1, hvW.2.1, ⟨hvW.2.2.1.1, hvW.2.2.1.2.1, SEntry.row_nil _⟩, Sl.of_owns (Own.low ho10 (by have := x05.size; omega) (by decide) m'), hvW.2.2.2.2.1, rfl, hvW.2.2.2.2.2.2⟩
  · rw [un_not]
    refine Br_i (fun hb => bad 1 _ (by unfold Veh.crashV; rw [if_pos (by simpa using hb)])) fun hb => ?_
    have hvv : Veh.valid v = true := by simpa using hb
    rw [SMem.g_v_up (has_of_at hat4), un_not, hms, hv.2.2.2.2.2.1]
    refine Br_i (fun hb => bad 6 _ (by unfold Veh.crashV; rw [if_neg (by rw [hvv]; simp), if_pos (by simpa using hb)])) fun hb => ?_
    have hu : v.up = true := by simpa using hb
    refine join_in fun K3 hK3 => ?_
    have out : (n < v.sure ∨ (v.b.length : Int) < n) → Veh.crashV v n = (Veh.zero, 1) := fun h => by
      unfold Veh.crashV
      rw [if_neg (by rw [hvv]; simp), if_neg (by rw [hu]; simp), if_pos h]
    rw [SMem.g_v_sure (has_of_at hat4), hms, hv.2.2.2.2.1, bin_lss]
    refine Gd_i (fun hb => ?_) fun hb => leaf1 hK3 fun h hh => by
      rw [hh]
      exact br_t (bad 1 _ (out (.inl (dec_t hb))))
    have hb1 := dec_f hb
    rw [SMem.g_v_byts (has_of_at hat4), hms, (hv.ext x05).2.2.2.1.len Ty.bytes, bin_gtr]
    refine leaf1 hK3 fun h hh => ?_
    rw [hh]
    exact Br_i (fun hb2 => bad 1 _ (out (.inr (dec_t hb2)))) fun hb2 => hK _ ⟨rfl, hvv, hu, fun h => h.elim hb1 (dec_f hb2)⟩
theorem vwake_ret {s : SVeh} {v : Veh.V} (hok : VehOk v) (w : World) (hv : VehIs w s v) (ht : Tab w) : Ret Tryz.prog 12 #[.agg s.cells.toArray] w (VehQ s v (Veh.wakeV v) w) := by
  refine ret_of (fun _ _ => sh_vehicle_Wake_ok _) fun R hR => ?_
  unfold sh_vehicle_Wake
  refine box_i fun b1 w1 x1 hat1 hb1 _ => ?_
  refine alloc_i Ty.SVeh_zero fun b2 w3 x3 hat2 hb2 _ => ?_
  have hat2 : At w3 b2 (.cells SVeh.zero.cells.toArray 28 (0, 0)) := hat2
  have x03 := x1.trans x3
  have h1 := At.ext hat1 x3
  have z1 := x1.size
  have z3 := x3.size
  have hn12 : b1 ≠ b2 := by have := At.lt hat1; omega
  rw [SVeh.g_all (has_of_at h1)]
  refine callF_ret (load_ret hok w3 (hv.ext x03) (ht.ext x03)) ?_
  rintro _ w4 ⟨m, rfl, x4, hms, hm⟩
  rw [ext2_0, ext2_1]
  refine SMem.var fun b4 w5 x5 hat4 hb4 => ?_
  have x35 := x4.trans x5
  have x05 := x03.trans x35
  have bad : ∀ (c : Int) (X0 : List PanicEntry → World → Prop), Veh.wakeV v = (Veh.zero, c) → DoV Tryz.prog (Instr.build 28 #[]) w5 (fun t w1 => DoU Tryz.prog (Instr.storeAt 28 (.pointer (some ⟨b2, 0, none⟩)) t) w1 (fun _ w2 => Res Tryz.prog [.cell (.pointer (some ⟨b2, 0, none⟩)) 28, .tmp (.int .i64 c)] w2 R) (Pan R)) X0 := fun c X0 hc =>
    veh_none (r := SVeh.zero) hR x05 (by omega) (hat2.ext x35) hc
  rw [un_not]
  refine Br_i (fun hb => bad 1 _ (by unfold Veh.wakeV; rw [if_pos (by simpa using hb)])) fun hb => ?_
  have hvv : Veh.valid v = true := by simpa using hb
  rw [SMem.g_v_up (has_of_at hat4), hms, hv.2.2.2.2.2.1]
  refine Br_i (fun hb => bad 6 _ (by unfold Veh.wakeV; rw [if_neg (by rw [hvv]; simp), if_pos hb])) fun hu => ?_
  have hV := Veh.valid_iff.1 hvv
  obtain ⟨o, ho, hown, hwh⟩ := hm hvv
  obtain ⟨whole, hwe⟩ : ∃ n, n = (Jou.load v.b).2 := ⟨_, rfl⟩
  rw [← hwe] at hwh
  have hwl : whole ≤ v.b.length := by rw [hwe]; exact (Veh.load_inv v.b).2.2.2.1
  have hbl := (Veh.says_iff.1 ho).1
  -- the order is open: two cells of the vehicle are filled
  refine ⟨Sto b1 (w5.heap.size ≤ ·) 28 (fun i u => i = 5 ∨ (i = 6 ∧ u = .int .i64 whole)), fun u => match u with | 0 => Sto b1 no 28 (fun i u => i = 6 ∧ u = .int .i64 whole) | _ + 1 => fun _ _ => True,
    ⟨fun a => Sto.refl a, fun _ _ _ => Sto.trans, fun u a => by match u with | 0 => exact Sto.refl a | _ + 1 => trivial, fun u a b c => by match u with | 0 => exact Sto.trans | _ + 1 => exact fun _ _ => trivial⟩, ?_⟩
  have xd := Ext.drew w5
  have x0d := x05.trans xd
  have h1d : At w5.drew b1 (.cells s.cells.toArray 28 (0, 0)) := (h1.ext x35).ext xd
  have h4d := hat4.ext xd
  have hn14 : b4 ≠ b1 := by have := h1.lt; have := x4.size; omega
  have z5 := x35.size
  have hdz : w5.drew.heap.size = w5.heap.size := rfl
  generalize w5.drew = w6 at *
  have xr : ∀ {N : Nat → Prop} {F : Nat → Value → Prop} {W : World}, (∀ k, N k → w5.heap.size ≤ k) → Sto b1 N 28 F w6 W → Ext w W := fun hN r => r.ext x0d (by omega) fun k hk => by have := hN k hk; have := x05.size; omega
  have hm4 : ∀ {W : World}, Sto b1 (w5.heap.size ≤ ·) 28 (fun i u => i = 5 ∨ (i = 6 ∧ u = .int .i64 whole)) w6 W → Has W b4 0 m.cells := fun r => has_of_at (r.at_ h4d hn14 (by have := hat4.lt; omega))
  have hre : ∀ a, Both (Sto b1 (w5.heap.size ≤ ·) 28 (fun i u => i = 5 ∨ (i = 6 ∧ u = .int .i64 whole))) (fun u => match u with | 0 => Sto b1 no 28 (fun i u => i = 6 ∧ u = .int .i64 whole) | _ + 1 => fun _ _ => True) a a := fun a => Sto.both (Ext.refl a)
  refine det_pure _ hre (fun W r K hk => by rw [Ty.SVeh_f3]; exact hk) ?_
  refine det_pure _ hre (fun W r K hk => by rw [Ty.SMem_f2]; exact hk) ?_
  refine det_pure (.int .i64 whole) hre (fun W r K hk => by rw [load_cell Ty.int_agg (u := .int .i64 whole) (has_at (hm4 r) (d := 11) rfl (by rw [← hwh]; rfl))]; exact hk) ?_
  refine det_pure _ hre (fun W r K hk => by rw [Ty.SMem_f2]; exact hk) ?_
  refine det_pure (.int .i64 whole) hre (fun W r K hk => by rw [load_cell Ty.int_agg (u := .int .i64 whole) (has_at (hm4 r) (d := 11) rfl (by rw [← hwh]; rfl))]; exact hk) ?_
  refine det_pure _ hre (fun W r K hk => by rw [Ty.SMem_f1]; exact hk) ?_
  refine det_pure m.says.val hre (fun W r K hk => by rw [load_cell Ty.ents_agg (has_at (hm4 r) (d := 10) rfl rfl)]; exact hk) ?_
  refine det_pure _ hre (fun W r K hk => by rw [Ty.SVeh_f3]; exact hk) ?_
  refine det_pure _ hre (fun W r K hk => by rw [Ty.SVeh_f4]; exact hk) ?_
  refine det_cell2 (b := b1) (e := 28) (o := 6) (v := .int .i64 whole) (fun a c h => h) (fun a c h => ⟨h.mono (fun _ h => h.elim) fun i u h => .inr h, fun u => by match u with | 0 => exact h | _ + 1 => trivial⟩) Ty.int_size rfl ⟨_, h1d, by show 6 < 10; omega⟩ (fun u h => h.elim (fun h => by cases h) fun h => h.2) ?_
  obtain ⟨i8, hi8, hz8, hs8, _⟩ := Ty.info_parts Ty.u8_info
  obtain ⟨vs, hvs, hsl⟩ := upto_val (k := .i64) Ty.bytes hi8 hs8 (by decide) hv.2.2.2.1 hwl
  rw [bv_take] at hvs
  have hvs : Sl w 1 vs (v.b.take whole).length (bv (v.b.take whole)) := by rw [List.length_take, Nat.min_eq_left hwl]; exact hvs
  refine ⟨fun W => ∃ cs, At W b1 (.cells cs 28 (0, 0)) ∧ cs[5]? = some s.byts.val, fun us W => ∃ u1 u2 u3, us = [u1, u2, u3] ∧ (∃ cs, At W b1 (.cells cs 28 (0, 0)) ∧ cs[5]? = some u3) ∧ W.ownsRow w5.heap.size 5 1 u3 (v.b.take whole).length (bv (v.b.take whole)), ⟨_, h1d, rfl⟩, ?_, ?_, ?_⟩
  · rintro a c ⟨cs, h1, h2⟩ hr
    obtain ⟨cs', k1, k2, k3⟩ := hr.2 cs h1
    have hlt : 5 < cs'.size := by rw [k2]; exact (Array.getElem?_eq_some_iff.1 h2).1
    refine ⟨cs', k1, ?_⟩
    rcases k3 5 _ (Array.getElem?_eq_getElem hlt) with h | h
    · rw [Array.getElem?_eq_getElem hlt, ← h]; exact h2
    · exact absurd h.1 (by decide)
  · refine ⟨fun u _ => u = s.byts.val, fun _ _ _ h _ => h, ?_, fun u1 => ?_⟩
    · rintro W r ⟨cs, k1, k2⟩
      rw [load_cell Ty.hdr26 (u := s.byts.val) (by rw [k1.cell]; exact k2)]
      exact ⟨⟨Sto.refl _, fun u hu => by match u, hu with | _ + 1, _ => trivial⟩, rfl⟩
    refine ⟨fun u _ => u = vs, fun _ _ _ h _ => h, ?_, fun u2 => ?_⟩
    · rintro W r rfl
      rw [hsl W]
      exact ⟨⟨Sto.refl _, fun u hu => by match u, hu with | _ + 1, _ => trivial⟩, rfl⟩
    refine ⟨fun u W => W.ownsRow w5.heap.size 5 1 u (v.b.take whole).length (bv (v.b.take whole)), ?_, ?_, fun u3 => ?_⟩
    · intro u a c h hr
      exact Own.mod h hr.1 fun j hj hh => hh.elim (fun e => by have := (Own.block h hj).1; have := h1.lt; omega) id
    · rintro W r rfl
      refine callF_ret (cloneBytes_ret W (hvs.ext (xr (fun _ h => h) r)) (by rw [List.length_take]; omega)) ?_
      rintro u W2 ⟨hu, y2⟩
      exact ⟨⟨Sto.of_ext y2, fun u hu => by match u, hu with | _ + 1, _ => trivial⟩, Own.mono hu (by have := r.1.size; omega)⟩
    refine ⟨fun _ W => (∃ cs, At W b1 (.cells cs 28 (0, 0)) ∧ cs[5]? = some u3) ∧ W.ownsRow w5.heap.size 5 1 u3 (v.b.take whole).length (bv (v.b.take whole)), ?_, ?_, fun _ => ?_⟩
    · rintro _ a c ⟨⟨cs, k1, k2⟩, h⟩ hr
      obtain ⟨cs', j1, j2, j3⟩ := hr.2 cs k1
      have hlt : 5 < cs'.size := by rw [j2]; exact (Array.getElem?_eq_some_iff.1 k2).1
      refine ⟨⟨cs', j1, ?_⟩, Own.mod h hr.1 fun j hj hh => hh.elim (fun e => by have := (Own.block h hj).1; have := h1.lt; omega) id⟩
      rcases j3 5 _ (Array.getElem?_eq_getElem hlt) with h | h
      · rw [Array.getElem?_eq_getElem hlt, ← h]; exact k2
      · exact absurd h.1 (by decide)
    · intro W r h
      obtain ⟨cs', j1, j2, _⟩ := r.2 _ h1d
      have hsz : cs'.size = 10 := j2
      refine store_i (o := 5) (fun w => show (sizeOf 26).run Tryz.prog w = .ok 1 w by kernel_rfl) j1 (by omega) (Sl.one (Sl.of_owns h)) fun W2 m2 k2 _ => ?_
      refine ⟨⟨(sto_cell j1 k2 m2).mono (fun _ h => h.elim) fun i u h => .inl h.1, fun u hu => by match u, hu with | _ + 1, _ => trivial⟩, ⟨_, k2, by simp [hsz]⟩, ?_⟩
      exact Own.mod h m2 fun j hj e => by have := (Own.block h hj).1; have := h1.lt; omega
    · intro W r h
      exact ⟨u1, u2, u3, rfl, h.1, h.2⟩
  rintro hh w7 r7 ⟨⟨_, h6⟩, _, u1, u2, u3, eu, h5, hown5⟩
  simp only [List.cons.injEq, and_true] at eu
  obtain ⟨_, _, eu⟩ := eu
  subst eu
  obtain ⟨d, hd⟩ := Hdr.of_sl (Sl.of_owns hown5)
  rw [hd] at h5 hown5
  have h17 : At w7 b1 (.cells ({ s with byts := d, sure := whole } : SVeh).cells.toArray 28 (0, 0)) := by
    refine r7.done h1d rfl fun i u hu => ?_
    by_cases hi : i = 5
    · subst hi
      obtain ⟨cs, k1, k2⟩ := h5
      exact .inl ⟨cs, k1, by rw [k2, ← hu]; rfl⟩
    · by_cases hi6 : i = 6
      · subst hi6
        obtain ⟨cs, k1, k2⟩ := h6
        exact .inl ⟨cs, k1, by rw [k2, ← hu]; rfl⟩
      · right
        refine ⟨fun u h => h.elim hi fun h => hi6 h.1, ?_⟩
        rw [← hu]
        rw [SVeh.cells_eq, SVeh.cells_eq]
        match i, hi, hi6 with
        | 0, _, _ | 1, _, _ | 2, _, _ | 3, _, _ | 4, _, _ | 7, _, _ | 8, _, _ | 9, _, _ => rfl
        | i + 10, _, _ => rfl
  have x07 : Ext w w7 := xr (fun _ h => h) r7
  have hsays : SEntry.Owns w3.heap.size w7 m.says.val o := Own.mod (Own.ext (Own.ext hown x5) xd) r7.1 fun j hj hh => by
    have := Own.block (Own.ext hown x5) hj
    have := h1.lt
    rcases hh with h | h <;> omega
  have h27 : At w7 b2 (.cells SVeh.zero.cells.toArray 28 (0, 0)) := r7.at_ ((hat2.ext x35).ext xd) hn12.symm (by have := (hat2.ext x35).lt; omega)
  refine SVeh.s_log_ents h17 fun w8 m8 h8 _ => ?_
  refine SVeh.s_up h8 fun w9 m9 h9 _ => ?_
  rw [SVeh.g_all (has_of_at h9)]
  have h29 := (h27.mod m8 hn12.symm).mod m9 hn12.symm
  refine veh_res (r := SVeh.zero) h29 fun W m10 => ?_
  have xW : Ext w W := ext_step (ext_step (ext_step x07 m8 (by omega)) m9 (by omega)) m10 (by omega)
  have off : ∀ {base : Nat} {e : TypeId} {sz n : Nat} {u : Value} {xs : List Value}, w7.ownsRow base e sz u n xs → 28 ≠ e → W.ownsRow base e sz u n xs := fun h hne => by
    have k1 := Own.mod h m8 (Own.off_at h h17 (Ne.symm hne))
    have k2 := Own.mod k1 m9 (Own.off_at k1 h8 (Ne.symm hne))
    exact Own.mod k2 m10 (Own.off_at k2 h29 (Ne.symm hne))
  have ec : Veh.wakeV v = ({ v with b := v.b.take whole, sure := whole, log := ⟨v.log.veh, v.log.rs, o⟩, up := true }, 0) := by
    unfold Veh.wakeV
    rw [if_neg (by rw [hvv]; simp), if_neg (by rw [hu]; simp), ho, hwe]; rfl
  refine hR _ _ ⟨_, by rw [ec], xW, fun W' m' hvW => ?_⟩
  rw [ec]
  exact ⟨hvW.1, hvW.2.1, ⟨hvW.2.2.1.1, hvW.2.2.1.2.1, Sl.of_owns (Own.low (off hsays (by decide)) (by omega) (by decide) m')⟩, Sl.of_owns (Own.low (off hown5 (by decide)) (by have := x05.size; omega) (by decide) m'), rfl, rfl, hvW.2.2.2.2.2.2⟩
end Go.Proofs.YtoeblipchoglaaaGreatDoor
