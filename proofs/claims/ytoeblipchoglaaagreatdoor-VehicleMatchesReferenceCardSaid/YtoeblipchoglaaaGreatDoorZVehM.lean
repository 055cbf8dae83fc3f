/- The laws of vehicles: States, Marks, MatchesReference. -/
import Derived.Test.YtoeblipchoglaaaGreatDoorZVehK
namespace Go.Proofs.YtoeblipchoglaaaGreatDoor
set_option maxRecDepth 100000
set_option maxHeartbeats 8000000
open Sh Go.RowKit
def Live (B : Nat → Prop) (w : World) (g : SVeh) (v : Veh.V) : Prop := ∀ W, Mod B w W → VehIs W g v
section live
variable {B : Nat → Prop} {w w0 W : World} {g s : SVeh} {v : Veh.V} {p : Veh.V × Int} {r : Value} {b : Nat}
theorem Live.is (h : Live B w g v) : VehIs w g v := h w (Mod.refl _ _)
theorem Live.mod (h : Live B w g v) (m : Mod B w W) : Live B W g v := fun W' m' => h W' (m.trans m')
theorem Live.ext (h : Live B w g v) (x : Ext w W) : Live B W g v := h.mod (.of_ext x)
theorem Live.of_ext (h : VehIs w0 g v) (x : Ext w0 w) (hB : ∀ k, B k → w0.heap.size ≤ k) : Live B w g v := fun W m =>
  h.ext ((Mod.of_ext x : Mod (w0.heap.size ≤ ·) w0 w).comp m (fun _ _ h => h) (fun k _ h => hB k h) : Mod (w0.heap.size ≤ ·) w0 W).new
theorem Live.of_frame {N : Nat} (hl : Live B w0 s v) (x : Ext w0 W) (hB : ∀ k, B k → k < N) (hf : ∀ W', Mod (LowT N W) W W' → VehIs W' s v → VehIs W' g p.1) : Live B W g p.1 := fun W' m =>
  hf W' (m.mono fun k _ h => .inl (hB k h)) (hl W' ((Mod.of_ext x).trans m))
theorem VehQ.is (h : VehQ s v p w r W) (hv : VehIs w s v) : ∃ g : SVeh, r = .tuple #[.agg g.cells.toArray, .int .i64 p.2] ∧ Ext w W ∧ VehIs W g p.1 := by
  obtain ⟨g, e, x, hf⟩ := h
  exact ⟨g, e, x, hf W (Mod.refl _ _) (hv.ext x)⟩
end live
theorem veh_thr {t : Nat} {w0 : World} {f : FuncId} {args : Array Value} {s : SVeh} {v : Veh.V} {p : Veh.V × Int} {X X1 X2 : List PanicEntry → World → Prop} {rest : (List Value → World → Prop) → Prop} (hc : ∀ w1, Ext w0 w1 → Ret Tryz.prog f args w1 (VehQ s v p w1))
    (hk : rest fun vs W => ∃ a b, ∃ g : SVeh, vs = [a, b, .agg g.cells.toArray, .int .i64 p.2] ∧ ∀ W', Mod (LowT w0.heap.size W) W W' → VehIs W' s v → VehIs W' g p.1) :
    ThrE Ext (fun _ => Ext) t w0 (fun Θ T => NdC Ext (fun _ => Ext) t w0 Θ (fun w1 K => CallF Tryz.prog f args w1 K X) (fun v1 φ1 => NdC Ext (fun _ => Ext) t w0 φ1 (fun w1 K => K v1 w1) (fun v2 φ2 =>
      NdC Ext (fun _ => Ext) t w0 φ2 (fun w1 K => DoV Tryz.prog (Instr.extract v2 0) w1 K X1) (fun v3 φ3 => NdC Ext (fun _ => Ext) t w0 φ3 (fun w1 K => DoV Tryz.prog (Instr.extract v2 1) w1 K X2) (fun v4 φ4 => T [v1, v2, v3, v4] φ4))))) rest := by
  let G : SVeh → World → Prop := fun g W => ∀ W', Mod (LowT w0.heap.size W) W W' → VehIs W' s v → VehIs W' g p.1
  have hG : ∀ g a b, G g a → Ext a b → G g b := fun g a b h x W' m => h W' (LowT.ext x m)
  refine thr_x _ ?_ hk
  refine nd_x (fun u W => ∃ g : SVeh, u = .tuple #[.agg g.cells.toArray, .int .i64 p.2] ∧ G g W) (fun u a b h x => by obtain ⟨g, h1, h2⟩ := h; exact ⟨g, h1, hG _ _ _ h2 x⟩) (fun w7 x7 _ => ?_) fun u1 => ?_
  · refine callF_ret (hc w7 x7) ?_
    rintro _ w8 ⟨g, rfl, x8, hf⟩
    exact ⟨x8, g, rfl, fun W' m => hf W' (m.mono fun k _ h => h.imp (fun h => Nat.lt_of_lt_of_le h x7.size) id)⟩
  refine nd_x (fun u W => ∃ g : SVeh, u = .tuple #[.agg g.cells.toArray, .int .i64 p.2] ∧ G g W) (fun u a b h x => by obtain ⟨g, h1, h2⟩ := h; exact ⟨g, h1, hG _ _ _ h2 x⟩) (fun w7 x7 h => ⟨Ext.refl _, h⟩) fun u2 => ?_
  refine nd_x (fun u W => ∃ g : SVeh, u2 = .tuple #[.agg g.cells.toArray, .int .i64 p.2] ∧ u = .agg g.cells.toArray ∧ G g W) (fun u a b h x => by obtain ⟨g, h0, h1, h2⟩ := h; exact ⟨g, h0, h1, hG _ _ _ h2 x⟩) (fun w7 x7 h => ?_) fun u3 => ?_
  · obtain ⟨g, rfl, h2⟩ := h
    rw [ext2_0]
    exact ⟨Ext.refl _, g, rfl, rfl, h2⟩
  refine nd_x (fun u W => ∃ g : SVeh, u3 = .agg g.cells.toArray ∧ u = .int .i64 p.2 ∧ G g W) (fun u a b h x => by obtain ⟨g, h0, h1, h2⟩ := h; exact ⟨g, h0, h1, hG _ _ _ h2 x⟩) (fun w7 x7 h => ?_) fun u4 => ?_
  · obtain ⟨g, rfl, rfl, h2⟩ := h
    rw [ext2_1]
    exact ⟨Ext.refl _, g, rfl, rfl, h2⟩
  rintro w7 x7 ⟨g, rfl, rfl, h2⟩
  exact ⟨u1, u2, g, rfl, h2⟩
theorem veh_alloc_thr {t : Nat} {w0 : World} {X : List PanicEntry → World → Prop} {rest : (List Value → World → Prop) → Prop}
    (hk : rest fun vs W => ∃ k, vs = [.pointer (some ⟨k, 0, none⟩)] ∧ At W k (.cells SVeh.zero.cells.toArray 28 (0, 0)) ∧ w0.heap.size ≤ k) :
    ThrE Ext (fun _ => Ext) t w0 (fun Θ T => NdC Ext (fun _ => Ext) t w0 Θ (fun w1 K => DoV Tryz.prog (Instr.alloc 28 true (.tuple #[])) w1 K X) (fun v1 φ1 => T [v1] φ1)) rest := by
  refine thr_x _ ?_ hk
  refine nd_x (fun u W => ∃ k, u = .pointer (some ⟨k, 0, none⟩) ∧ At W k (.cells SVeh.zero.cells.toArray 28 (0, 0)) ∧ w0.heap.size ≤ k) (fun v a b hs hx => by obtain ⟨k, e1, e2, e3⟩ := hs; exact ⟨k, e1, e2.ext hx, e3⟩) (fun w6 x6 _ => ?_) fun v1 => ?_
  · refine alloc_i Ty.SVeh_zero fun k w7 x7 hatk hk _ => ?_
    exact ⟨x7, k, rfl, hatk, by have := x6.size; omega⟩
  · rintro w6 x6 ⟨k, rfl, h5, h6⟩
    exact ⟨k, rfl, h5, h6⟩
theorem new_exE41 (n m : Int) : Tryz.prog.built 38 [(0, .int .i64 n), (1, .int .i64 m), (2, .int .i64 3), (3, .int .i64 1), (4, .int .i64 7), (7, .agg #[.int .i64 5, .int .i64 50])] = some (SEntry.mk n m 3 1 7 0 0 ⟨5, 50⟩ 0 0 0).cells.toArray := by kernel_rfl
theorem entry41_ret {n : Int} (hn : 1 ≤ n ∧ n ≤ 5) (w : World) : Ret Tryz.prog 24 #[.int .i64 n] w fun r w' => r = .agg (Veh.exE n).cells.toArray ∧ Ext w w' := by
  refine ret_of (fun _ _ => sh_landfalllaw41_entry_ok _) fun R hR => ?_
  unfold sh_landfalllaw41_entry
  refine alloc_i Ty.SEntry_zero fun b w1 x1 hat hb _ => ?_
  rw [bin_mul, i64_wrap (by omega) (by omega), build_i (new_span 5 50), build_i (new_exE41 n (10 * n))]
  refine SEntry.set (r := SEntry.zero) (s := Veh.exE n) hat fun w2 m2 h2 _ => ?_
  have hvv : (loadVar 38 ⟨b, 0, none⟩).run Tryz.prog w2 = .ok (.agg (Veh.exE n).cells.toArray) w2 := loadVar_agg Ty.SEntry_agg Ty.SEntry_size (xs := (Veh.exE n).cells) rfl (has_of_at h2)
  refine res_i (rv_cell hvv (rv_nil w2)) ?_
  exact hR _ _ ⟨rfl, ext_step x1 m2 (by omega)⟩
theorem new_pt1 (a : Int) : Tryz.prog.built 52 [(0, .int .i64 a)] = some (SPoint.mk a 0).cells.toArray := by kernel_rfl
theorem exRs_ok : ∀ l ∈ Veh.exRs, ∀ p ∈ l, p.Ok := by
  intro l hl p hp
  simp only [Veh.exRs, List.mem_singleton] at hl
  subst hl
  rw [List.mem_singleton] at hp
  subst hp
  exact ⟨by unfold I64; decide, by unfold I64; decide⟩
theorem ex0_ok : VehOk Veh.ex0 := ⟨⟨by decide, by decide⟩, ⟨by decide, by decide⟩, ⟨⟨by decide, by decide⟩, exRs_ok, fun e he => by cases he⟩, ⟨by decide, by decide⟩, ⟨by decide, by decide⟩, ⟨by decide, by decide⟩⟩
theorem head41_ret (w : World) (ht : Tab w) : Ret Tryz.prog 6 #[] w (TrueQ w) := by
  refine ret_of (fun _ _ => sh_landfalllaw41_head_ok) fun R hR => ?_
  unfold sh_landfalllaw41_head
  obtain ⟨q1, q2, q3, q4, q5, q6, q7, q8, q9, q10, q11, q12, q13, q14, q15, q16, q17, q18, q19, q20⟩ := Veh.ex_all
  rw [build_i (new_pt1 2)]
  refine SPoint.row_lit [⟨2, 0⟩] rfl (by decide) (by decide) rfl fun u1 w1 x1 h1 _ => ?_
  obtain ⟨ip, hip, hzp, hsp, hbp⟩ := Ty.info_parts Ty.points_info
  refine litn_i [u1] Ty.polys hip hsp hzp (fun v hv => by rw [List.mem_singleton] at hv; subst hv; exact Sl.cells (Sl.of_owns h1)) rfl (by decide) (by decide) rfl fun u2 w2 x2 h2 _ => ?_
  have hrl : RL w2 u2 Veh.exRs := ⟨[u1], Sl.of_owns h2, fun j u l hu hl => by
    match j, hu, hl with
    | 0, hu, hl => cases hu; cases hl; exact Sl.of_owns (Own.ext h1 x2)
    | j + 1, hu, _ => simp at hu⟩
  refine callF_ret (vnew_ret exRs_ok w2 hrl) ?_
  rintro _ w3 ⟨g0, rfl, x3, hf0⟩
  rw [Veh.ex_new] at hf0 ⊢
  have hg0 : VehIs w3 g0 Veh.ex0 := hf0 w3 (Mod.refl _ _) (hrl.ext x3)
  rw [ext2_0, ext2_1]
  have x03 := (x1.trans x2).trans x3
  refine SVeh.var fun b1 w4 x4 hat1 hb1 => ?_
  have x04 := x03.trans x4
  have hb1w : w.heap.size ≤ b1 := by have := x03.size; omega
  let B : Nat → Prop := fun k => k = b1
  have l0 : Live B w4 g0 Veh.ex0 := Live.of_ext hg0 x4 fun k h => by have h : k = b1 := h; omega
  have hlt4 := hat1.lt
  -- the first entry
  refine drawRX fun w5 x5 _ => ?_
  refine det_rx _ (fun w6 x6 K => SVeh.g_all (has_of_at ((hat1.ext x5).ext x6))) ?_
  refine det_rx_ret _ (fun w6 x6 => entry41_ret (n := 1) (by decide) w6) ?_
  refine veh_thr (fun w6 x6 => vwrite_ret ex0_ok (Veh.ex_ok 1 (by decide)) w6 (l0.is.ext (x5.trans x6)) (ht.ext (x04.trans (x5.trans x6)))) ?_
  rintro hh w6 x6 ⟨_, _, _, _, g1, e1, hf1⟩
  simp only [List.cons.injEq, and_true] at e1
  rw [e1.2.2.1, e1.2.2.2]
  have x46 := x5.trans x6
  refine SVeh.set (hat1.ext x46) fun w7 m7 hat7 _ => ?_
  have x07 : Ext w w7 := ext_step (x04.trans x46) m7 hb1w
  have l1 : Live B w7 g1 Veh.ex1 := (Live.of_frame (p := Veh.writeV Veh.ex0 (Veh.exE 1)) (l0.ext x5) x6 (fun k h => by have h : k = b1 := h; have := x5.size; omega) hf1).mod m7
  have ok1 : VehOk Veh.ex1 := VehOk.write ex0_ok (Veh.ex_ok 1 (by decide))
  -- the second
  refine drawRX fun w8 x8 _ => ?_
  refine det_rx _ (fun w9 x9 K => SVeh.g_all (has_of_at ((hat7.ext x8).ext x9))) ?_
  refine det_rx_ret _ (fun w9 x9 => entry41_ret (n := 2) (by decide) w9) ?_
  refine veh_thr (fun w9 x9 => vwrite_ret ok1 (Veh.ex_ok 2 (by decide)) w9 (l1.is.ext (x8.trans x9)) (ht.ext (x07.trans (x8.trans x9)))) ?_
  rintro hh2 w9 x9 ⟨_, _, _, _, g2, e2, hf2⟩
  simp only [List.cons.injEq, and_true] at e2
  rw [e2.2.2.1, e2.2.2.2]
  have x79 := x8.trans x9
  refine SVeh.set (hat7.ext x79) fun w10 m10 hat10 _ => ?_
  have x010 : Ext w w10 := ext_step (x07.trans x79) m10 hb1w
  have l2 : Live B w10 g2 Veh.ex2 := (Live.of_frame (p := Veh.writeV Veh.ex1 (Veh.exE 2)) (l1.ext x8) x9 (fun k h => by have h : k = b1 := h; have := hat7.lt; have := x8.size; omega) hf2).mod m10
  have ok2 : VehOk Veh.ex2 := VehOk.write ok1 (Veh.ex_ok 2 (by decide))
  -- the mark
  rw [SVeh.g_all (has_of_at hat10)]
  refine callF_ret (vmark_ret ok2 w10 l2.is (ht.ext x010)) ?_
  rintro _ w11 ⟨g3, rfl, x11, hf3⟩
  rw [ext2_0, ext2_1]
  refine SVeh.set (hat10.ext x11) fun w12 m12 hat12 _ => ?_
  have x012 : Ext w w12 := ext_step (x010.trans x11) m12 hb1w
  have l3 : Live B w12 g3 Veh.ex3 := (Live.of_frame (p := Veh.markV Veh.ex2) l2 x11 (fun k h => by have h : k = b1 := h; have := hat10.lt; omega) hf3).mod m12
  have ok3 : VehOk Veh.ex3 := VehOk.mark ok2
  -- the third entry
  refine drawRX fun w13 x13 _ => ?_
  refine det_rx _ (fun w14 x14 K => SVeh.g_all (has_of_at ((hat12.ext x13).ext x14))) ?_
  refine det_rx_ret _ (fun w14 x14 => entry41_ret (n := 3) (by decide) w14) ?_
  refine veh_thr (fun w14 x14 => vwrite_ret ok3 (Veh.ex_ok 3 (by decide)) w14 (l3.is.ext (x13.trans x14)) (ht.ext (x012.trans (x13.trans x14)))) ?_
  rintro hh3 w14 x14 ⟨_, _, _, _, g4, e4, hf4⟩
  simp only [List.cons.injEq, and_true] at e4
  rw [e4.2.2.1, e4.2.2.2]
  have x1214 := x13.trans x14
  refine SVeh.set (hat12.ext x1214) fun w15 m15 hat15 _ => ?_
  have x015 : Ext w w15 := ext_step (x012.trans x1214) m15 hb1w
  have l4 : Live B w15 g4 Veh.ex4 := (Live.of_frame (p := Veh.writeV Veh.ex3 (Veh.exE 3)) (l3.ext x13) x14 (fun k h => by have h : k = b1 := h; have := hat12.lt; have := x13.size; omega) hf4).mod m15
  have ok4 : VehOk Veh.ex4 := VehOk.write ok3 (Veh.ex_ok 3 (by decide))
  have v4 := l4.is
  -- an entry that does not follow
  refine drawRX fun w16 x16 _ => ?_
  refine det_rx _ (fun w17 x17 K => SVeh.g_all (has_of_at ((hat15.ext x16).ext x17))) ?_
  refine det_rx_ret _ (fun w17 x17 => entry41_ret (n := 5) (by decide) w17) ?_
  refine veh_thr (fun w17 x17 => vwrite_ret ok4 (Veh.ex_ok 5 (by decide)) w17 (v4.ext (x16.trans x17)) (ht.ext (x015.trans (x16.trans x17)))) ?_
  refine veh_alloc_thr ?_
  rintro hh4 w17 x17 ⟨_, ⟨_, _, _, g5, e5, hf5⟩, k7, e7, hat7', hk7⟩
  simp only [List.cons.injEq, and_true] at e5 e7
  rw [e5.2.2.1, e5.2.2.2, e7]
  have x1517 := x16.trans x17
  refine SVeh.set (r := SVeh.zero) hat7' fun w18 m18 _ _ => ?_
  have x1518 : Ext w15 w18 := ext_step x1517 m18 (by have := x16.size; omega)
  have x018 := x015.trans x1518
  have hat18 := hat15.ext x1518
  have v18 := v4.ext x1518
  have hg18 := has_of_at hat18
  have es : g4.sure = Veh.ex4.sure := v18.2.2.2.2.1
  have r1 : (Veh.writeV Veh.ex0 (Veh.exE 1)).2 = 0 := q1
  have r2 : (Veh.writeV Veh.ex1 (Veh.exE 2)).2 = 0 := q2
  have r3 : (Veh.markV Veh.ex2).2 = 0 := q3
  have r4 : (Veh.writeV Veh.ex3 (Veh.exE 3)).2 = 0 := q4
  rw [r1, r2, r3, r4, q5]
  refine join0 (fun W => W = w18) ?_ fun K hK => ?_
  · rintro _ W hW
    subst W
    rw [SVeh.g_all hg18, SVeh.g_sure hg18, es]
    refine callF_ret (vcrash_ret ok4 w18 v18 (ht.ext x018)) ?_
    rintro _ w19 hq19
    obtain ⟨gc, rfl, x19, hgc⟩ := hq19.is v18
    rw [ext2_0, ext2_1]
    refine SVeh.var fun b9 w20 x20 hat20 hb20 => ?_
    have x020 := (x018.trans x19).trans x20
    have okc : VehOk (Veh.crashV Veh.ex4 Veh.ex4.sure).1 := VehOk.crash ok4 _
    have vc := hgc.ext x20
    rw [SVeh.g_all (has_of_at hat20)]
    refine callF_ret (vmark_ret okc w20 vc (ht.ext x020)) ?_
    rintro _ w21 hq21
    obtain ⟨gm, rfl, x21, _⟩ := hq21.is vc
    rw [ext2_0, ext2_1]
    refine SVeh.var fun b11 w22 x22 _ hb22 => ?_
    have x2022 := x21.trans x22
    have x022 := x020.trans x2022
    rw [SVeh.g_all (has_of_at (hat20.ext x2022))]
    have lc : Live (fun k => k = b9) w22 gc _ := Live.of_ext hgc (x20.trans x2022) fun k h => by have h : k = b9 := h; omega
    refine callF_ret (vwake_ret okc w22 lc.is (ht.ext x022)) ?_
    rintro _ w23 ⟨gw, rfl, x23, hfw⟩
    rw [ext2_0, ext2_1]
    have x2023 := x2022.trans x23
    refine SVeh.set (hat20.ext x2023) fun w24 m24 hat24 _ => ?_
    have x1824 : Ext w18 w24 := ext_step ((x19.trans x20).trans x2023) m24 (by have := x19.size; omega)
    have x024 := x018.trans x1824
    have lw : Live (fun k => k = b9) w24 gw (Veh.wakeV (Veh.crashV Veh.ex4 Veh.ex4.sure).1).1 := (Live.of_frame lc x23 (fun k h => by have h : k = b9 := h; have := (hat20.ext x2022).lt; omega) hfw).mod m24
    have vw := lw.is
    have v24 := v18.ext x1824
    have hat124 := hat18.ext x1824
    rw [SVeh.g_all (has_of_at hat124), SVeh.g_byts (has_of_at hat124), v24.2.2.2.1.len Ty.bytes]
    refine callF_ret (vcrash_ret ok4 w24 v24 (ht.ext x024)) ?_
    rintro _ w25 hq25
    obtain ⟨gd, rfl, x25, hgd⟩ := hq25.is v24
    rw [ext2_0, ext2_1]
    refine SVeh.var fun b14 w26 x26 hat26 hb26 => ?_
    have x2426 := x25.trans x26
    have x026 := x024.trans x2426
    have okd : VehOk (Veh.crashV Veh.ex4 Veh.ex4.b.length).1 := VehOk.crash ok4 _
    have ld : Live (fun k => k = b14) w26 gd _ := Live.of_ext hgd x26 fun k h => by have h : k = b14 := h; omega
    rw [SVeh.g_all (has_of_at hat26)]
    refine callF_ret (vwake_ret okd w26 ld.is (ht.ext x026)) ?_
    rintro _ w27 ⟨gv, rfl, x27, hfv⟩
    rw [ext2_0, ext2_1]
    refine SVeh.set (hat26.ext x27) fun w28 m28 hat28 _ => ?_
    have x2428 : Ext w24 w28 := ext_step (x2426.trans x27) m28 (by have := x25.size; omega)
    have x028 := x024.trans x2428
    have lv : Live (fun k => k = b14) w28 gv (Veh.wakeV (Veh.crashV Veh.ex4 Veh.ex4.b.length).1).1 := (Live.of_frame ld x27 (fun k h => by have h : k = b14 := h; have := hat26.lt; omega) hfv).mod m28
    have vv := lv.is
    have okv : VehOk (Veh.wakeV (Veh.crashV Veh.ex4 Veh.ex4.b.length).1).1 := VehOk.wake okd
    rw [SVeh.g_all (has_of_at hat28)]
    refine callF_ret (vwake_ret okv w28 vv (ht.ext x028)) ?_
    rintro _ w29 hq29
    obtain ⟨go, rfl, x29, _⟩ := hq29.is vv
    rw [ext2_0, ext2_1]
    refine SVeh.var fun b17 w30 x30 _ _ => ?_
    have x2830 := x29.trans x30
    have x2430 := x2428.trans x2830
    have x030 := x024.trans x2430
    have v30 := v24.ext x2430
    have hat130 := hat124.ext x2430
    rw [SVeh.g_all (has_of_at hat130), SVeh.g_sure (has_of_at hat130), es, bin_sub, i64_wrap (by omega) (by omega)]
    refine callF_ret (vcrash_ret ok4 w30 v30 (ht.ext x030)) ?_
    rintro _ w31 hq31
    obtain ⟨gf, rfl, x31, _⟩ := hq31.is v30
    rw [ext2_0, ext2_1]
    refine SVeh.var fun b19 w32 x32 _ _ => ?_
    have x3032 := x31.trans x32
    have x032 := x030.trans x3032
    have x2832 := x2830.trans x3032
    have x2432 := x2428.trans x2832
    rw [q8, q9, q10, q11, q12, q13, q14]
    refine join1 (fun x W => x = .bool true ∧ W = w32) ?_ fun K3 hK3 => ?_
    · rintro h x W hx ⟨rfl, hW⟩
      subst W
      rw [hx]
      refine gd_t ?_
      have hat924 := hat24.ext x2432
      have hat1432 := hat28.ext x2832
      have vw32 := vw.ext x2432
      have vv32 := vv.ext x2832
      have v32 := v24.ext x2432
      rw [SVeh.g_log_ents (has_of_at hat924), SEntry.row_len vw32.2.2.1.2.2, bin_eql, q15]
      refine gd_t ?_
      rw [SVeh.g_up (has_of_at hat924), show gw.up = true by rw [vw32.2.2.2.2.2.1, q16]]
      refine gd_t ?_
      rw [SVeh.g_log_ents (has_of_at hat1432), SVeh.g_log_ents (has_of_at (hat124.ext x2432))]
      refine callF_ret (SameEntries_ret w32 vv32.2.2.1.2.2 v32.2.2.1.2.2) ?_
      rintro _ w33 ⟨rfl, x33⟩
      exact hR _ _ ⟨by rw [decide_eq_true q17], x032.trans x33⟩
    · rw [bin_eql]
      refine gd_t ?_
      rw [bin_eql]
      refine gd_t ?_
      rw [bin_eql]
      refine gd_t ?_
      rw [bin_eql]
      refine gd_t ?_
      rw [bin_eql]
      refine gd_t ?_
      rw [bin_eql]
      refine gd_t ?_
      rw [bin_eql]
      exact hK3 _ _ ⟨rfl, rfl⟩
  · refine join_in fun K2 hK2 => ?_
    rw [bin_neq]
    refine gd_f ?_
    rw [bin_neq]
    refine gd_f ?_
    rw [bin_neq]
    refine gd_f ?_
    rw [bin_neq]
    refine gd_f ?_
    rw [bin_neq]
    refine gd_f ?_
    rw [bin_neq]
    refine gd_f ?_
    rw [SVeh.g_sure hg18, es, bin_eql, decide_eq_false q6]
    refine gd_f ?_
    rw [SVeh.g_sure hg18, es, SVeh.g_byts hg18, v18.2.2.2.1.len Ty.bytes, bin_geq, decide_eq_false (by omega)]
    refine leaf1 hK2 fun h hh => ?_
    rw [hh]
    exact br_f (hK _ rfl)
end Go.Proofs.YtoeblipchoglaaaGreatDoor
