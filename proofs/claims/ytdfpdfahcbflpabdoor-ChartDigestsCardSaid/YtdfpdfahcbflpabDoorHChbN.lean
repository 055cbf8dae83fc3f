/- The reference's integers of a chart. -/
import Derived.Test.YtdfpdfahcbflpabDoorHChbI
set_option linter.unusedVariables false
set_option linter.unusedSimpArgs false
namespace Go.Proofs.YtdfpdfahcbflpabDoor
set_option maxRecDepth 100000
set_option maxHeartbeats 16000000
open Sh Go.RowKit
namespace Cha
def SizeP (C : Cht) : Prop := C.cells.length ≤ 4000 ∧ C.beacons.length ≤ 100 ∧ C.lines.length ≤ 50 ∧ ∀ l ∈ C.lines, l.2.length ≤ 64
theorem good_size {C : Cht} (hG : GoodC C) : SizeP C := ⟨by have := hG.1.2.2.2.2.1; have := hG.1.2.2.2.2.2.1; omega, hG.2.2.1.2.2, hG.2.2.2.2.2, fun l hl => (pathOk_iff.1 (List.all_eq_true.1 hG.2.2.2.1 l hl)).2.1.2⟩
end Cha
theorem nd_lit {w0 : World} {n : Nat} {parts : Array (Nat × Value)} {X : List PanicEntry → World → Prop} {rest : Value → (World → Prop) → Prop} (m : List Int) (hn : m.length = n) (hpos : 0 < n) (hsm : n ≤ 16777216) (hp : parts.toList = ((iv m).zipIdx 0).map fun x => (x.2, x.1))
    (hk : ∀ v, rest v fun W => IntsIs W v m) : NdOp Ext Ext w0 (fun w1 K => DoV Tryd.prog (Instr.buildSlice 45 n parts) w1 K X) rest :=
  ⟨fun v W => IntsIs W v m, fun _ _ _ h x => h.ext x, fun w1 _ => lit_ints m hn hpos hsm hp fun v w2 x2 ho _ => ⟨x2, Sl.of_owns ho⟩, hk⟩
open Cha in
theorem refInts_ret {s : SChart} {C : Cht} (w : World) (hc : ChartIs w s C) (hS : SizeP C) : Ret Tryd.prog 12 #[.agg s.cells.toArray] w fun r w' => IntsIs w' r (ints C) ∧ Ext w w' := by
  refine ret_of (fun _ _ => sh_landfallref15_Ints_ok _) fun R hR => ?_
  unfold sh_landfallref15_Ints
  refine box_i fun g w1 x1 hat1 hg1 _ => ?_
  obtain ⟨hcl, hbl, hll, hpl⟩ := hS
  have hg : ∀ V, Ext w1 V → Has V g 0 s.cells := fun V x => has_of_at (hat1.ext x)
  have rowc : ∀ V, Ext w1 V → SCell.Row V s.cs.val C.cells := fun V x => Sl.ext hc.cells (x1.trans x)
  have rowb : ∀ V, Ext w1 V → SBeacon.Row V s.bs.val C.beacons := fun V x => Sl.ext hc.beacons (x1.trans x)
  have rowl : ∀ V, Ext w1 V → LinesIs V s.ls.val C.lines := fun V x => hc.lines.ext (x1.trans x)
  have h1 := hg w1 (Ext.refl _)
  have ldc : ∀ V, Ext w1 V → ∀ {K : Value → World → Prop} {X : List PanicEntry → World → Prop}, DoV Tryd.prog (Instr.loadAt 22 (.pointer (some ⟨g, 0 + 6, none⟩))) V K X = K s.cs.val V := fun V x K X => load_cell (fun w => show (isAgg 22).run Tryd.prog w = .ok false w by kernel_rfl) (has_at (hg V x) (d := 6) rfl rfl)
  have ldb : ∀ V, Ext w1 V → ∀ {K : Value → World → Prop} {X : List PanicEntry → World → Prop}, DoV Tryd.prog (Instr.loadAt 23 (.pointer (some ⟨g, 0 + 7, none⟩))) V K X = K s.bs.val V := fun V x K X => load_cell (fun w => show (isAgg 23).run Tryd.prog w = .ok false w by kernel_rfl) (has_at (hg V x) (d := 7) rfl rfl)
  have ldl : ∀ V, Ext w1 V → ∀ {K : Value → World → Prop} {X : List PanicEntry → World → Prop}, DoV Tryd.prog (Instr.loadAt 24 (.pointer (some ⟨g, 0 + 8, none⟩))) V K X = K s.ls.val V := fun V x K X => load_cell (fun w => show (isAgg 24).run Tryd.prog w = .ok false w by kernel_rfl) (has_at (hg V x) (d := 8) rfl rfl)
  rw [SChart.g_ver h1, SChart.g_x h1, SChart.g_y h1, SChart.g_w h1, SChart.g_h h1, SChart.g_size h1, SChart.g_cs h1, SCell.row_len (rowc w1 (Ext.refl _)), hc.ver, hc.x, hc.y, hc.w, hc.h, hc.size]
  refine lit_ints [C.ver, C.x, C.y, C.w, C.h, C.size, (C.cells.length : Int)] rfl (by decide) (by decide) rfl fun v0 w2 x2 ho2 _ => ?_
  have own : ∀ {v : Value} {l : List Int} {V V2 : World}, V.ownsRow w1.heap.size 3 1 v l.length (iv l) → Mod (fun k => v.ownBlock = some k) V V2 → Ext w1 V → Ext w1 V2 := fun ho m x => ((Mod.of_ext x : Mod (w1.heap.size ≤ ·) w1 _).trans (m.mono fun k _ hk => (Own.block ho hk).1)).new
  generalize hA : ([C.ver, C.x, C.y, C.w, C.h, C.size, (C.cells.length : Int)] : List Int) = A at *
  have hAl : A.length = 7 := by rw [← hA]; rfl
  refine loop3 (fun a x _ W => ∃ (v : Value) (k : Nat), k ≤ C.cells.length ∧ a = v ∧ x = .int .i64 k ∧ Ext w1 W ∧ W.ownsRow w1.heap.size 3 1 v (A ++ (C.cells.take k).flatMap cellInts).length (iv (A ++ (C.cells.take k).flatMap cellInts))) (fun _ x _ _ => C.cells.length - (intOf x).toNat) ⟨v0, 0, by omega, rfl, rfl, x2, by simpa using ho2⟩ ?_
  rintro h _ _ _ W hv hx _ ⟨v, k, hk, rfl, rfl, xW, ho⟩ K hK
  rw [SChart.g_cs (hg W xW), SCell.row_len (rowc W xW), hx, bin_lss]
  have hlen : (A ++ (C.cells.take k).flatMap cellInts).length ≤ 7 + 4 * 4000 := by
    have := flat_len (f := cellInts) (n := 4) (C.cells.take k) fun _ _ => Nat.le_refl _
    rw [List.length_append, hAl]
    rw [List.length_take] at this
    omega
  have zW := xW.size
  refine Br_i (fun hb => ?_) fun hb => ?_
  · have hlt : k < C.cells.length := by have := dec_t hb; omega
    refine join2 (fun a _ W' => ∃ v' : Value, a = v' ∧ Ext w1 W' ∧ W'.ownsRow w1.heap.size 3 1 v' (A ++ (C.cells.take (k + 1)).flatMap cellInts).length (iv (A ++ (C.cells.take (k + 1)).flatMap cellInts))) ?_ fun K5 hK5 => ?_
    · rintro h2 a _ W' ha _ ⟨v', rfl, y1, y2⟩
      rw [ha, bin_add, i64_wrap (by omega) (by omega)]
      exact hK _ _ _ _ ⟨_, k + 1, by omega, rfl, by simp, y1, y2⟩ (by simp [intOf]; omega)
    obtain ⟨pb, po, hh, _, hix⟩ := SCell.row_at (rowc W xW) hlt
    refine join1 (fun a W' => a = .int .i64 (if C.cells[k].void then 1 else 0) ∧ W' = W) ?_ fun K6 hK6 => ?_
    · rintro h2 a W' ha ⟨rfl, hW'⟩
      subst W'
      refine draw_ext fun w3 x3 => ?_
      have x13 := xW.trans x3
      have hx' : ∀ V, Ext w3 V → Has V pb po C.cells[k].cells := fun V x => hh V (x3.trans x)
      refine det_read _ (fun V x K => Ty.SChart_f6) ?_
      refine det_read s.cs.val (fun V x K => ldc V (x13.trans x)) ?_
      refine det_read _ (fun V x K => hix V K _) ?_
      refine det_read _ (fun V x K => Ty.SCell_f0) ?_
      refine det_read _ (fun V x K => Ty.SSpan_f0) ?_
      refine det_read (.int .i64 C.cells[k].depth.lo) (fun V x K => load_cell Ty.int_agg (has_at (hx' V x) (d := 0) (by omega) rfl)) ?_
      refine det_read _ (fun V x K => Ty.SChart_f6) ?_
      refine det_read s.cs.val (fun V x K => ldc V (x13.trans x)) ?_
      refine det_read _ (fun V x K => hix V K _) ?_
      refine det_read _ (fun V x K => Ty.SCell_f0) ?_
      refine det_read _ (fun V x K => Ty.SSpan_f1) ?_
      refine det_read (.int .i64 C.cells[k].depth.hi) (fun V x K => load_cell Ty.int_agg (has_at (hx' V x) (d := 1) (by omega) rfl)) ?_
      refine det_read _ (fun V x K => Ty.SChart_f6) ?_
      refine det_read s.cs.val (fun V x K => ldc V (x13.trans x)) ?_
      refine det_read _ (fun V x K => hix V K _) ?_
      refine det_read _ (fun V x K => Ty.SCell_f1) ?_
      refine det_read (.int .i64 C.cells[k].date) (fun V x K => load_cell Ty.int_agg (has_at (hx' V x) (d := 2) (by omega) rfl)) ?_
      rw [ha]
      refine nd_lit (cellInts C.cells[k]) rfl (by decide) (by decide) rfl fun vl => ?_
      intro w4 x4 hψ
      have hlit := hψ.2
      rw [hv]
      refine app_ints (Own.ext ho (x3.trans x4)) hlit (by have : (cellInts C.cells[k]).length = 4 := rfl; omega) (by have := (xW.trans (x3.trans x4)).size; omega) fun v' w5 ho5 m5 => ?_
      refine hK5 _ _ _ ⟨v', rfl, own (Own.ext ho (x3.trans x4)) m5 (x13.trans x4), ?_⟩
      rw [flat_take hlt, ← List.append_assoc]; exact ho5
    · rw [SChart.g_cs (hg W xW), hix, SCell.g_void (hh W (Ext.refl _))]
      refine Br_i (fun hv => hK6 _ _ ⟨by rw [hv]; rfl, rfl⟩) fun hv => hK6 _ _ ⟨by rw [hv]; rfl, rfl⟩
  have hke : k = C.cells.length := by have := dec_f hb; omega
  subst hke
  rw [List.take_length] at ho hlen
  generalize hA2 : A ++ C.cells.flatMap cellInts = A2 at *
  rw [SChart.g_bs (hg W xW), SBeacon.row_len (rowb W xW)]
  refine lit_ints [(C.beacons.length : Int)] rfl (by decide) (by decide) rfl fun vb w3 x3 ho3 _ => ?_
  rw [hv]
  refine app_ints (Own.ext ho x3) (Sl.of_owns ho3) (by simp only [List.length_cons, List.length_nil]; omega) (by have := (xW.trans x3).size; omega) fun v4 w4 ho4 m4 => ?_
  have x14 := own (Own.ext ho x3) m4 (xW.trans x3)
  generalize hA3 : A2 ++ [(C.beacons.length : Int)] = A3 at *
  have hA3l : A3.length ≤ 8 + 4 * 4000 := by rw [← hA3]; simp only [List.length_append, List.length_cons, List.length_nil]; omega
  clear hv hx
  refine loop2 (fun a x W => ∃ (v : Value) (k : Nat), k ≤ C.beacons.length ∧ a = v ∧ x = .int .i64 k ∧ Ext w1 W ∧ W.ownsRow w1.heap.size 3 1 v (A3 ++ (C.beacons.take k).flatMap beaconInts).length (iv (A3 ++ (C.beacons.take k).flatMap beaconInts))) (fun _ x _ => C.beacons.length - (intOf x).toNat) ⟨v4, 0, by omega, rfl, rfl, x14, by simpa using ho4⟩ ?_
  rintro h _ _ W2 hv hx ⟨v, k, hk, rfl, rfl, xW2, hob⟩ K hK
  rw [SChart.g_bs (hg W2 xW2), SBeacon.row_len (rowb W2 xW2), hx, bin_lss]
  have hlen2 : (A3 ++ (C.beacons.take k).flatMap beaconInts).length ≤ 9 + 4 * 4000 + 300 := by
    have := flat_len (f := beaconInts) (n := 3) (C.beacons.take k) fun _ _ => Nat.le_refl _
    rw [List.length_append]
    rw [List.length_take] at this
    omega
  refine Br_i (fun hb => ?_) fun hb => ?_
  · have hlt : k < C.beacons.length := by have := dec_t hb; omega
    obtain ⟨pb, po, hh, _, hix⟩ := SBeacon.row_at (rowb W2 xW2) hlt
    refine draw_ext fun w5 x5 => ?_
    have x15 := xW2.trans x5
    have hx' : ∀ V, Ext w5 V → Has V pb po C.beacons[k].cells := fun V x => hh V (x5.trans x)
    refine det_read _ (fun V x K => Ty.SChart_f7) ?_
    refine det_read s.bs.val (fun V x K => ldb V (x15.trans x)) ?_
    refine det_read _ (fun V x K => hix V K _) ?_
    refine det_read _ (fun V x K => Ty.SBeacon_f0) ?_
    refine det_read (.int .i64 C.beacons[k].id) (fun V x K => load_cell Ty.int_agg (has_at (hx' V x) (d := 0) (by omega) rfl)) ?_
    refine det_read _ (fun V x K => Ty.SChart_f7) ?_
    refine det_read s.bs.val (fun V x K => ldb V (x15.trans x)) ?_
    refine det_read _ (fun V x K => hix V K _) ?_
    refine det_read _ (fun V x K => Ty.SBeacon_f1) ?_
    refine det_read _ (fun V x K => Ty.SPoint_f0) ?_
    refine det_read (.int .i64 C.beacons[k].at_.x) (fun V x K => load_cell Ty.int_agg (has_at (hx' V x) (d := 1) (by omega) rfl)) ?_
    refine det_read _ (fun V x K => Ty.SChart_f7) ?_
    refine det_read s.bs.val (fun V x K => ldb V (x15.trans x)) ?_
    refine det_read _ (fun V x K => hix V K _) ?_
    refine det_read _ (fun V x K => Ty.SBeacon_f1) ?_
    refine det_read _ (fun V x K => Ty.SPoint_f1) ?_
    refine det_read (.int .i64 C.beacons[k].at_.y) (fun V x K => load_cell Ty.int_agg (has_at (hx' V x) (d := 2) (by omega) rfl)) ?_
    refine nd_lit (beaconInts C.beacons[k]) rfl (by decide) (by decide) rfl fun vl => ?_
    intro w6 x6 hψ
    have hlit := hψ.2
    rw [hv]
    refine app_ints (Own.ext hob (x5.trans x6)) hlit (by have : (beaconInts C.beacons[k]).length = 3 := rfl; omega) (by have := (xW2.trans (x5.trans x6)).size; omega) fun v' w7 ho7 m7 => ?_
    rw [bin_add, i64_wrap (by omega) (by omega)]
    refine hK _ _ _ ⟨v', k + 1, by omega, rfl, by simp, own (Own.ext hob (x5.trans x6)) m7 (x15.trans x6), ?_⟩ (by simp [intOf]; omega)
    rw [flat_take hlt, ← List.append_assoc]; exact ho7
  have hke : k = C.beacons.length := by have := dec_f hb; omega
  subst hke
  rw [List.take_length] at hob hlen2
  generalize hA4 : A3 ++ C.beacons.flatMap beaconInts = A4 at *
  rw [SChart.g_ls (hg W2 xW2), (rowl W2 xW2).len]
  refine lit_ints [(C.lines.length : Int)] rfl (by decide) (by decide) rfl fun vb w8 x8 ho8 _ => ?_
  rw [hv]
  refine app_ints (Own.ext hob x8) (Sl.of_owns ho8) (by simp only [List.length_cons, List.length_nil]; omega) (by have := (xW2.trans x8).size; omega) fun v9 w9 ho9 m9 => ?_
  have x19 := own (Own.ext hob x8) m9 (xW2.trans x8)
  generalize hA5 : A4 ++ [(C.lines.length : Int)] = A5 at *
  have hA5l : A5.length ≤ 10 + 4 * 4000 + 300 := by rw [← hA5]; simp only [List.length_append, List.length_cons, List.length_nil]; omega
  clear hv hx
  refine loop3 (fun a x _ W => ∃ (v : Value) (k : Nat), k ≤ C.lines.length ∧ a = v ∧ x = .int .i64 k ∧ Ext w1 W ∧ W.ownsRow w1.heap.size 3 1 v (A5 ++ (C.lines.take k).flatMap lineInts).length (iv (A5 ++ (C.lines.take k).flatMap lineInts))) (fun _ x _ _ => C.lines.length - (intOf x).toNat) ⟨v9, 0, by omega, rfl, rfl, x19, by simpa using ho9⟩ ?_
  rintro h _ _ _ W3 hv hx _ ⟨v, k, hk, rfl, rfl, xW3, hol⟩ K hK
  rw [SChart.g_ls (hg W3 xW3), (rowl W3 xW3).len, hx, bin_lss]
  have hlen3 : (A5 ++ (C.lines.take k).flatMap lineInts).length ≤ 10 + 4 * 4000 + 300 + 50 * 130 := by
    have := flat_len (f := lineInts) (n := 130) (C.lines.take k) fun l hl => line_len (hpl l (List.mem_of_mem_take hl))
    rw [List.length_append]
    rw [List.length_take] at this
    omega
  refine Br_i (fun hb => ?_) fun hb => ?_
  · have hlt : k < C.lines.length := by have := dec_t hb; omega
    have hp64 := hpl _ (List.getElem_mem hlt)
    obtain ⟨pb, po, sl, hsl, hhas, hix⟩ := (rowl w1 (Ext.refl _)).at_ hlt
    have ldp : ∀ V, Ext w1 V → ∀ {K : Value → World → Prop} {X : List PanicEntry → World → Prop}, DoV Tryd.prog (Instr.loadAt 37 (.pointer (some ⟨pb, po + 1, none⟩))) V K X = K sl.pts.val V := fun V x K X => load_cell Ty.pts_agg15 (has_at (hhas V x) (d := 1) rfl rfl)
    have hrow : ∀ V, Ext w1 V → SPoint.Row V sl.pts.val C.lines[k].2 := fun V x => Sl.ext hsl.2 x
    refine draw_ext fun w10 x10 => ?_
    have x110 := xW3.trans x10
    refine det_read _ (fun V x K => Ty.SChart_f8) ?_
    refine det_read s.ls.val (fun V x K => ldl V (x110.trans x)) ?_
    refine det_read _ (fun V x K => hix V K _) ?_
    refine det_read _ (fun V x K => Ty.SLine_f0) ?_
    refine det_read (.int .i64 sl.id) (fun V x K => load_cell Ty.int_agg (has_at (hhas V (x110.trans x)) (d := 0) (by omega) rfl)) ?_
    refine det_read _ (fun V x K => Ty.SChart_f8) ?_
    refine det_read s.ls.val (fun V x K => ldl V (x110.trans x)) ?_
    refine det_read _ (fun V x K => hix V K _) ?_
    refine det_read _ (fun V x K => Ty.SLine_f1) ?_
    refine det_read sl.pts.val (fun V x K => ldp V (x110.trans x)) ?_
    refine det_read _ (fun V x K => SPoint.row_len (hrow V (x110.trans x))) ?_
    rw [hsl.1]
    refine nd_lit [C.lines[k].1, (C.lines[k].2.length : Int)] rfl (by decide) (by decide) rfl fun vl => ?_
    intro w11 x11 hψ
    have hlit := hψ.2
    rw [hv]
    refine app_ints (Own.ext hol (x10.trans x11)) hlit (by simp only [List.length_cons, List.length_nil]; omega) (by have := (xW3.trans (x10.trans x11)).size; omega) fun v12 w12 ho12 m12 => ?_
    have x112 := own (Own.ext hol (x10.trans x11)) m12 (x110.trans x11)
    generalize hA6 : (A5 ++ (C.lines.take k).flatMap lineInts) ++ [C.lines[k].1, (C.lines[k].2.length : Int)] = A6 at *
    have hA6l : A6.length ≤ 12 + 4 * 4000 + 300 + 50 * 130 := by rw [← hA6, List.length_append]; simp only [List.length_cons, List.length_nil]; omega
    refine loop2 (fun a x W => ∃ (v : Value) (j : Nat), j ≤ C.lines[k].2.length ∧ a = v ∧ x = .int .i64 j ∧ Ext w1 W ∧ W.ownsRow w1.heap.size 3 1 v (A6 ++ (C.lines[k].2.take j).flatMap ptInts).length (iv (A6 ++ (C.lines[k].2.take j).flatMap ptInts))) (fun _ x _ => C.lines[k].2.length - (intOf x).toNat) ⟨v12, 0, by omega, rfl, rfl, x112, by simpa using ho12⟩ ?_
    rintro h' _ _ W4 hv4 hx4 ⟨v, j, hj, rfl, rfl, xW4, hoj⟩ K2 hK2
    rw [SChart.g_ls (hg W4 xW4), hix, SLine.g_pts (hhas W4 xW4), SPoint.row_len (hrow W4 xW4), hx4, bin_lss]
    have hlen4 : (A6 ++ (C.lines[k].2.take j).flatMap ptInts).length ≤ 12 + 4 * 4000 + 300 + 50 * 130 + 128 := by
      have := flat_len (f := ptInts) (n := 2) (C.lines[k].2.take j) fun _ _ => Nat.le_refl _
      rw [List.length_append]
      rw [List.length_take] at this
      omega
    refine Br_i (fun hb2 => ?_) fun hb2 => ?_
    · have hjlt : j < C.lines[k].2.length := by have := dec_t hb2; omega
      obtain ⟨qb, qo, hq, _, hqix⟩ := SPoint.row_at (hrow w1 (Ext.refl _)) hjlt
      refine draw_ext fun w13 x13 => ?_
      have x113 := xW4.trans x13
      refine det_read _ (fun V x K => Ty.SChart_f8) ?_
      refine det_read s.ls.val (fun V x K => ldl V (x113.trans x)) ?_
      refine det_read _ (fun V x K => hix V K _) ?_
      refine det_read _ (fun V x K => Ty.SLine_f1) ?_
      refine det_read sl.pts.val (fun V x K => ldp V (x113.trans x)) ?_
      refine det_read _ (fun V x K => hqix V K _) ?_
      refine det_read _ (fun V x K => Ty.SPoint_f0) ?_
      refine det_read (.int .i64 C.lines[k].2[j].x) (fun V x K => load_cell Ty.int_agg (has_at (hq V (x113.trans x)) (d := 0) (by omega) rfl)) ?_
      refine det_read _ (fun V x K => Ty.SChart_f8) ?_
      refine det_read s.ls.val (fun V x K => ldl V (x113.trans x)) ?_
      refine det_read _ (fun V x K => hix V K _) ?_
      refine det_read _ (fun V x K => Ty.SLine_f1) ?_
      refine det_read sl.pts.val (fun V x K => ldp V (x113.trans x)) ?_
      refine det_read _ (fun V x K => hqix V K _) ?_
      refine det_read _ (fun V x K => Ty.SPoint_f1) ?_
      refine det_read (.int .i64 C.lines[k].2[j].y) (fun V x K => load_cell Ty.int_agg (has_at (hq V (x113.trans x)) (d := 1) (by omega) rfl)) ?_
      refine nd_lit (ptInts C.lines[k].2[j]) rfl (by decide) (by decide) rfl fun vl => ?_
      intro w14 x14 hψ
      have hlit := hψ.2
      rw [hv4]
      refine app_ints (Own.ext hoj (x13.trans x14)) hlit (by have : (ptInts C.lines[k].2[j]).length = 2 := rfl; omega) (by have := (xW4.trans (x13.trans x14)).size; omega) fun v' w15 ho15 m15 => ?_
      rw [bin_add, i64_wrap (by omega) (by omega)]
      refine hK2 _ _ _ ⟨v', j + 1, by omega, rfl, by simp, own (Own.ext hoj (x13.trans x14)) m15 (x113.trans x14), ?_⟩ (by simp [intOf]; omega)
      rw [flat_take hjlt, ← List.append_assoc]; exact ho15
    · have hje : j = C.lines[k].2.length := by have := dec_f hb2; omega
      subst hje
      rw [List.take_length] at hoj
      rw [bin_add, i64_wrap (by omega) (by omega), hv4]
      refine hK _ _ _ _ ⟨_, k + 1, by omega, rfl, by simp, xW4, ?_⟩ (by simp [intOf]; omega)
      rw [flat_take hlt]
      have e : A6 ++ C.lines[k].2.flatMap ptInts = A5 ++ ((C.lines.take k).flatMap lineInts ++ lineInts C.lines[k]) := by rw [← hA6]; simp [lineInts, List.append_assoc]
      rw [← e]; exact hoj
  have hke : k = C.lines.length := by have := dec_f hb; omega
  subst hke
  rw [List.take_length] at hol
  have hall : A5 ++ C.lines.flatMap lineInts = ints C := by rw [← hA5, ← hA4, ← hA3, ← hA2, ← hA]; rfl
  rw [hall] at hol
  rw [hv]
  exact hR _ _ ⟨Sl.of_owns hol, x1.trans xW3⟩
end Go.Proofs.YtdfpdfahcbflpabDoor
