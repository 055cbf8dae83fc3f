/- chart.Digest. -/
import Derived.Test.YtdfpdfahcbflpabDoorHChbD
import Derived.Test.YtdfpdfahcbflpabDoorHDecA
set_option linter.unusedVariables false
set_option linter.unusedSimpArgs false
namespace Go.Proofs.YtdfpdfahcbflpabDoor
set_option maxRecDepth 100000
set_option maxHeartbeats 16000000
open Sh Go.RowKit
namespace Cha
def cellInts (c : SCell) : List Int := [c.depth.lo, c.depth.hi, c.date, if c.void then 1 else 0]
def beaconInts (b : SBeacon) : List Int := [b.id, b.at_.x, b.at_.y]
def ptInts (p : SPoint) : List Int := [p.x, p.y]
def lineInts (l : Line) : List Int := [l.1, (l.2.length : Int)] ++ l.2.flatMap ptInts
def ints (C : Cht) : List Int := [C.ver, C.x, C.y, C.w, C.h, C.size, (C.cells.length : Int)] ++ C.cells.flatMap cellInts ++ [(C.beacons.length : Int)] ++ C.beacons.flatMap beaconInts ++ [(C.lines.length : Int)] ++ C.lines.flatMap lineInts
open Classical in
noncomputable def digestV (C : Cht) : BitVec 64 × Int := if GoodC C then (Dig.sum (ints C), 0) else (0, 1)
theorem flat_take {α : Type} {f : α → List Int} {l : List α} {k : Nat} (h : k < l.length) : (l.take (k + 1)).flatMap f = (l.take k).flatMap f ++ f l[k] := by
  rw [List.take_succ_eq_append_getElem h, List.flatMap_append]; simp
theorem flat_len {α : Type} {f : α → List Int} {n : Nat} : ∀ (l : List α), (∀ a ∈ l, (f a).length ≤ n) → (l.flatMap f).length ≤ l.length * n
  | [], _ => by simp
  | a :: l, h => by
    have h1 := h a (List.mem_cons_self ..)
    have h2 := flat_len l fun b hb => h b (List.mem_cons_of_mem _ hb)
    rw [List.flatMap_cons, List.length_append, List.length_cons, Nat.add_mul, Nat.one_mul]
    omega
theorem line_len {l : Line} (h : l.2.length ≤ 64) : (lineInts l).length ≤ 130 := by
  have := flat_len (f := ptInts) (n := 2) l.2 fun _ _ => Nat.le_refl _
  simp only [lineInts, List.length_append, List.length_cons, List.length_nil]
  omega
end Cha
def Sep (a b : World) : Prop := ∀ k cs e f, e ≠ 3 → e ≠ 45 → At a k (.cells cs e f) → At b k (.cells cs e f)
theorem put_ret {base bo : Nat} {l m : List Int} {x : Value} (w : World) (h : Acc base bo l w) (hx : IntsIs w x m) (hl : l.length + m.length < 10000000000000) (hb : base ≤ w.heap.size) :
    Ret Tryd.prog 31 #[x, .pointer (some ⟨bo, 0, none⟩)] w fun r w' => r = .tuple #[] ∧ Mod (fun k => k = bo ∨ base ≤ k) w w' ∧ Sep w w' ∧ Acc base bo (l ++ m) w' := by
  refine ret_of (fun _ _ => sh_chart_Digest_1_ok _ _) fun R hR => ?_
  unfold sh_chart_Digest_1
  obtain ⟨v, h1, h2⟩ := h
  rw [load_e (u := v) Ty.ints_agg15 h1 rfl]
  refine app_ints h2 hx hl hb fun v' w1 ho m1 => ?_
  have hat1 := h1.mod m1 (fun e => Own.off_at h2 h1 (by decide) _ e rfl)
  refine store_i Ty.ints_size15 hat1 (by simp) (Sl.one (Sl.of_owns ho)) fun w2 m2 hat2 s2 => ?_
  refine hR _ _ ⟨rfl, (m1.mono fun k _ hk => .inr (Own.block h2 hk).1).trans (m2.mono fun k _ hk => .inl hk), fun k cs e f he1 he2 hat => ?_, v', hat2, Own.mod ho m2 (Own.off_at ho hat1 (by decide))⟩
  refine (hat.mod m1 fun e' => Own.off_at h2 hat (Ne.symm he1) _ e' rfl).mod m2 fun e' => ?_
  subst e'
  exact At.inj h1 hat (Ne.symm he2) rfl
theorem put_i {base bo n : Nat} {l : List Int} {w : World} {parts : Array (Nat × Value)} {K : World → Prop} {X X1 : List PanicEntry → World → Prop} (m : List Int) (hn : m.length = n) (hpos : 0 < n) (hsm : n ≤ 16777216) (hp : parts.toList = ((iv m).zipIdx 0).map fun x => (x.2, x.1))
    (h : Acc base bo l w) (hl : l.length + m.length < 10000000000000) (hb : base ≤ w.heap.size) (hbo : base ≤ bo)
    (hK : ∀ W, Mod (base ≤ ·) w W → Sep w W → Acc base bo (l ++ m) W → K W) :
    DoV Tryd.prog (Instr.buildSlice 45 n parts) w (fun s w1 => CallV Tryd.prog (.func (.func 31) #[] #[.pointer (some ⟨bo, 0, none⟩)]) #[s] w1 (fun _ w2 => K w2) X1) X := by
  refine lit_ints m hn hpos hsm hp fun v w1 x1 ho _ => ?_
  rw [callV_func (by kernel_rfl)]
  refine callF_ret (put_ret w1 (h.ext x1) (Sl.of_owns ho) hl (by have := x1.size; omega)) ?_
  rintro _ w2 ⟨_, m2, s2, h2⟩
  exact hK w2 ((Mod.of_ext x1).trans (m2.mono fun k _ hk => by omega)) (fun k cs e f h1 h2 hat => s2 k cs e f h1 h2 (hat.ext x1)) h2
open Cha in
theorem chDigest_ret {s : SChart} {C : Cht} (w : World) (hc : ChartIs w s C) (hok : ChartOk C) (hT : Tab w) : Ret Tryd.prog 13 #[.agg s.cells.toArray] w fun r w' => r = .tuple #[u64v (digestV C).1, .int .i64 (digestV C).2] ∧ Ext w w' := by
  refine ret_of (fun _ _ => sh_chart_Digest_ok _) fun R hR => ?_
  unfold sh_chart_Digest
  refine box_i fun g w1 x1 hat1 hg1 _ => ?_
  rw [SChart.g_all (has_of_at hat1)]
  refine callF_ret (chValid_ret w1 (hc.ext x1) hok) ?_
  rintro _ w4 ⟨rfl, x4⟩
  have x04 := x1.trans x4
  rw [un_not]
  refine Br_i (fun hb => hR _ _ ⟨?_, x04⟩) fun hb => ?_
  · have hn : ¬ GoodC C := fun h => by rw [valid_iff.2 h] at hb; cases hb
    unfold digestV; rw [if_neg hn]; rfl
  have hG := valid_iff.1 (nd hb)
  have hcl : C.cells.length ≤ 4000 := by have := hG.1.2.2.2.2.1; have := hG.1.2.2.2.2.2.1; omega
  have hbl := hG.2.2.1.2.2
  have hll := hG.2.2.2.2.2
  have hpl : ∀ l ∈ C.lines, l.2.length ≤ 64 := fun l hl => (pathOk_iff.1 (List.all_eq_true.1 hG.2.2.2.1 l hl)).2.1.2
  have hat4 := hat1.ext x4
  refine alloc_i Ty.ints_zero15 fun bo w5 x5 hato hbo _ => ?_
  have hato : At w5 bo (.cells #[.slice none 0 0] 45 (0, 0)) := hato
  rw [mk_func]
  have x05 := x04.trans x5
  have z4 := x4.size
  have z5 := x5.size
  have z04 := x04.size
  have l4 := hat4.lt
  have hg5 : Has w5 g 0 s.cells := has_of_at (hat4.ext x5)
  have hg : ∀ V, Ext w4 V → Has V g 0 s.cells := fun V x => has_of_at (hat4.ext x)
  have acc0 : Acc w4.heap.size bo [] w5 := ⟨_, hato, Own.nil _ _ _ _⟩
  rw [SChart.g_ver hg5, SChart.g_x hg5, SChart.g_y hg5, SChart.g_w hg5, SChart.g_h hg5, SChart.g_size hg5, SChart.g_cs hg5, SCell.row_len (Sl.ext hc.cells x05), hc.ver, hc.x, hc.y, hc.w, hc.h, hc.size]
  refine put_i [C.ver, C.x, C.y, C.w, C.h, C.size, (C.cells.length : Int)] rfl (by decide) (by decide) rfl acc0 (by simp only [List.length_cons, List.length_nil]; omega) (by omega) (by omega) fun w6 m6 _ acc6 => ?_
  have x46 : Ext w4 w6 := ((Mod.of_ext x5 : Mod (w4.heap.size ≤ ·) w4 w5).trans m6).new
  rw [List.nil_append] at acc6
  rw [SChart.g_cs (hg w6 x46), SCell.row_len (Sl.ext hc.cells (x04.trans x46))]
  have rowc : ∀ V, Ext w4 V → SCell.Row V s.cs.val C.cells := fun V x => Sl.ext hc.cells (x04.trans x)
  have rowb : ∀ V, Ext w4 V → SBeacon.Row V s.bs.val C.beacons := fun V x => Sl.ext hc.beacons (x04.trans x)
  have rowl : ∀ V, Ext w4 V → LinesIs V s.ls.val C.lines := fun V x => hc.lines.ext (x04.trans x)
  generalize hA : ([C.ver, C.x, C.y, C.w, C.h, C.size, (C.cells.length : Int)] : List Int) = A at *
  have hAl : A.length = 7 := by rw [← hA]; rfl
  refine loop1 (fun x W => ∃ k : Nat, k ≤ C.cells.length ∧ x = .int .i64 k ∧ Ext w4 W ∧ Acc w4.heap.size bo (A ++ (C.cells.take k).flatMap cellInts) W) (fun x _ => C.cells.length - (intOf x).toNat) ⟨0, by omega, rfl, x46, by simpa using acc6⟩ ?_
  rintro h _ W hx ⟨k, hk, rfl, xW, acc⟩ K hK
  rw [hx, bin_lss]
  have hlen : (A ++ (C.cells.take k).flatMap cellInts).length ≤ 7 + 4 * 4000 := by
    have := flat_len (f := cellInts) (n := 4) (C.cells.take k) fun _ _ => Nat.le_refl _
    rw [List.length_append, hAl]
    rw [List.length_take] at this
    omega
  refine Br_i (fun hb1 => ?_) fun hb1 => ?_
  · have hlt : k < C.cells.length := by have := dec_t hb1; omega
    refine join0 (fun W' => Ext w4 W' ∧ Acc w4.heap.size bo (A ++ (C.cells.take (k + 1)).flatMap cellInts) W') ?_ fun K5 hK5 => ?_
    · rintro _ W' ⟨y1, y2⟩
      rw [bin_add, i64_wrap (by omega) (by omega)]
      exact hK _ _ ⟨k + 1, by omega, by simp, y1, y2⟩ (by simp [intOf]; omega)
    obtain ⟨pb, po, hh, _, hix⟩ := SCell.row_at (rowc W xW) hlt
    rw [hix, SCell.g_all (hh W (Ext.refl _))]
    refine alloc_i Ty.SCell_zero fun b7 w7 x7 hat7 hb7 _ => ?_
    refine SCell.set (r := SCell.zero) hat7 fun w8 m8 hat8 s8 => ?_
    have z7 := x7.size
    have zW := xW.size
    have x78 : Ext W w8 := ext_step15 x7 m8 (by omega)
    have z8 := x78.size
    rw [SCell.g_depth_lo (has_of_at hat8), SCell.g_depth_hi (has_of_at hat8), SCell.g_date (has_of_at hat8)]
    have hlen4 : ((A ++ (C.cells.take k).flatMap cellInts) ++ [C.cells[k].depth.lo, C.cells[k].depth.hi, C.cells[k].date]).length ≤ 7 + 4 * 4000 + 3 := by rw [List.length_append]; simp only [List.length_cons, List.length_nil]; omega
    refine put_i [C.cells[k].depth.lo, C.cells[k].depth.hi, C.cells[k].date] rfl (by decide) (by decide) rfl (acc.ext x78) (by simp only [List.length_cons, List.length_nil]; omega) (by omega) (by omega) fun w9 m9 s9 acc9 => ?_
    have hat9 := s9 _ _ _ _ (by decide) (by decide) hat8
    have x49 : Ext w4 w9 := ((Mod.of_ext (xW.trans x78) : Mod (w4.heap.size ≤ ·) w4 w8).trans m9).new
    have z9 := x49.size
    rw [SCell.g_void (has_of_at hat9)]
    refine Br_i (fun hv => ?_) fun hv => ?_
    · refine put_i [1] rfl (by decide) (by decide) rfl acc9 (by simp only [List.length_cons, List.length_nil]; omega) (by omega) (by omega) fun w10 m10 s10 acc10 => ?_
      refine hK5 _ ⟨((Mod.of_ext x49 : Mod (w4.heap.size ≤ ·) w4 w9).trans m10).new, ?_⟩
      rw [flat_take hlt]
      simpa [cellInts, hv, List.append_assoc] using acc10
    · refine put_i [0] rfl (by decide) (by decide) rfl acc9 (by simp only [List.length_cons, List.length_nil]; omega) (by omega) (by omega) fun w10 m10 s10 acc10 => ?_
      refine hK5 _ ⟨((Mod.of_ext x49 : Mod (w4.heap.size ≤ ·) w4 w9).trans m10).new, ?_⟩
      rw [flat_take hlt]
      simpa [cellInts, hv, List.append_assoc] using acc10
  have hke : k = C.cells.length := by have := dec_f hb1; omega
  subst hke
  rw [List.take_length] at acc hlen
  generalize hA2 : A ++ C.cells.flatMap cellInts = A2 at *
  have zW := xW.size
  rw [SChart.g_bs (hg W xW), SBeacon.row_len (rowb W xW)]
  refine put_i [(C.beacons.length : Int)] rfl (by decide) (by decide) rfl acc (by simp only [List.length_cons, List.length_nil]; omega) (by omega) (by omega) fun w11 m11 _ acc11 => ?_
  have x411 : Ext w4 w11 := ((Mod.of_ext xW : Mod (w4.heap.size ≤ ·) w4 W).trans m11).new
  generalize hA3 : A2 ++ [(C.beacons.length : Int)] = A3 at *
  have hA3l : A3.length ≤ 8 + 4 * 4000 := by rw [← hA3]; simp only [List.length_append, List.length_cons, List.length_nil]; omega
  rw [SChart.g_bs (hg w11 x411), SBeacon.row_len (rowb w11 x411)]
  refine loop1 (fun x W => ∃ k : Nat, k ≤ C.beacons.length ∧ x = .int .i64 k ∧ Ext w4 W ∧ Acc w4.heap.size bo (A3 ++ (C.beacons.take k).flatMap beaconInts) W) (fun x _ => C.beacons.length - (intOf x).toNat) ⟨0, by omega, rfl, x411, by simpa using acc11⟩ ?_
  rintro h _ W2 hx2 ⟨k, hk, rfl, xW2, acc2⟩ K hK
  rw [hx2, bin_lss]
  have hlen2 : (A3 ++ (C.beacons.take k).flatMap beaconInts).length ≤ 9 + 4 * 4000 + 300 := by
    have := flat_len (f := beaconInts) (n := 3) (C.beacons.take k) fun _ _ => Nat.le_refl _
    rw [List.length_append]
    rw [List.length_take] at this
    omega
  refine Br_i (fun hb1 => ?_) fun hb1 => ?_
  · have hlt : k < C.beacons.length := by have := dec_t hb1; omega
    obtain ⟨pb, po, hh, _, hix⟩ := SBeacon.row_at (rowb W2 xW2) hlt
    rw [hix, SBeacon.g_all (hh W2 (Ext.refl _))]
    refine alloc_i Ty.SBeacon_zero fun b7 w7 x7 hat7 hb7 _ => ?_
    refine SBeacon.set (r := SBeacon.zero) hat7 fun w8 m8 hat8 s8 => ?_
    have z7 := x7.size
    have zW2 := xW2.size
    have x78 : Ext W2 w8 := ext_step15 x7 m8 (by omega)
    have z8 := x78.size
    rw [SBeacon.g_id (has_of_at hat8), SBeacon.g_at__x (has_of_at hat8), SBeacon.g_at__y (has_of_at hat8)]
    refine put_i [C.beacons[k].id, C.beacons[k].at_.x, C.beacons[k].at_.y] rfl (by decide) (by decide) rfl (acc2.ext x78) (by simp only [List.length_cons, List.length_nil]; omega) (by omega) (by omega) fun w9 m9 s9 acc9 => ?_
    rw [bin_add, i64_wrap (by omega) (by omega)]
    refine hK _ _ ⟨k + 1, by omega, by simp, ((Mod.of_ext (xW2.trans x78) : Mod (w4.heap.size ≤ ·) w4 w8).trans m9).new, ?_⟩ (by simp [intOf]; omega)
    rw [flat_take hlt]
    simpa [beaconInts, List.append_assoc] using acc9
  have hke : k = C.beacons.length := by have := dec_f hb1; omega
  subst hke
  rw [List.take_length] at acc2 hlen2
  generalize hA4 : A3 ++ C.beacons.flatMap beaconInts = A4 at *
  have zW2 := xW2.size
  rw [SChart.g_ls (hg W2 xW2), (rowl W2 xW2).len]
  refine put_i [(C.lines.length : Int)] rfl (by decide) (by decide) rfl acc2 (by simp only [List.length_cons, List.length_nil]; omega) (by omega) (by omega) fun w12 m12 _ acc12 => ?_
  have x412 : Ext w4 w12 := ((Mod.of_ext xW2 : Mod (w4.heap.size ≤ ·) w4 W2).trans m12).new
  generalize hA5 : A4 ++ [(C.lines.length : Int)] = A5 at *
  have hA5l : A5.length ≤ 10 + 4 * 4000 + 300 := by rw [← hA5]; simp only [List.length_append, List.length_cons, List.length_nil]; omega
  rw [SChart.g_ls (hg w12 x412), (rowl w12 x412).len]
  refine loop2 (fun x _ W => ∃ k : Nat, k ≤ C.lines.length ∧ x = .int .i64 k ∧ Ext w4 W ∧ Acc w4.heap.size bo (A5 ++ (C.lines.take k).flatMap lineInts) W) (fun x _ _ => C.lines.length - (intOf x).toNat) ⟨0, by omega, rfl, x412, by simpa using acc12⟩ ?_
  rintro h _ _ W3 hx3 _ ⟨k, hk, rfl, xW3, acc3⟩ K hK
  rw [hx3, bin_lss]
  have hlen3 : (A5 ++ (C.lines.take k).flatMap lineInts).length ≤ 10 + 4 * 4000 + 300 + 50 * 130 := by
    have := flat_len (f := lineInts) (n := 130) (C.lines.take k) fun l hl => line_len (hpl l (List.mem_of_mem_take hl))
    rw [List.length_append]
    rw [List.length_take] at this
    omega
  have zW3 := xW3.size
  refine Br_i (fun hb1 => ?_) fun hb1 => ?_
  · have hlt : k < C.lines.length := by have := dec_t hb1; omega
    have hp64 := hpl _ (List.getElem_mem hlt)
    obtain ⟨pb, po, sl, hsl, hhas, hix⟩ := (rowl W3 xW3).at_ hlt
    rw [hix, SLine.g_all (hhas W3 (Ext.refl _))]
    refine alloc_i Ty.SLine_zero fun b7 w7 x7 hat7 hb7 _ => ?_
    refine SLine.set (r := SLine.zero) hat7 fun w8 m8 hat8 s8 => ?_
    have z7 := x7.size
    have x78 : Ext W3 w8 := ext_step15 x7 m8 (by omega)
    have z8 := x78.size
    have hrow : ∀ V, Ext W3 V → SPoint.Row V sl.pts.val C.lines[k].2 := fun V x => Sl.ext hsl.2 x
    rw [SLine.g_id (has_of_at hat8), SLine.g_pts (has_of_at hat8), SPoint.row_len (hrow w8 x78), hsl.1]
    have hlen5 : ((A5 ++ (C.lines.take k).flatMap lineInts) ++ [C.lines[k].1, (C.lines[k].2.length : Int)]).length ≤ 12 + 4 * 4000 + 300 + 50 * 130 := by rw [List.length_append]; simp only [List.length_cons, List.length_nil]; omega
    refine put_i [C.lines[k].1, (C.lines[k].2.length : Int)] rfl (by decide) (by decide) rfl (acc3.ext x78) (by simp only [List.length_cons, List.length_nil]; omega) (by omega) (by omega) fun w9 m9 s9 acc9 => ?_
    have hat9 := s9 _ _ _ _ (by decide) (by decide) hat8
    have x49 : Ext w4 w9 := ((Mod.of_ext (xW3.trans x78) : Mod (w4.heap.size ≤ ·) w4 w8).trans m9).new
    have z9 := x49.size
    -- the row of points is older than the chart's variable, or empty: read through the chart
    obtain ⟨pb4, po4, sl4, hsl4, hhas4, hix4⟩ := (rowl w4 (Ext.refl _)).at_ hlt
    have hsame : sl4 = sl := by
      have e1 := hix4 W3 (fun v _ => v = .pointer (some ⟨pb, po, none⟩)) (fun _ _ => False)
      have e2 := hix W3 (fun v _ => v = .pointer (some ⟨pb, po, none⟩)) (fun _ _ => False)
      rw [e1] at e2
      have e3 : (Value.pointer (some ⟨pb4, po4, none⟩)) = .pointer (some ⟨pb, po, none⟩) := e2 ▸ rfl
      injection e3 with e3; injection e3 with e3; injection e3 with e4 e5
      subst e4 e5
      have q1 := hhas4 W3 xW3
      have q2 := hhas W3 (Ext.refl _)
      refine SLine.inj _ _ (List.ext_getElem (by rw [SLine.len, SLine.len]) fun i h1 h2 => ?_)
      have r1 := q1 i _ (List.getElem?_eq_getElem h1)
      have r2 := q2 i _ (List.getElem?_eq_getElem h2)
      rw [r1] at r2; injection r2
    subst hsame
    have hrow4 : ∀ V, Ext w4 V → SPoint.Row V sl4.pts.val C.lines[k].2 := fun V x => Sl.ext hsl4.2 x
    rw [SLine.g_pts (has_of_at hat9), SPoint.row_len (hrow4 w9 x49)]
    generalize hA6 : (A5 ++ (C.lines.take k).flatMap lineInts) ++ [C.lines[k].1, (C.lines[k].2.length : Int)] = A6 at *
    refine loop1 (fun x W => ∃ j : Nat, j ≤ C.lines[k].2.length ∧ x = .int .i64 j ∧ Ext w4 W ∧ Acc w4.heap.size bo (A6 ++ (C.lines[k].2.take j).flatMap ptInts) W) (fun x _ => C.lines[k].2.length - (intOf x).toNat) ⟨0, by omega, rfl, x49, by simpa using acc9⟩ ?_
    rintro h' _ W4 hx4 ⟨j, hj, rfl, xW4, acc4⟩ K2 hK2
    rw [hx4, bin_lss]
    have zW4 := xW4.size
    have hlen4 : (A6 ++ (C.lines[k].2.take j).flatMap ptInts).length ≤ 12 + 4 * 4000 + 300 + 50 * 130 + 128 := by
      have := flat_len (f := ptInts) (n := 2) (C.lines[k].2.take j) fun _ _ => Nat.le_refl _
      rw [List.length_append]
      rw [List.length_take] at this
      omega
    refine Br_i (fun hb2 => ?_) fun hb2 => ?_
    · have hjlt : j < C.lines[k].2.length := by have := dec_t hb2; omega
      obtain ⟨qb, qo, hq, _, hqix⟩ := SPoint.row_at (hrow4 W4 xW4) hjlt
      rw [hqix, SPoint.g_all (hq W4 (Ext.refl _))]
      refine alloc_i Ty.SPoint_zero fun b13 w13 x13 hat13 hb13 _ => ?_
      refine SPoint.set (r := SPoint.zero) hat13 fun w14 m14 hat14 s14 => ?_
      have z13 := x13.size
      have x414 : Ext W4 w14 := ext_step15 x13 m14 (by omega)
      have z14 := x414.size
      rw [SPoint.g_x (has_of_at hat14), SPoint.g_y (has_of_at hat14)]
      refine put_i [C.lines[k].2[j].x, C.lines[k].2[j].y] rfl (by decide) (by decide) rfl (acc4.ext x414) (by simp only [List.length_cons, List.length_nil]; omega) (by omega) (by omega) fun w15 m15 s15 acc15 => ?_
      rw [bin_add, i64_wrap (by omega) (by omega)]
      refine hK2 _ _ ⟨j + 1, by omega, by simp, ((Mod.of_ext (xW4.trans x414) : Mod (w4.heap.size ≤ ·) w4 w14).trans m15).new, ?_⟩ (by simp [intOf]; omega)
      rw [flat_take hjlt]
      simpa [ptInts, List.append_assoc] using acc15
    · have hje : j = C.lines[k].2.length := by have := dec_f hb2; omega
      subst hje
      rw [List.take_length, ← hA6] at acc4
      rw [bin_add, i64_wrap (by omega) (by omega)]
      refine hK _ _ _ ⟨k + 1, by omega, by simp, xW4, ?_⟩ (by simp [intOf]; omega)
      rw [flat_take hlt]
      simpa [lineInts, List.append_assoc] using acc4
  have hke : k = C.lines.length := by have := dec_f hb1; omega
  subst hke
  rw [List.take_length] at acc3
  have hall : A5 ++ C.lines.flatMap lineInts = ints C := by rw [← hA5, ← hA4, ← hA3, ← hA2, ← hA]; rfl
  rw [hall] at acc3
  refine acc3.load fun v hv ho => ?_
  have hi : ∀ n ∈ ints C, I64 n := by
    intro n hn
    have small : ∀ k : Nat, k ≤ 4000 → I64 (k : Int) := fun k hk => ⟨by omega, by omega⟩
    unfold ints at hn
    simp only [List.mem_append, List.mem_cons, List.not_mem_nil, or_false, List.mem_flatMap] at hn
    obtain ⟨n1, n2, n3, n4, n5, n6⟩ := hok.nums
    rcases hn with ((((h | ⟨c, hc, h⟩) | h) | ⟨b, hb, h⟩) | h) | ⟨l, hl, h⟩
    · rcases h with rfl | rfl | rfl | rfl | rfl | rfl | rfl
      · exact n1
      · exact n2
      · exact n3
      · exact n4
      · exact n5
      · exact n6
      · exact small _ hcl
    · obtain ⟨⟨c1, c2⟩, c3, _⟩ := hok.cells c hc
      simp only [cellInts, List.mem_cons, List.not_mem_nil, or_false] at h
      rcases h with rfl | rfl | rfl | rfl
      · exact c1
      · exact c2
      · exact c3
      · split <;> (unfold I64; omega)
    · subst h; exact small _ (by omega)
    · obtain ⟨b1, b2, b3⟩ := hok.beacons b hb
      simp only [beaconInts, List.mem_cons, List.not_mem_nil, or_false] at h
      rcases h with rfl | rfl | rfl
      · exact b1
      · exact b2
      · exact b3
    · subst h; exact small _ (by omega)
    · obtain ⟨l1, l2⟩ := hok.lines l hl
      simp only [lineInts, List.mem_append, List.mem_cons, List.not_mem_nil, or_false, List.mem_flatMap, ptInts] at h
      rcases h with (rfl | rfl) | ⟨p, hp, rfl | rfl⟩
      · exact l1
      · exact small _ (by have := hpl l hl; omega)
      · exact (l2 p hp).1
      · exact (l2 p hp).2
  refine callF_ret (sum_int_ret hi W3 (Sl.of_owns ho) (hT.ext (x04.trans xW3))) ?_
  rintro _ w16 ⟨rfl, x16⟩
  refine hR _ _ ⟨?_, (x04.trans xW3).trans x16⟩
  unfold digestV; rw [if_pos hG]
end Go.Proofs.YtdfpdfahcbflpabDoor
