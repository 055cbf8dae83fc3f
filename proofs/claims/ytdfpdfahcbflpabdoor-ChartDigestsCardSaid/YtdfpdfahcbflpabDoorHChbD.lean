/- chart.named, Beacon, Line. -/
import Derived.Test.YtdfpdfahcbflpabDoorHChbC
set_option linter.unusedVariables false
set_option linter.unusedSimpArgs false
namespace Go.Proofs.YtdfpdfahcbflpabDoor
set_option maxRecDepth 100000
set_option maxHeartbeats 16000000
open Sh Go.RowKit
theorem find_at {α : Type} {p : α → Bool} {l : List α} {k : Nat} (hk : k < l.length) (hno : ∀ q ∈ l.take k, p q = false) (hp : p l[k] = true) : l.find? p = some l[k] := by
  have e : l = l.take k ++ l[k] :: l.drop (k + 1) := by rw [← List.drop_eq_getElem_cons hk, List.take_append_drop]
  have h1 : (l.take k).find? p = none := by rw [List.find?_eq_none]; intro q hq; rw [hno q hq]; decide
  conv => lhs; rw [e]
  rw [List.find?_append, h1, Option.none_or, List.find?_cons, hp]
theorem namedBeacon_ret {v : Value} {l : List SBeacon} {id : Int} (w : World) (hv : SBeacon.Row w v l) : Ret Tryd.prog 24 #[v, .int .i64 id, .func (.func 25) #[] #[]] w fun r w' => r = .tuple #[.agg ((l.find? (fun b => decide (b.id = id))).getD SBeacon.zero).cells.toArray, .bool (l.find? (fun b => decide (b.id = id))).isSome] ∧ Ext w w' := by
  refine ret_of (fun _ _ => sh_chart_named_api_Beacon__ok _ _ _) fun R hR => ?_
  unfold sh_chart_named_api_Beacon_
  have hle := hv.le
  refine alloc_i Ty.SBeacon_zero fun b6 w1 x1 hat6 hb6 _ => ?_
  have hat6 : At w1 b6 (.cells SBeacon.zero.cells.toArray 33 (0, 0)) := hat6
  have l6 := hat6.lt
  have z1 := x1.size
  rw [SBeacon.row_len (Sl.ext hv x1)]
  refine loop1 (fun x W => ∃ k : Nat, k ≤ l.length ∧ x = .int .i64 k ∧ Ext w1 W ∧ ∀ q ∈ l.take k, decide (q.id = id) = false) (fun x _ => l.length - (intOf x).toNat) ⟨0, by omega, rfl, Ext.refl _, by simp⟩ ?_
  rintro h _ W hx ⟨k, hk, rfl, xW, hno⟩ K hK
  rw [hx, bin_lss]
  have zW := xW.size
  have h6W := hat6.ext xW
  have fin : ∀ (V V2 : World) (b : SBeacon) (t : Bool), Ext W V → Mod (· = b6) V V2 → At V2 b6 (.cells b.cells.toArray 33 (0, 0)) → ((l.find? (fun b => decide (b.id = id))).getD SBeacon.zero = b ∧ (l.find? (fun b => decide (b.id = id))).isSome = t) →
      Res Tryd.prog [.cell (.pointer (some ⟨b6, 0, none⟩)) 33, .tmp (.bool t)] V2 R := fun V V2 b t xV m hat he =>
    res_i (rv_cell (loadVar_agg Ty.SBeacon_agg Ty.SBeacon_size (xs := b.cells) rfl (has_of_at hat)) (rv_tmp (rv_nil _))) (hR _ _ ⟨by rw [he.1, he.2]; rfl, ((Mod.of_ext ((x1.trans xW).trans xV) : Mod (w.heap.size ≤ ·) w V).trans (m.mono fun k _ h => by omega)).new⟩)
  refine Br_i (fun hb => ?_) fun hb => ?_
  · have hlt : k < l.length := by have := dec_t hb; omega
    have htk : l.take (k + 1) = l.take k ++ [l[k]] := List.take_succ_eq_append_getElem hlt
    obtain ⟨pb, po, hh, _, hix⟩ := SBeacon.row_at hv hlt
    rw [hix, SBeacon.g_all (hh W (x1.trans xW))]
    refine alloc_i Ty.SBeacon_zero fun g w4 x4 hat4 hg _ => ?_
    refine SBeacon.set (r := SBeacon.zero) hat4 fun w5 m5 hat5 s5 => ?_
    have z4 := x4.size
    have xW5 : Ext W w5 := ext_step15 x4 m5 (by omega)
    rw [SBeacon.g_all (has_of_at hat5), callV_func (by kernel_rfl)]
    refine callF_ret (beaconID_ret _ w5) ?_
    rintro _ w6 ⟨rfl, x6⟩
    rw [bin_eql]
    refine Br_i (fun hb2 => ?_) fun hb2 => ?_
    · rw [SBeacon.g_all (has_of_at (hat5.ext x6))]
      refine SBeacon.set (r := SBeacon.zero) (h6W.ext (xW5.trans x6)) fun w7 m7 hat7 s7 => ?_
      have e : l.find? (fun b => decide (b.id = id)) = some l[k] := find_at hlt hno hb2
      exact fin w6 w7 _ true (xW5.trans x6) m7 hat7 (by rw [e]; exact ⟨rfl, rfl⟩)
    · rw [bin_add, i64_wrap (by omega) (by omega)]
      refine hK _ _ ⟨k + 1, by omega, by simp, (xW.trans xW5).trans x6, fun q hq => ?_⟩ (by simp [intOf]; omega)
      rw [htk, List.mem_append, List.mem_singleton] at hq
      rcases hq with hq | rfl
      · exact hno q hq
      · exact hb2
  · have hke : k = l.length := by have := dec_f hb; omega
    subst hke
    rw [List.take_length] at hno
    refine alloc_i Ty.SBeacon_zero fun g w4 x4 hat4 hg _ => ?_
    have hat4 : At w4 g (.cells SBeacon.zero.cells.toArray 33 (0, 0)) := hat4
    rw [SBeacon.g_all (has_of_at hat4)]
    refine SBeacon.set (r := SBeacon.zero) (h6W.ext x4) fun w7 m7 hat7 s7 => ?_
    have e : l.find? (fun b => decide (b.id = id)) = none := by rw [List.find?_eq_none]; intro q hq; rw [hno q hq]; decide
    exact fin w4 w7 _ false x4 m7 hat7 (by rw [e]; exact ⟨rfl, rfl⟩)
theorem namedLine_ret {v : Value} {l : List SLine} {id : Int} (w : World) (hv : SLine.Row w v l) : Ret Tryd.prog 26 #[v, .int .i64 id, .func (.func 27) #[] #[]] w fun r w' => r = .tuple #[.agg ((l.find? (fun b => decide (b.id = id))).getD SLine.zero).cells.toArray, .bool (l.find? (fun b => decide (b.id = id))).isSome] ∧ Ext w w' := by
  refine ret_of (fun _ _ => sh_chart_named_api_Line__ok _ _ _) fun R hR => ?_
  unfold sh_chart_named_api_Line_
  have hle := hv.le
  refine alloc_i Ty.SLine_zero fun b6 w1 x1 hat6 hb6 _ => ?_
  have hat6 : At w1 b6 (.cells SLine.zero.cells.toArray 39 (0, 0)) := hat6
  have l6 := hat6.lt
  have z1 := x1.size
  rw [SLine.row_len (Sl.ext hv x1)]
  refine loop1 (fun x W => ∃ k : Nat, k ≤ l.length ∧ x = .int .i64 k ∧ Ext w1 W ∧ ∀ q ∈ l.take k, decide (q.id = id) = false) (fun x _ => l.length - (intOf x).toNat) ⟨0, by omega, rfl, Ext.refl _, by simp⟩ ?_
  rintro h _ W hx ⟨k, hk, rfl, xW, hno⟩ K hK
  rw [hx, bin_lss]
  have zW := xW.size
  have h6W := hat6.ext xW
  have fin : ∀ (V V2 : World) (b : SLine) (t : Bool), Ext W V → Mod (· = b6) V V2 → At V2 b6 (.cells b.cells.toArray 39 (0, 0)) → ((l.find? (fun b => decide (b.id = id))).getD SLine.zero = b ∧ (l.find? (fun b => decide (b.id = id))).isSome = t) →
      Res Tryd.prog [.cell (.pointer (some ⟨b6, 0, none⟩)) 39, .tmp (.bool t)] V2 R := fun V V2 b t xV m hat he =>
    res_i (rv_cell (loadVar_agg Ty.SLine_agg Ty.SLine_size (xs := b.cells) rfl (has_of_at hat)) (rv_tmp (rv_nil _))) (hR _ _ ⟨by rw [he.1, he.2]; rfl, ((Mod.of_ext ((x1.trans xW).trans xV) : Mod (w.heap.size ≤ ·) w V).trans (m.mono fun k _ h => by omega)).new⟩)
  refine Br_i (fun hb => ?_) fun hb => ?_
  · have hlt : k < l.length := by have := dec_t hb; omega
    have htk : l.take (k + 1) = l.take k ++ [l[k]] := List.take_succ_eq_append_getElem hlt
    obtain ⟨pb, po, hh, _, hix⟩ := SLine.row_at hv hlt
    rw [hix, SLine.g_all (hh W (x1.trans xW))]
    refine alloc_i Ty.SLine_zero fun g w4 x4 hat4 hg _ => ?_
    refine SLine.set (r := SLine.zero) hat4 fun w5 m5 hat5 s5 => ?_
    have z4 := x4.size
    have xW5 : Ext W w5 := ext_step15 x4 m5 (by omega)
    rw [SLine.g_all (has_of_at hat5), callV_func (by kernel_rfl)]
    refine callF_ret (lineID_ret _ w5) ?_
    rintro _ w6 ⟨rfl, x6⟩
    rw [bin_eql]
    refine Br_i (fun hb2 => ?_) fun hb2 => ?_
    · rw [SLine.g_all (has_of_at (hat5.ext x6))]
      refine SLine.set (r := SLine.zero) (h6W.ext (xW5.trans x6)) fun w7 m7 hat7 s7 => ?_
      have e : l.find? (fun b => decide (b.id = id)) = some l[k] := find_at hlt hno hb2
      exact fin w6 w7 _ true (xW5.trans x6) m7 hat7 (by rw [e]; exact ⟨rfl, rfl⟩)
    · rw [bin_add, i64_wrap (by omega) (by omega)]
      refine hK _ _ ⟨k + 1, by omega, by simp, (xW.trans xW5).trans x6, fun q hq => ?_⟩ (by simp [intOf]; omega)
      rw [htk, List.mem_append, List.mem_singleton] at hq
      rcases hq with hq | rfl
      · exact hno q hq
      · exact hb2
  · have hke : k = l.length := by have := dec_f hb; omega
    subst hke
    rw [List.take_length] at hno
    refine alloc_i Ty.SLine_zero fun g w4 x4 hat4 hg _ => ?_
    have hat4 : At w4 g (.cells SLine.zero.cells.toArray 39 (0, 0)) := hat4
    rw [SLine.g_all (has_of_at hat4)]
    refine SLine.set (r := SLine.zero) (h6W.ext x4) fun w7 m7 hat7 s7 => ?_
    have e : l.find? (fun b => decide (b.id = id)) = none := by rw [List.find?_eq_none]; intro q hq; rw [hno q hq]; decide
    exact fin w4 w7 _ false x4 m7 hat7 (by rw [e]; exact ⟨rfl, rfl⟩)
namespace Cha
open Classical in
noncomputable def beaconV (C : Cht) (id : Int) : SPoint × Bool × Int := if GoodC C then (match C.beacons.find? (fun b => decide (b.id = id)) with | some b => (b.at_, true, 0) | none => (⟨0, 0⟩, false, 0)) else (⟨0, 0⟩, false, 1)
open Classical in
noncomputable def lineV (C : Cht) (id : Int) : Line × Bool × Int := if GoodC C then (match C.lines.find? (fun b => decide (b.1 = id)) with | some l => (l, true, 0) | none => ((0, []), false, 0)) else ((0, []), false, 1)
end Cha
open Cha in
theorem chBeacon_ret {s : SChart} {C : Cht} {id : Int} (w : World) (hc : ChartIs w s C) (hok : ChartOk C) : Ret Tryd.prog 8 #[.agg s.cells.toArray, .int .i64 id] w fun r w' => r = .tuple #[.agg (beaconV C id).1.cells.toArray, .bool (beaconV C id).2.1, .int .i64 (beaconV C id).2.2] ∧ Ext w w' := by
  refine ret_of (fun _ _ => sh_chart_Beacon_ok _ _) fun R hR => ?_
  unfold sh_chart_Beacon
  refine box_i fun g w1 x1 hat1 hg1 _ => ?_
  refine alloc_i Ty.SPoint_zero fun b4 w2 x2 hat4 hb4 _ => ?_
  have hat4 : At w2 b4 (.cells SPoint.zero.cells.toArray 31 (0, 0)) := hat4
  have x02 := x1.trans x2
  have z1 := x1.size
  have z2 := x2.size
  have l4 := hat4.lt
  have a1 := hat1.ext x2
  have fin : ∀ (V V2 : World) (p : SPoint) (t : Bool) (e : Int), Ext w2 V → Mod (· = b4) V V2 → At V2 b4 (.cells p.cells.toArray 31 (0, 0)) → beaconV C id = (p, t, e) →
      Res Tryd.prog [.cell (.pointer (some ⟨b4, 0, none⟩)) 31, .tmp (.bool t), .tmp (.int .i64 e)] V2 R := fun V V2 p t e xV m hat he =>
    res_i (rv_cell (pt_var hat) (rv_tmp (rv_tmp (rv_nil _)))) (hR _ _ ⟨by rw [he]; rfl, ((Mod.of_ext (x02.trans xV) : Mod (w.heap.size ≤ ·) w V).trans (m.mono fun k _ h => by omega)).new⟩)
  rw [SChart.g_all (has_of_at a1)]
  refine callF_ret (chValid_ret w2 (hc.ext x02) hok) ?_
  rintro _ w3 ⟨rfl, x3⟩
  rw [un_not]
  refine Br_i (fun hb => ?_) fun hb => ?_
  · have hn : ¬ GoodC C := fun h => by rw [valid_iff.2 h] at hb; cases hb
    rw [build_i (show Tryd.prog.built 31 [] = some SPoint.zero.cells.toArray by kernel_rfl)]
    refine SPoint.set (s := SPoint.zero) (r := SPoint.zero) (hat4.ext x3) fun w7 m7 hat7 s7 => ?_
    exact fin w3 w7 _ false 1 x3 m7 hat7 (by unfold beaconV; rw [if_neg hn]; rfl)
  · have hG := valid_iff.1 (nd hb)
    rw [SChart.g_bs (has_of_at (a1.ext x3))]
    refine callF_ret (namedBeacon_ret w3 (Sl.ext hc.beacons (x02.trans x3))) ?_
    rintro _ w4 ⟨rfl, x4⟩
    rw [ext2_0, ext2_1]
    refine alloc_i Ty.SBeacon_zero fun b7 w5 x5 hat7 hb7 _ => ?_
    refine SBeacon.set (r := SBeacon.zero) hat7 fun w6 m6 hat6 s6 => ?_
    have z5 := x5.size
    have x46 : Ext w4 w6 := ext_step15 x5 m6 (by omega)
    rw [SBeacon.g_at_ (has_of_at hat6)]
    have x26 := (x3.trans x4).trans x46
    refine SPoint.set (r := SPoint.zero) (hat4.ext x26) fun w7 m7 hat7 s7 => ?_
    refine fin w6 w7 _ _ 0 x26 m7 hat7 ?_
    unfold beaconV
    rw [if_pos hG]
    cases C.beacons.find? (fun b => decide (b.id = id)) <;> rfl
theorem LinesIs.find {w : World} {v : Value} {ls : List Line} (h : LinesIs w v ls) (id : Int) : ∃ ss : List SLine, SLine.Row w v ss ∧ (∀ s, ss.find? (fun b => decide (b.id = id)) = some s → ∃ l, ls.find? (fun b => decide (b.1 = id)) = some l ∧ LineIs w s l) ∧ (ss.find? (fun b => decide (b.id = id)) = none → ls.find? (fun b => decide (b.1 = id)) = none) := by
  obtain ⟨ss, h1, h2, h3⟩ := h
  refine ⟨ss, h1, ?_⟩
  clear h1
  induction ss generalizing ls with
  | nil =>
    have : ls = [] := List.eq_nil_of_length_eq_zero h2.symm
    subst this
    exact ⟨fun s h => by simp at h, fun _ => rfl⟩
  | cons s ss ih =>
    cases ls with
    | nil => cases h2
    | cons l ls =>
      have h0 := h3 0 s l rfl rfl
      have ih := ih (ls := ls) (by simpa using h2) fun i s' l' e1 e2 => h3 (i + 1) s' l' (by simpa using e1) (by simpa using e2)
      rw [List.find?_cons, List.find?_cons, h0.1]
      by_cases hid : l.1 = id
      · rw [decide_eq_true hid]
        exact ⟨fun t ht => ⟨l, rfl, by injection ht with ht; rw [← ht]; exact h0⟩, fun ht => by cases ht⟩
      · rw [decide_eq_false hid]
        exact ih
open Cha in
theorem chLineOf_ret {s : SChart} {C : Cht} {id : Int} (w : World) (hc : ChartIs w s C) (hok : ChartOk C) : Ret Tryd.prog 9 #[.agg s.cells.toArray, .int .i64 id] w fun r w' => (∃ t : SLine, r = .tuple #[.agg t.cells.toArray, .bool (lineV C id).2.1, .int .i64 (lineV C id).2.2] ∧ LineIs w' t (lineV C id).1) ∧ Ext w w' := by
  refine ret_of (fun _ _ => sh_chart_Line_ok _ _) fun R hR => ?_
  unfold sh_chart_Line
  refine box_i fun g w1 x1 hat1 hg1 _ => ?_
  refine alloc_i Ty.SLine_zero fun b4 w2 x2 hat4 hb4 _ => ?_
  have hat4 : At w2 b4 (.cells SLine.zero.cells.toArray 39 (0, 0)) := hat4
  have x02 := x1.trans x2
  have z1 := x1.size
  have z2 := x2.size
  have l4 := hat4.lt
  have a1 := hat1.ext x2
  have fin : ∀ (V V2 : World) (p : SLine) (l : Line) (t : Bool) (e : Int), Ext w2 V → Mod (· = b4) V V2 → At V2 b4 (.cells p.cells.toArray 39 (0, 0)) → LineIs V2 p l → lineV C id = (l, t, e) →
      Res Tryd.prog [.cell (.pointer (some ⟨b4, 0, none⟩)) 39, .tmp (.bool t), .tmp (.int .i64 e)] V2 R := fun V V2 p l t e xV m hat hl he =>
    res_i (rv_cell (loadVar_agg Ty.SLine_agg Ty.SLine_size (xs := p.cells) rfl (has_of_at hat)) (rv_tmp (rv_tmp (rv_nil _)))) (hR _ _ ⟨⟨p, by rw [he]; rfl, by rw [he]; exact hl⟩, ((Mod.of_ext (x02.trans xV) : Mod (w.heap.size ≤ ·) w V).trans (m.mono fun k _ h => by omega)).new⟩)
  have hz : ∀ V : World, LineIs V SLine.zero (0, []) := fun V => ⟨rfl, SPoint.row_nil V⟩
  rw [SChart.g_all (has_of_at a1)]
  refine callF_ret (chValid_ret w2 (hc.ext x02) hok) ?_
  rintro _ w3 ⟨rfl, x3⟩
  rw [un_not]
  refine Br_i (fun hb => ?_) fun hb => ?_
  · have hn : ¬ GoodC C := fun h => by rw [valid_iff.2 h] at hb; cases hb
    rw [build_i (show Tryd.prog.built 39 [] = some SLine.zero.cells.toArray by kernel_rfl)]
    refine SLine.set (s := SLine.zero) (r := SLine.zero) (hat4.ext x3) fun w7 m7 hat7 s7 => ?_
    exact fin w3 w7 _ _ false 1 x3 m7 hat7 (hz _) (by unfold lineV; rw [if_neg hn])
  · have hG := valid_iff.1 (nd hb)
    rw [SChart.g_ls (has_of_at (a1.ext x3))]
    obtain ⟨ss, hrow, hsome, hnone⟩ := (hc.lines.ext (x02.trans x3)).find id
    refine callF_ret (namedLine_ret w3 hrow) ?_
    rintro _ w4 ⟨rfl, x4⟩
    rw [ext2_0, ext2_1]
    obtain ⟨s0, l0, hs0, hl0, hv⟩ : ∃ s0 l0, (ss.find? (fun b => decide (b.id = id))).getD SLine.zero = s0 ∧ LineIs w4 s0 l0 ∧ lineV C id = (l0, (ss.find? (fun b => decide (b.id = id))).isSome, 0) := by
      unfold lineV
      rw [if_pos hG]
      cases hq : ss.find? (fun b => decide (b.id = id)) with
      | none => exact ⟨_, (0, []), rfl, hz _, by rw [hnone hq]; rfl⟩
      | some t =>
        obtain ⟨l, e, hl⟩ := hsome t hq
        exact ⟨_, l, rfl, hl.ext x4, by rw [e]; rfl⟩
    rw [hs0]
    have hlen : l0.2.length < 100000000 := by
      have e : lineV C id = (l0, (ss.find? (fun b => decide (b.id = id))).isSome, 0) := hv
      unfold lineV at e
      rw [if_pos hG] at e
      cases hq : C.lines.find? (fun b => decide (b.1 = id)) with
      | none => rw [hq] at e; simp only [Prod.mk.injEq] at e; rw [← e.1]; decide
      | some l =>
        rw [hq] at e; simp only [Prod.mk.injEq] at e; rw [← e.1]
        have := (pathOk_iff.1 (List.all_eq_true.1 hG.2.2.2.1 _ (List.mem_of_find?_eq_some hq))).2.1.2
        omega
    refine alloc_i Ty.SLine_zero fun b7 w5 x5 hat7 hb7 _ => ?_
    refine SLine.set (r := SLine.zero) hat7 fun w6 m6 hat6 s6 => ?_
    have z5 := x5.size
    have x46 : Ext w4 w6 := ext_step15 x5 m6 (by omega)
    have l6 := hat6.lt
    have x36 := x4.trans x46
    have z36 := (x3.trans x36).size
    rw [SLine.g_pts (has_of_at hat6)]
    refine callF_ret (clonePts_ret w6 (Sl.ext hl0.2 x46) hlen) ?_
    rintro v7 w7 ⟨ho7, x7⟩
    have hr7 := Sl.of_owns ho7
    obtain ⟨d7, rfl⟩ := Hdr.of_sl hr7
    refine SLine.s_pts (x := d7) (hat6.ext x7) fun w8 m8 hat8 s8 => ?_
    rw [SLine.g_all (has_of_at hat8)]
    have z7 := x7.size
    have z4 := x4.size
    have x48 : Ext w4 w8 := ext_step15 (x46.trans x7) m8 (by omega)
    have x28 : Ext w2 w8 := (x3.trans x4).trans x48
    have hr8 : SPoint.Row w8 d7.val l0.2 := Sl.mod hr7 m8 fun k hk => by have := (Own.block ho7 hk).1; omega
    refine SLine.set (r := SLine.zero) (hat4.ext x28) fun w9 m9 hat9 s9 => ?_
    refine fin w8 w9 _ l0 _ 0 x28 m9 hat9 ⟨hl0.1, Sl.mod hr8 m9 fun k hk => by have := (Own.block ho7 hk).1; omega⟩ hv
end Go.Proofs.YtdfpdfahcbflpabDoor
