/- The law of the order. -/
import Derived.Test.YtohmledhhgdgaaaGreatDoorGMshU
set_option linter.unusedVariables false
set_option linter.unusedSimpArgs false
namespace Go.Proofs.YtohmledhhgdgaaaGreatDoor
set_option maxRecDepth 100000
set_option maxHeartbeats 16000000
open Sh Go.RowKit
theorem vl_set {pv : Nat → Option Value} {k j : Nat} {v : Value} : vl (pvSet pv k v) j = if j = k then v else vl pv j := by
  unfold vl pvSet; split <;> rfl
theorem pv_set {pv : Nat → Option Value} {k j : Nat} {v : Value} : pvSet pv k v j = if j = k then some v else pv j := rfl
def OJ (W : World) (s : SBox) (pv : Nat → Option Value) (w1 : World) : Prop :=
  Ext W w1 ∧ (pv 0 ≠ none → vl pv 0 = .agg s.cells.toArray) ∧ (pv 1 ≠ none → vl pv 1 = .agg s.cells.toArray) ∧
  (pv 2 ≠ none → ∃ a, vl pv 2 = .pointer (some ⟨a, 0, none⟩) ∧ W.heap.size ≤ a ∧ At w1 a (.cells (if pv 4 ≠ none then s else SBox.zero).cells.toArray 24 (0, 0))) ∧
  (pv 3 ≠ none → ∃ a, vl pv 3 = .pointer (some ⟨a, 0, none⟩) ∧ W.heap.size ≤ a ∧ At w1 a (.cells SBox.zero.cells.toArray 24 (0, 0))) ∧
  (pv 2 ≠ none → pv 3 ≠ none → vl pv 2 ≠ vl pv 3) ∧ (pv 4 ≠ none → pv 2 ≠ none)
theorem fold_ok {p : Int} : ∀ (l : List Rep.Rpt) (b : MBox), (∀ x ∈ b.2, RepOk x) → (∀ x ∈ l, RepOk x) → ∀ x ∈ (l.foldl (addB p) b).2, RepOk x
  | [], _, hb, _ => hb
  | r :: l, b, hb, hl => fold_ok l _ (by
      unfold addB
      split
      · exact addV_ok_all hb (hl r (List.mem_cons_self ..))
      · exact hb) fun x hx => hl x (List.mem_cons_of_mem _ hx)
theorem box_step {N : Nat} {V : World} {g g' : SBox} {b : MBox} {r : Rep.Rpt} {p : Int} (h : BoxT N V g b) (h' : BoxT N V g' (addV b r p).1) : ((addV b r p).2.2 = 0 → BoxT N V g' (addB p b r)) ∧ ((addV b r p).2.2 ≠ 0 → BoxT N V g (addB p b r)) :=
  ⟨fun e => by unfold addB; rw [if_pos e]; exact h', fun e => by unfold addB; rw [if_neg e]; exact h⟩
theorem twice_take {l : List Rep.Rpt} {i : Nat} (h : i < l.length) : twice (l.take (i + 1)) = twice (l.take i) ++ [l[i], l[i]] := by
  unfold twice
  rw [List.take_succ_eq_append_getElem h, List.flatMap_append]; rfl
theorem MeshOrder_ret {s : SBox} {b : MBox} {lv : Value} {l : List Rep.Rpt} {p : Int} (hokb : ∀ r ∈ b.2, RepOk r) (hokl : ∀ r ∈ l, RepOk r) (w : World) (h : BoxIs w s b) (hl : RepsIs w lv l) (hT : Tab w) :
    Ret Tryz.prog 5 #[.agg s.cells.toArray, lv, .int .i64 p] w (TrueQ w) := by
  refine ret_of (fun _ _ => sh_landfalllaw26_MeshOrder_ok _ _ _) fun R hR => ?_
  unfold sh_landfalllaw26_MeshOrder
  refine box_i fun c3 w1 x1 hat3 hb3 _ => ?_
  refine callF_ret (head26_ret w1 (hT.ext x1)) ?_
  rintro _ w2 ⟨rfl, x2⟩
  have x02 := x1.trans x2
  have h3 := hat3.ext x2
  have hle := hl.le
  refine join0 (fun W => Ext w2 W ∧ b.2.length ≤ 20 ∧ l.length ≤ 10 ∧ BVal b) ?_ fun K hK => ?_
  · rintro _ W ⟨xW, h20, h10, hV⟩
    have x0W := x02.trans xW
    have zW := x0W.size
    have a3 := h3.ext xW
    have l3 := a3.lt
    refine ⟨OJ W s, ⟨Ext.drew W, fun hh => absurd rfl hh, fun hh => absurd rfl hh, fun hh => absurd rfl hh, fun hh => absurd rfl hh, fun hh => absurd rfl hh, fun hh => absurd rfl hh⟩, ?_, ?_, ?_, ?_, ?_, ?_⟩
    · rintro pv w4 ⟨x, k0, k1, k2, k3, k4, k5⟩ hn _
      rw [SBox.g_all (has_of_at (a3.ext x))]
      refine ⟨x, fun _ => by rw [vl_set, if_pos rfl], fun hh => ?_, fun hh => ?_, fun hh => ?_, fun hh hh' => ?_, fun hh => k5 hh⟩
      · rw [vl_set, if_neg (by decide)]; exact k1 hh
      · rw [vl_set, if_neg (by decide)]; exact k2 hh
      · rw [vl_set, if_neg (by decide)]; exact k3 hh
      · rw [vl_set, if_neg (by decide), vl_set, if_neg (by decide)]; exact k4 hh hh'
    · rintro pv w4 ⟨x, k0, k1, k2, k3, k4, k5⟩ hn _
      rw [SBox.g_all (has_of_at (a3.ext x))]
      refine ⟨x, fun hh => ?_, fun _ => by rw [vl_set, if_pos rfl], fun hh => ?_, fun hh => ?_, fun hh hh' => ?_, fun hh => k5 hh⟩
      · rw [vl_set, if_neg (by decide)]; exact k0 hh
      · rw [vl_set, if_neg (by decide)]; exact k2 hh
      · rw [vl_set, if_neg (by decide)]; exact k3 hh
      · rw [vl_set, if_neg (by decide), vl_set, if_neg (by decide)]; exact k4 hh hh'
    · rintro pv w4 ⟨x, k0, k1, k2, k3, k4, k5⟩ hn _
      refine alloc_i Ty.SBox_zero fun a w5 y hat ha _ => ?_
      have hz := x.size
      have hp4 : pv 4 = none := by
        cases hq : pv 4 with
        | none => rfl
        | some _ => exact absurd hn (k5 (by rw [hq]; simp))
      refine ⟨x.trans y, fun hh => ?_, fun hh => ?_, fun hh => ?_, fun hh => ?_, fun hh hh' => ?_, fun _ => by rw [pv_set, if_pos rfl]; simp⟩
      · rw [vl_set, if_neg (by decide)]; exact k0 hh
      · rw [vl_set, if_neg (by decide)]; exact k1 hh
      · refine ⟨a, by rw [vl_set, if_pos rfl], by omega, ?_⟩
        rw [show pvSet pv 2 _ 4 = pv 4 from rfl, hp4, if_neg (by simp)]; exact hat
      · rw [vl_set, if_neg (by decide)]
        obtain ⟨a', e, g1, g2⟩ := k3 hh
        exact ⟨a', e, g1, g2.ext y⟩
      · rw [vl_set, if_pos rfl, vl_set, if_neg (by decide)]
        obtain ⟨a', e, g1, g2⟩ := k3 hh'
        rw [e]
        have := g2.lt
        intro e'; injection e' with e'; injection e' with e'; injection e' with e'; omega
    · rintro pv w4 ⟨x, k0, k1, k2, k3, k4, k5⟩ hn _
      refine alloc_i Ty.SBox_zero fun a w5 y hat ha _ => ?_
      have hz := x.size
      refine ⟨x.trans y, fun hh => ?_, fun hh => ?_, fun hh => ?_, fun hh => ?_, fun hh hh' => ?_, fun hh => k5 hh⟩
      · rw [vl_set, if_neg (by decide)]; exact k0 hh
      · rw [vl_set, if_neg (by decide)]; exact k1 hh
      · rw [vl_set, if_neg (by decide)]
        obtain ⟨a', e, g1, g2⟩ := k2 hh
        exact ⟨a', e, g1, g2.ext y⟩
      · exact ⟨a, by rw [vl_set, if_pos rfl], by omega, hat⟩
      · rw [vl_set, if_neg (by decide), vl_set, if_pos rfl]
        obtain ⟨a', e, g1, g2⟩ := k2 hh
        rw [e]
        have := g2.lt
        intro e'; injection e' with e'; injection e' with e'; injection e' with e'; omega
    · rintro pv w4 ⟨x, k0, k1, k2, k3, k4, k5⟩ hn hd
      have d2 := hd 2 (by simp)
      have d3 := hd 3 (by simp)
      obtain ⟨a, e2, g1, g2⟩ := k2 d2
      rw [hn, if_neg (by simp)] at g2
      rw [e2, k0 (hd 0 (by simp))]
      refine SBox.set (r := SBox.zero) g2 fun w5 m5 hat5 s5 => ?_
      refine ⟨ext_step x m5 (by omega), fun hh => ?_, fun hh => ?_, fun hh => ?_, fun hh => ?_, fun hh hh' => ?_, fun _ => d2⟩
      · rw [vl_set, if_neg (by decide)]; exact k0 hh
      · rw [vl_set, if_neg (by decide)]; exact k1 hh
      · rw [vl_set, if_neg (by decide)]
        refine ⟨a, e2, g1, ?_⟩
        rw [if_pos (by simp [pv_set])]; exact hat5
      · rw [vl_set, if_neg (by decide)]
        obtain ⟨a', e, r1, r2⟩ := k3 hh
        refine ⟨a', e, r1, r2.mod m5 fun ee => ?_⟩
        have := k4 d2 d3
        rw [e, e2, ee] at this
        exact this rfl
      · rw [vl_set, if_neg (by decide), vl_set, if_neg (by decide)]; exact k4 hh hh'
    rintro pv w4 ⟨x, k0, k1, k2, k3, k4, k5⟩ hall
    obtain ⟨c8, e8, n8, a8⟩ := k2 (hall 2 (by decide))
    obtain ⟨c9, e9, n9, a9⟩ := k3 (hall 3 (by decide))
    have hne : c8 ≠ c9 := fun e => k4 (hall 2 (by decide)) (hall 3 (by decide)) (by rw [e8, e9, e])
    rw [if_pos (hall 4 (by decide))] at a8
    rw [e8, e9, k1 (hall 1 (by decide))]
    refine SBox.set (r := SBox.zero) a9 fun w5 m5 hat9 s5 => ?_
    have x05 : Ext w w5 := ext_step (x0W.trans x) m5 (by omega)
    have hat8 := a8.mod m5 hne
    rw [(hl.ext x05).len]
    let L := l.reverse
    have hL : L.length = l.length := List.length_reverse
    refine loop2 (fun x _ V => ∃ (i : Nat) (g1 g2 : SBox), i ≤ l.length ∧ x = .int .i64 i ∧ Ext w V ∧ At V c8 (.cells g1.cells.toArray 24 (0, 0)) ∧ At V c9 (.cells g2.cells.toArray 24 (0, 0)) ∧
      BoxT w.heap.size V g1 ((l.take i).foldl (addB p) b) ∧ BoxT w.heap.size V g2 ((twice (L.take i)).foldl (addB p) b)) (fun x _ _ => l.length - (intOf x).toNat)
      ⟨0, s, s, by omega, rfl, x05, hat8, hat9, BoxT.of_ext h x05 (Nat.le_refl _), BoxT.of_ext h x05 (Nat.le_refl _)⟩ ?_
    rintro hh _ _ V hx _ ⟨i, g1, g2, hi, rfl, xV, q8, q9, hB1, hB2⟩ K3 hK3
    rw [hx, bin_lss]
    refine Br_i (fun hb => ?_) fun hb => ?_
    · have hlt : i < l.length := by have := dec_t hb; omega
      refine join1 (fun _ V2 => ∃ (g1 g2 : SBox), Ext w V2 ∧ At V2 c8 (.cells g1.cells.toArray 24 (0, 0)) ∧ At V2 c9 (.cells g2.cells.toArray 24 (0, 0)) ∧
        BoxT w.heap.size V2 g1 ((l.take (i + 1)).foldl (addB p) b) ∧ BoxT w.heap.size V2 g2 ((twice (L.take (i + 1))).foldl (addB p) b)) ?_ fun K4 hK4 => ?_
      · rintro hh2 _ V2 _ ⟨g1', g2', y1, y2, y3, y4, y5⟩
        rw [bin_add, i64_wrap (by omega) (by omega)]
        exact hK3 _ _ _ ⟨i + 1, g1', g2', by omega, by simp, y1, y2, y3, y4, y5⟩ (by simp [intOf]; omega)
      have hok1 : ∀ r ∈ ((l.take i).foldl (addB p) b).2, RepOk r := fold_ok _ _ hokb fun r hr => hokl r (List.mem_of_mem_take hr)
      obtain ⟨pb, po, sr, hsr, hhas, hix⟩ := hl.at_ hlt
      have hokr := hokl _ (List.getElem_mem hlt)
      refine drawRX fun w7 x7 z7 => ?_
      have x07 := xV.trans x7
      refine det_rx _ (fun V2 xx K => SBox.g_all (has_of_at ((q8.ext x7).ext xx))) ?_
      refine det_rx _ (fun V2 xx K => hix V2 K _) ?_
      refine det_rx _ (fun V2 xx K => SReport.g_all (hhas V2 (x07.trans xx))) ?_
      refine thr_x (fun vs V => ∃ (v1 v2 v4 : Value) (g : SBox), vs = [v1, v2, .agg g.cells.toArray, v4, .int .i64 (addV ((l.take i).foldl (addB p) b) l[i] p).2.2] ∧ BoxT w.heap.size V g (addV ((l.take i).foldl (addB p) b) l[i] p).1) ?_ ?_
      · refine nd_x (AddT w.heap.size ((l.take i).foldl (addB p) b) l[i] p w7) (fun v a b h x => by obtain ⟨g, e, h1, h2⟩ := h; exact ⟨g, e, h1.ext x, h2.trans x⟩) (fun u6 y6 _ => callF_ret (mAdd_t (N := w.heap.size) hokr hok1 u6 ((hB1.ext x7).ext y6) (hsr.ext (x07.trans y6)) (by have := (x07.trans y6).size; omega) (hT.ext (x07.trans y6))) fun u u7 hq => ⟨by obtain ⟨g, _, _, hx⟩ := hq; exact hx, by obtain ⟨g, h1, h2, h3⟩ := hq; exact ⟨g, h1, h2, y6.trans h3⟩⟩) fun v1 => ?_
        refine nd_x (AddT w.heap.size ((l.take i).foldl (addB p) b) l[i] p w7) (fun v a b h x => by obtain ⟨g, e, h1, h2⟩ := h; exact ⟨g, e, h1.ext x, h2.trans x⟩) (fun u6 y6 h6 => ⟨Ext.refl _, h6⟩) fun v2 => ?_
        refine nd_x (fun v V => AddT w.heap.size ((l.take i).foldl (addB p) b) l[i] p w7 v2 V ∧ ∃ g : SBox, v = .agg g.cells.toArray ∧ BoxT w.heap.size V g (addV ((l.take i).foldl (addB p) b) l[i] p).1) (fun v a b h x => by obtain ⟨⟨g, e, h1, h2⟩, g', e', h'⟩ := h; exact ⟨⟨g, e, h1.ext x, h2.trans x⟩, g', e', h'.ext x⟩) (fun u6 y6 h6 => by obtain ⟨g, rfl, h1, h2⟩ := h6; rw [ext3_0]; exact ⟨Ext.refl _, ⟨g, rfl, h1, h2⟩, g, rfl, h1⟩) fun v3 => ?_
        refine nd_x (fun v V => AddT w.heap.size ((l.take i).foldl (addB p) b) l[i] p w7 v2 V ∧ ∃ g : SBox, v3 = .agg g.cells.toArray ∧ BoxT w.heap.size V g (addV ((l.take i).foldl (addB p) b) l[i] p).1) (fun v a b h x => by obtain ⟨⟨g, e, h1, h2⟩, g', e', h'⟩ := h; exact ⟨⟨g, e, h1.ext x, h2.trans x⟩, g', e', h'.ext x⟩) (fun u6 y6 h6 => by obtain ⟨⟨g, rfl, h1, h2⟩, hh⟩ := h6; rw [ext3_1]; exact ⟨Ext.refl _, ⟨g, rfl, h1, h2⟩, hh⟩) fun v4 => ?_
        refine nd_x (fun v V => v = .int .i64 (addV ((l.take i).foldl (addB p) b) l[i] p).2.2 ∧ ∃ g : SBox, v3 = .agg g.cells.toArray ∧ BoxT w.heap.size V g (addV ((l.take i).foldl (addB p) b) l[i] p).1) (fun v a b h x => by obtain ⟨e, g', e', h'⟩ := h; exact ⟨e, g', e', h'.ext x⟩) (fun u6 y6 h6 => by obtain ⟨⟨g, rfl, h1, h2⟩, hh⟩ := h6; rw [ext3_2]; exact ⟨Ext.refl _, rfl, hh⟩) fun v5 => ?_
        intro u6 y6 h6
        obtain ⟨rfl, g, rfl, hB⟩ := h6
        exact ⟨v1, v2, v4, g, rfl, hB⟩
      refine thr_x (fun vs V => ∃ c : Nat, vs = [.pointer (some ⟨c, 0, none⟩)] ∧ w7.heap.size ≤ c ∧ At V c (.cells SBox.zero.cells.toArray 24 (0, 0))) ?_ ?_
      · refine nd_x (fun v V => ∃ c : Nat, v = .pointer (some ⟨c, 0, none⟩) ∧ w7.heap.size ≤ c ∧ At V c (.cells SBox.zero.cells.toArray 24 (0, 0))) (fun v a b h x => by obtain ⟨c, e, hc, h⟩ := h; exact ⟨c, e, hc, h.ext x⟩) (fun u6 y6 _ => alloc_i Ty.SBox_zero fun b u7 y7 hat hb _ => ⟨y7, b, rfl, by rw [← hb]; exact y6.size, hat⟩) fun v => ?_
        intro u6 y6 h6
        obtain ⟨c, rfl, hc, hat⟩ := h6
        exact ⟨c, rfl, hc, hat⟩
      rintro hh6 w6 x6 ⟨_, ⟨_, _, _, _, g6, e1, hB6⟩, c11, e2, hc11, hat11⟩
      simp only [List.cons.injEq, and_true] at e1 e2
      obtain ⟨_, _, e70, _, e72⟩ := e1
      rw [e2, e70, e72]
      have xV6 := x7.trans x6
      have x06 := xV.trans xV6
      have zV := xV.size
      have zV6 := xV6.size
      have z7' := x7.size
      have hz8 := q8.lt
      have hz9 := q9.lt
      refine SBox.set (r := SBox.zero) hat11 fun w8 m8 hat11' s8 => ?_
      have hS : Soft w.heap.size w6 w8 := .box hat11 (by omega) m8
      have x08 : Ext w w8 := ext_step x06 m8 (by omega)
      have r8 := (q8.ext xV6).mod m8 (fun e => by omega)
      have r9 := (q9.ext xV6).mod m8 (fun e => by omega)
      have b1 := (hB1.ext xV6).soft hS
      have b2 := (hB2.ext xV6).soft hS
      have b6 := hB6.soft hS
      have efold : (l.take (i + 1)).foldl (addB p) b = addB p ((l.take i).foldl (addB p) b) l[i] := by rw [List.take_succ_eq_append_getElem hlt, List.foldl_append]; rfl
      obtain ⟨st1, st2⟩ := box_step b1 b6
      rw [← efold] at st1 st2
      refine join0 (fun V2 => ∃ g1 : SBox, Ext w V2 ∧ At V2 c8 (.cells g1.cells.toArray 24 (0, 0)) ∧ At V2 c9 (.cells g2.cells.toArray 24 (0, 0)) ∧
        BoxT w.heap.size V2 g1 ((l.take (i + 1)).foldl (addB p) b) ∧ BoxT w.heap.size V2 g2 ((twice (L.take i)).foldl (addB p) b)) ?_ fun K5 hK5 => ?_
      · rintro _ V2 ⟨g1', xV2, t8, t9, tB1, tB2⟩
        have hiL : i < L.length := by omega
        have hLi : L[i] = l[l.length - 1 - i] := by
          show l.reverse[i] = _
          rw [List.getElem_reverse]
        let two : Nat → MBox := fun j => (List.replicate j L[i]).foldl (addB p) ((twice (L.take i)).foldl (addB p) b)
        refine loop1 (fun x V3 => ∃ (j : Nat) (g2 : SBox), j ≤ 2 ∧ x = .int .i64 j ∧ Ext w V3 ∧ At V3 c8 (.cells g1'.cells.toArray 24 (0, 0)) ∧ At V3 c9 (.cells g2.cells.toArray 24 (0, 0)) ∧
          BoxT w.heap.size V3 g1' ((l.take (i + 1)).foldl (addB p) b) ∧ BoxT w.heap.size V3 g2 (two j)) (fun x _ => 2 - (intOf x).toNat)
          ⟨0, g2, by omega, rfl, xV2, t8, t9, tB1, tB2⟩ ?_
        rintro hh2 _ V3 hx2 ⟨j, g3, hj, rfl, xV3, q8, q9, hB1, hB2⟩ K6 hK6
        rw [hx2, bin_lss]
        refine Br_i (fun hb => ?_) fun hb => ?_
        · have hjlt : j < 2 := by have := dec_t hb; omega
          refine join0 (fun V4 => ∃ g2 : SBox, Ext w V4 ∧ At V4 c8 (.cells g1'.cells.toArray 24 (0, 0)) ∧ At V4 c9 (.cells g2.cells.toArray 24 (0, 0)) ∧
            BoxT w.heap.size V4 g1' ((l.take (i + 1)).foldl (addB p) b) ∧ BoxT w.heap.size V4 g2 (two (j + 1))) ?_ fun K7 hK7 => ?_
          · rintro _ V4 ⟨g4, y1, y2, y3, y4, y5⟩
            rw [bin_add, i64_wrap (by omega) (by omega)]
            exact hK6 _ _ ⟨j + 1, g4, by omega, by simp, y1, y2, y3, y4, y5⟩ (by simp [intOf]; omega)
          have hok2 : ∀ r ∈ (two j).2, RepOk r := fold_ok _ _ (fold_ok _ _ hokb fun r hr => hokl r (List.mem_reverse.1 (List.mem_of_mem_take (mem_twice.1 hr)))) fun r hr => by
            rw [List.eq_of_mem_replicate hr]
            exact hokl _ (List.mem_reverse.1 (List.getElem_mem hiL))
          obtain ⟨pb, po, sr, hsr, hhas, hix⟩ := hl.at_ (k := l.length - 1 - i) (by omega)
          rw [← hLi] at hsr
          have hokr := hokl _ (List.mem_reverse.1 (List.getElem_mem hiL))
          refine drawRX fun w7 x7 z7 => ?_
          have x07 := xV3.trans x7
          refine det_rx _ (fun V2 xx K => SBox.g_all (has_of_at ((q9.ext x7).ext xx))) ?_
          refine det_rx (.int .i64 l.length) (fun V2 xx K => (hl.ext (x07.trans xx)).len) ?_
          refine det_rx (.int .i64 ((l.length : Int) - 1)) (fun V2 xx K => by rw [bin_sub, i64_wrap (by omega) (by omega)]) ?_
          refine det_rx (.int .i64 ((l.length - 1 - i : Nat) : Int)) (fun V2 xx K => by rw [bin_sub, i64_wrap (by omega) (by omega), show ((l.length : Nat) : Int) - 1 - (i : Nat) = ((l.length - 1 - i : Nat) : Int) by omega]) ?_
          refine det_rx _ (fun V2 xx K => hix V2 K _) ?_
          refine det_rx _ (fun V2 xx K => SReport.g_all (hhas V2 (x07.trans xx))) ?_
          refine thr_x (fun vs V => ∃ (v1 v2 v4 : Value) (g : SBox), vs = [v1, v2, .agg g.cells.toArray, v4, .int .i64 (addV (two j) L[i] p).2.2] ∧ BoxT w.heap.size V g (addV (two j) L[i] p).1) ?_ ?_
          · refine nd_x (AddT w.heap.size (two j) L[i] p w7) (fun v a b h x => by obtain ⟨g, e, h1, h2⟩ := h; exact ⟨g, e, h1.ext x, h2.trans x⟩) (fun u6 y6 _ => callF_ret (mAdd_t (N := w.heap.size) hokr hok2 u6 ((hB2.ext x7).ext y6) (hsr.ext (x07.trans y6)) (by have := (x07.trans y6).size; omega) (hT.ext (x07.trans y6))) fun u u7 hq => ⟨by obtain ⟨g, _, _, hx⟩ := hq; exact hx, by obtain ⟨g, h1, h2, h3⟩ := hq; exact ⟨g, h1, h2, y6.trans h3⟩⟩) fun v1 => ?_
            refine nd_x (AddT w.heap.size (two j) L[i] p w7) (fun v a b h x => by obtain ⟨g, e, h1, h2⟩ := h; exact ⟨g, e, h1.ext x, h2.trans x⟩) (fun u6 y6 h6 => ⟨Ext.refl _, h6⟩) fun v2 => ?_
            refine nd_x (fun v V => AddT w.heap.size (two j) L[i] p w7 v2 V ∧ ∃ g : SBox, v = .agg g.cells.toArray ∧ BoxT w.heap.size V g (addV (two j) L[i] p).1) (fun v a b h x => by obtain ⟨⟨g, e, h1, h2⟩, g', e', h'⟩ := h; exact ⟨⟨g, e, h1.ext x, h2.trans x⟩, g', e', h'.ext x⟩) (fun u6 y6 h6 => by obtain ⟨g, rfl, h1, h2⟩ := h6; rw [ext3_0]; exact ⟨Ext.refl _, ⟨g, rfl, h1, h2⟩, g, rfl, h1⟩) fun v3 => ?_
            refine nd_x (fun v V => AddT w.heap.size (two j) L[i] p w7 v2 V ∧ ∃ g : SBox, v3 = .agg g.cells.toArray ∧ BoxT w.heap.size V g (addV (two j) L[i] p).1) (fun v a b h x => by obtain ⟨⟨g, e, h1, h2⟩, g', e', h'⟩ := h; exact ⟨⟨g, e, h1.ext x, h2.trans x⟩, g', e', h'.ext x⟩) (fun u6 y6 h6 => by obtain ⟨⟨g, rfl, h1, h2⟩, hh⟩ := h6; rw [ext3_1]; exact ⟨Ext.refl _, ⟨g, rfl, h1, h2⟩, hh⟩) fun v4 => ?_
            refine nd_x (fun v V => v = .int .i64 (addV (two j) L[i] p).2.2 ∧ ∃ g : SBox, v3 = .agg g.cells.toArray ∧ BoxT w.heap.size V g (addV (two j) L[i] p).1) (fun v a b h x => by obtain ⟨e, g', e', h'⟩ := h; exact ⟨e, g', e', h'.ext x⟩) (fun u6 y6 h6 => by obtain ⟨⟨g, rfl, h1, h2⟩, hh⟩ := h6; rw [ext3_2]; exact ⟨Ext.refl _, rfl, hh⟩) fun v5 => ?_
            intro u6 y6 h6
            obtain ⟨rfl, g, rfl, hB⟩ := h6
            exact ⟨v1, v2, v4, g, rfl, hB⟩
          refine thr_x (fun vs V => ∃ c : Nat, vs = [.pointer (some ⟨c, 0, none⟩)] ∧ w7.heap.size ≤ c ∧ At V c (.cells SBox.zero.cells.toArray 24 (0, 0))) ?_ ?_
          · refine nd_x (fun v V => ∃ c : Nat, v = .pointer (some ⟨c, 0, none⟩) ∧ w7.heap.size ≤ c ∧ At V c (.cells SBox.zero.cells.toArray 24 (0, 0))) (fun v a b h x => by obtain ⟨c, e, hc, h⟩ := h; exact ⟨c, e, hc, h.ext x⟩) (fun u6 y6 _ => alloc_i Ty.SBox_zero fun b u7 y7 hat hb _ => ⟨y7, b, rfl, by rw [← hb]; exact y6.size, hat⟩) fun v => ?_
            intro u6 y6 h6
            obtain ⟨c, rfl, hc, hat⟩ := h6
            exact ⟨c, rfl, hc, hat⟩
          rintro hh6 w6 x6 ⟨_, ⟨_, _, _, _, g6, e1, hB6⟩, c11, e2, hc11, hat11⟩
          simp only [List.cons.injEq, and_true] at e1 e2
          obtain ⟨_, _, e70, _, e72⟩ := e1
          rw [e2, e70, e72]
          have xV6 := x7.trans x6
          have x06 := xV3.trans xV6
          have zV := xV3.size
          have zV6 := xV6.size
          have z7' := x7.size
          have hz8 := q8.lt
          have hz9 := q9.lt
          refine SBox.set (r := SBox.zero) hat11 fun w8 m8 hat11' s8 => ?_
          have hS : Soft w.heap.size w6 w8 := .box hat11 (by omega) m8
          have x08 : Ext w w8 := ext_step x06 m8 (by omega)
          have r8 := (q8.ext xV6).mod m8 (fun e => by omega)
          have r9 := (q9.ext xV6).mod m8 (fun e => by omega)
          have b1 := (hB1.ext xV6).soft hS
          have b2 := (hB2.ext xV6).soft hS
          have b6 := hB6.soft hS
          have efold : two (j + 1) = addB p (two j) L[i] := by
            show (List.replicate (j + 1) L[i]).foldl _ _ = _
            rw [List.replicate_succ', List.foldl_append]; rfl
          obtain ⟨st1, st2⟩ := box_step b2 b6
          rw [← efold] at st1 st2
          rw [bin_eql]
          refine Br_i (fun hb => ?_) fun hb => ?_
          · rw [SBox.g_all (has_of_at hat11')]
            refine SBox.set (r := g3) r9 fun w9 m9 hat9' s9 => ?_
            have hS9 : Soft w.heap.size w8 w9 := .box r9 (by omega) m9
            exact hK7 _ ⟨g6, ext_step x08 m9 (by omega), r8.mod m9 hne, hat9', b1.soft hS9, (st1 (dec_t hb)).soft hS9⟩
          · exact hK7 _ ⟨g3, x08, r8, r9, b1, st2 (dec_f hb)⟩
        · have hj2 : j = 2 := by have := dec_f hb; omega
          subst hj2
          refine hK4 _ _ ⟨g1', g3, xV3, q8, q9, hB1, ?_⟩
          rw [twice_take hiL, List.foldl_append]
          exact hB2
      rw [bin_eql]
      refine Br_i (fun hb => ?_) fun hb => ?_
      · rw [SBox.g_all (has_of_at hat11')]
        refine SBox.set (r := g1) r8 fun w9 m9 hat8' s9 => ?_
        have hS9 : Soft w.heap.size w8 w9 := .box r8 (by omega) m9
        exact hK5 _ ⟨g6, ext_step x08 m9 (by omega), hat8', r9.mod m9 (Ne.symm hne), (st1 (dec_t hb)).soft hS9, b2.soft hS9⟩
      · exact hK5 _ ⟨g1, x08, r8, r9, st2 (dec_f hb), b2⟩
    · have hie : i = l.length := by have := dec_f hb; omega
      subst hie
      rw [List.take_length] at hB1
      rw [← hL, List.take_length] at hB2
      obtain ⟨o1, o2⟩ := order_plain (p := p) hV (l := l) (by omega)
      have hB2 : BoxT w.heap.size V g2 ((twice l.reverse).foldl (addB p) b) := hB2
      rw [← o1] at hB2
      refine gd_t ?_
      rw [SBox.g_all (has_of_at q8), SBox.g_all (has_of_at q9)]
      refine callF_ret (msame_ret V hB1.is hB2.is) ?_
      rintro _ u1 ⟨rfl, y1⟩
      refine gd_d rfl ?_
      rw [SBox.g_all (has_of_at (q8.ext y1))]
      refine callF_ret (mvalid_ret (fold_ok _ _ hokb hokl) u1 (hB1.is.ext y1) (hT.ext (xV.trans y1))) ?_
      rintro _ u2 ⟨rfl, y2⟩
      rw [o2]
      exact hR _ _ ⟨rfl, (xV.trans y1).trans y2⟩
  · refine join1 (fun x W => ∃ t, x = .bool t ∧ Ext w2 W ∧ (t = false → b.2.length ≤ 20 ∧ l.length ≤ 10 ∧ BVal b)) ?_ fun K4 hK4 => ?_
    · rintro hh _ W hx ⟨t, rfl, xW, ht⟩
      rw [hx]
      refine Br_i (fun hb => ?_) fun hb => ?_
      · exact hR _ _ ⟨rfl, x02.trans xW⟩
      · exact hK _ ⟨xW, ht hb⟩
    have bad : ∀ W, Ext w2 W → K4 [.bool true] W := fun W xW => hK4 _ _ ⟨true, rfl, xW, fun h => by cases h⟩
    rw [SBox.g_reps (has_of_at h3)]
    refine callF_ret (mFew_ret w2 (h.2.ext x02)) ?_
    rintro _ w4 ⟨⟨t4, rfl, f4⟩, x4⟩
    rw [un_not]
    refine Gd_i (fun b4 => ?_) fun _ => bad _ x4
    refine callF_ret (mFew_ret w4 (hl.ext (x02.trans x4))) ?_
    rintro _ w5 ⟨⟨t5, rfl, f5⟩, x5⟩
    have x25 := x4.trans x5
    rw [un_not]
    refine Gd_i (fun b5 => ?_) fun _ => bad _ x25
    rw [(hl.ext (x02.trans x25)).len, bin_gtr]
    refine Gd_i (fun b6 => ?_) fun _ => bad _ x25
    rw [SBox.g_all (has_of_at (h3.ext x25))]
    refine callF_ret (refBoxValid_ret w5 (h.ext (x02.trans x25))) ?_
    rintro _ w6 ⟨rfl, x6⟩
    rw [un_not]
    refine hK4 _ _ ⟨_, rfl, x25.trans x6, fun hf => ⟨(f4 (b_nt b4)).1, ?_, bvalid_iff.1 (b_nt hf)⟩⟩
    have := dec_f b6; omega
end Go.Proofs.YtohmledhhgdgaaaGreatDoor
