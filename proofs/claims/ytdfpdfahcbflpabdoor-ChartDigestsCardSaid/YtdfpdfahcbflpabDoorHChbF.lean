/- The law's and the reference's small functions: SameInts, has, right, Few, usable. -/
import Derived.Test.YtdfpdfahcbflpabDoorHChbE
set_option linter.unusedVariables false
set_option linter.unusedSimpArgs false
namespace Go.Proofs.YtdfpdfahcbflpabDoor
set_option maxRecDepth 100000
set_option maxHeartbeats 16000000
open Sh Go.RowKit
theorem IntsIs.len {w : World} {v : Value} {l : List Int} (h : IntsIs w v l) {K : Value → World → Prop} {X : List PanicEntry → World → Prop} {cs : Array Bool} : CallB Tryd.prog .len #[45] 3 cs #[v] w K X = K (.int .i64 l.length) w := Sl.len h Ty.ints
theorem IntsIs.at_ {w : World} {v : Value} {l : List Int} (h : IntsIs w v l) {j : Nat} (hj : j < l.length) : ∃ a : Addr, (∀ (w1 : World) (K : Value → World → Prop) (X : List PanicEntry → World → Prop), DoV Tryd.prog (Instr.indexAt 45 v (.int .i64 j)) w1 K X = K (.pointer (some a)) w1) ∧
    (∀ w1, Ext w w1 → ∀ (K : Value → World → Prop) (X : List PanicEntry → World → Prop), DoV Tryd.prog (Instr.loadAt 3 (.pointer (some a))) w1 K X = K (.int .i64 l[j]) w1) := by
  obtain ⟨i, hi, hz, hs, hby⟩ := Ty.info_parts Ty.int_info
  obtain ⟨a, cap, rfl, h1, h2, h3, h4⟩ := h
  have hne : iv l ≠ [] := by intro e; have := iv_length l; rw [e] at this; simp at this; omega
  rcases h4 with h4 | ⟨b, o, rfl, hlt, hc⟩
  · exact absurd h4 hne
  refine ⟨⟨b, o + j, none⟩, fun w1 K X => DoV_ok (by simp [Instr.indexAt, asIntOf, run_underlying Ty.ints, sizeOf, typeInfo, hi, hs, hj, addr_add15]), fun w1 x K X => ?_⟩
  refine load_cell Ty.int_agg ?_
  rw [World.cell?_of_block (w := w) (w' := w1) (a := ⟨b, o + j, none⟩) (x.block b hlt)]
  exact hc j _ (iv_get hj)
theorem sameInts_ret {u v : Value} {l m : List Int} (w : World) (hu : IntsIs w u l) (hv : IntsIs w v m) : Ret Tryd.prog 21 #[u, v] w fun r w' => r = .bool (decide (l = m)) ∧ Ext w w' := by
  refine ret_of (fun _ _ => sh_landfallref15_SameInts_ok _ _) fun R hR => ?_
  unfold sh_landfallref15_SameInts
  have hle := Sl.le hu
  rw [hu.len, hv.len, bin_neq]
  refine Br_i (fun hb => hR _ _ ⟨by rw [decide_eq_false fun e => by subst e; simp at hb], Ext.refl _⟩) fun hb => ?_
  have hlen : l.length = m.length := by have : (l.length : Int) = m.length := by simpa using hb
                                        omega
  refine loop1 (fun x W => ∃ k : Nat, k ≤ l.length ∧ x = .int .i64 k ∧ Ext w W ∧ l.take k = m.take k) (fun x _ => l.length - (intOf x).toNat) ⟨0, by omega, rfl, Ext.refl _, by simp⟩ ?_
  rintro h _ W hx ⟨k, hk, rfl, xW, heq⟩ K hK
  rw [(hu.ext xW).len, hx, bin_lss]
  refine Br_i (fun hb1 => ?_) fun hb1 => ?_
  · have hlt : k < l.length := by have := dec_t hb1; omega
    have hltm : k < m.length := by omega
    obtain ⟨a1, i1, g1⟩ := hu.at_ hlt
    obtain ⟨a2, i2, g2⟩ := hv.at_ hltm
    refine draw_ext fun w4 x4 => ?_
    refine det_read _ (fun V x K => i1 V K _) ?_
    refine det_read _ (fun V x K => g1 V ((xW.trans x4).trans x) K _) ?_
    refine det_read _ (fun V x K => i2 V K _) ?_
    refine det_read _ (fun V x K => g2 V ((xW.trans x4).trans x) K _) ?_
    intro w5 x5 _
    rw [bin_neq]
    refine Br_i (fun hb2 => hR _ _ ⟨?_, (xW.trans x4).trans x5⟩) fun hb2 => ?_
    · rw [decide_eq_false fun e => by subst e; simp at hb2]
    · have he : l[k] = m[k] := by simpa using hb2
      rw [bin_add, i64_wrap (by omega) (by omega)]
      refine hK _ _ ⟨k + 1, by omega, by simp, (xW.trans x4).trans x5, ?_⟩ (by simp [intOf]; omega)
      rw [List.take_succ_eq_append_getElem hlt, List.take_succ_eq_append_getElem hltm, heq, he]
  · have hke : k = l.length := by have := dec_f hb1; omega
    subst hke
    rw [List.take_length, hlen, List.take_length] at heq
    exact hR _ _ ⟨by rw [decide_eq_true heq], xW⟩
namespace Cha
def FewP (C : Cht) : Prop := C.cells.length ≤ 64 ∧ C.beacons.length ≤ 20 ∧ C.lines.length ≤ 10 ∧ ∀ l ∈ C.lines.take 10, l.2.length ≤ 20
end Cha
open Cha in
theorem few15_ret {s : SChart} {C : Cht} (w : World) (hc : ChartIs w s C) : Ret Tryd.prog 23 #[.agg s.cells.toArray] w fun r w' => (∃ t, r = .bool t ∧ (t = true ↔ FewP C)) ∧ Ext w w' := by
  refine ret_of (fun _ _ => sh_landfallref15_Few_ok _) fun R hR => ?_
  unfold sh_landfallref15_Few
  refine box_i fun g w1 x1 hat1 _ _ => ?_
  have hg : ∀ W, Ext w1 W → Has W g 0 s.cells := fun W x => has_of_at (hat1.ext x)
  have hle := hc.lines.le
  have no : ∀ V, Ext w1 V → ¬ FewP C → R (.returned (.bool false)) V := fun V x hn => hR _ _ ⟨⟨false, rfl, fun h => (by cases h), fun h => absurd h hn⟩, x1.trans x⟩
  refine loop1 (fun x W => ∃ k : Nat, k ≤ C.lines.length ∧ k ≤ 10 ∧ x = .int .i64 k ∧ Ext w1 W ∧ ∀ l ∈ C.lines.take k, l.2.length ≤ 20) (fun x _ => C.lines.length - (intOf x).toNat) ⟨0, by omega, by omega, rfl, Ext.refl _, by simp⟩ ?_
  rintro h _ W hx ⟨k, hk, hk10, rfl, xW, hall⟩ K hK
  have rc := Sl.ext hc.cells (x1.trans xW)
  have rb := Sl.ext hc.beacons (x1.trans xW)
  have rl := hc.lines.ext (x1.trans xW)
  have hW := hg W xW
  have tail : (∀ l ∈ C.lines.take 10, l.2.length ≤ 20) →
    DoV Tryd.prog (Instr.fieldAt 26 (.pointer (some ⟨g, 0, none⟩)) 6) W (fun a wa => DoV Tryd.prog (Instr.loadAt 22 a) wa (fun b wb => CallB Tryd.prog .len #[22] 3 #[false] #[b] wb (fun c wc =>
    DoV Tryd.prog (binS .leq 3 (.tmp 25) (.const (.int .i64 64)) c (.int .i64 64)) wc (fun t w2 => Gd t true
      (DoV Tryd.prog (Instr.fieldAt 26 (.pointer (some ⟨g, 0, none⟩)) 7) w2 (fun a wa => DoV Tryd.prog (Instr.loadAt 23 a) wa (fun b wb => CallB Tryd.prog .len #[23] 3 #[false] #[b] wb (fun c wc =>
      DoV Tryd.prog (binS .leq 3 (.tmp 30) (.const (.int .i64 20)) c (.int .i64 20)) wc (fun t w3 => Gd t true
        (DoV Tryd.prog (Instr.fieldAt 26 (.pointer (some ⟨g, 0, none⟩)) 8) w3 (fun a wa => DoV Tryd.prog (Instr.loadAt 24 a) wa (fun b wb => CallB Tryd.prog .len #[24] 3 #[false] #[b] wb (fun c wc =>
        DoV Tryd.prog (binS .leq 3 (.tmp 36) (.const (.int .i64 10)) c (.int .i64 10)) wc (fun t w4 => R (.returned t) w4) (Pan R)) (Pan R)) (Pan R)) (Pan R))
        (R (.returned (.bool false)) w3)) (Pan R)) (Pan R)) (Pan R)) (Pan R))
      (R (.returned (.bool false)) w2)) (Pan R)) (Pan R)) (Pan R)) (Pan R) := fun hl => by
    rw [SChart.g_cs hW, SCell.row_len rc, bin_leq]
    refine Gd_i (fun h1 => ?_) fun hb => no _ xW fun hn => by have := dec_f hb; have := hn.1; omega
    rw [SChart.g_bs hW, SBeacon.row_len rb, bin_leq]
    refine Gd_i (fun h2 => ?_) fun hb => no _ xW fun hn => by have := dec_f hb; have := hn.2.1; omega
    rw [SChart.g_ls hW, rl.len, bin_leq]
    have h1 := dec_t h1
    have h2 := dec_t h2
    refine hR _ _ ⟨⟨_, rfl, fun ht => ⟨by omega, by omega, by have := of_decide_eq_true ht; omega, hl⟩, fun hn => decide_eq_true (by have := hn.2.2.1; omega)⟩, x1.trans xW⟩
  refine join0 (fun V => V = W ∧ k < C.lines.length ∧ k < 10) ?_ fun K3 hK3 => ?_
  · rintro _ V ⟨hV, hlt, hlt10⟩
    subst V
    obtain ⟨pb, po, sl, hsl, hhas, hix⟩ := rl.at_ hlt
    rw [SChart.g_ls hW, hx, hix, SLine.g_pts (hhas W (Ext.refl _)), SPoint.row_len hsl.2, bin_gtr]
    refine Br_i (fun hb => no _ xW fun hn => ?_) fun hb => ?_
    · have h1 := dec_t hb
      have hm : C.lines[k] ∈ C.lines.take 10 := by
        rw [List.mem_take_iff_getElem]
        exact ⟨k, by omega, rfl⟩
      have := hn.2.2.2 _ hm
      omega
    · rw [bin_add, i64_wrap (by omega) (by omega)]
      refine hK _ _ ⟨k + 1, by omega, by omega, by simp, xW, fun l hl => ?_⟩ (by simp [intOf]; omega)
      rw [List.take_succ_eq_append_getElem hlt, List.mem_append, List.mem_singleton] at hl
      rcases hl with hl | rfl
      · exact hall l hl
      · have := dec_f hb; omega
  · rw [SChart.g_ls hW, rl.len, hx, bin_lss]
    refine Gd_i (fun hb => ?_) fun hb => ?_
    · rw [bin_lss]
      have hlt : k < C.lines.length := by have := dec_t hb; omega
      refine Br_i (fun hb2 => hK3 _ ⟨rfl, hlt, by have := dec_t hb2; omega⟩) fun hb2 => ?_
      have hk10' : k = 10 := by have := dec_f hb2; omega
      subst hk10'
      exact tail hall
    · have hke : k = C.lines.length := by have := dec_f hb; omega
      refine tail fun l hl => ?_
      rw [List.take_of_length_le (by omega)] at hl
      rw [hke, List.take_length] at hall
      exact hall l hl
open Cha in
theorem usable_ret {s : SChart} {C : Cht} (w : World) (hc : ChartIs w s C) : Ret Tryd.prog 7 #[.agg s.cells.toArray] w fun r w' => (∃ t, r = .bool t ∧ (t = true ↔ FewP C ∧ GoodC C)) ∧ Ext w w' := by
  refine ret_of (fun _ _ => sh_landfalllaw15_usable_ok _) fun R hR => ?_
  unfold sh_landfalllaw15_usable
  refine box_i fun g w1 x1 hat1 _ _ => ?_
  rw [SChart.g_all (has_of_at hat1)]
  refine callF_ret (few15_ret w1 (hc.ext x1)) ?_
  rintro _ w2 ⟨⟨t, rfl, ht⟩, x2⟩
  refine Gd_i (fun hb => ?_) fun hb => hR _ _ ⟨⟨false, rfl, fun h => (by cases h), fun hn => by rw [ht.2 hn.1] at hb; cases hb⟩, x1.trans x2⟩
  rw [SChart.g_all (has_of_at (hat1.ext x2))]
  refine callF_ret (refChValid_ret w2 (hc.ext (x1.trans x2))) ?_
  rintro _ w3 ⟨rfl, x3⟩
  exact hR _ _ ⟨⟨_, rfl, fun hv => ⟨ht.1 hb, valid_iff.1 hv⟩, fun hn => valid_iff.2 hn.2⟩, (x1.trans x2).trans x3⟩
end Go.Proofs.YtdfpdfahcbflpabDoor
