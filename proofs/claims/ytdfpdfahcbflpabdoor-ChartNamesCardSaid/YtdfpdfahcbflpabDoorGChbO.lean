/- The reference's comparisons: Same, SameLine. -/
import Derived.Test.YtdfpdfahcbflpabDoorGChbN
set_option linter.unusedVariables false
set_option linter.unusedSimpArgs false
namespace Go.Proofs.YtdfpdfahcbflpabDoor
set_option maxRecDepth 100000
set_option maxHeartbeats 16000000
open Sh Go.RowKit
theorem refSamePts_ret {u v : Value} {l m : List SPoint} (w : World) (hu : SPoint.Row w u l) (hv : SPoint.Row w v m) : Ret Tryd.prog 29 #[u, v] w fun r w' => r = .bool (decide (l = m)) ∧ Ext w w' := by
  refine ret_of (fun _ _ => sh_landfallref03_Same_ok _ _) fun R hR => ?_
  unfold sh_landfallref03_Same
  have hle := hu.le
  rw [SPoint.row_len hu, SPoint.row_len hv, bin_neq]
  refine Br_i (fun hb => hR _ _ ⟨by rw [decide_eq_false fun e => by subst e; simp at hb], Ext.refl _⟩) fun hb => ?_
  have hlen : l.length = m.length := by have : (l.length : Int) = m.length := by simpa using hb
                                        omega
  refine loop1 (fun x W => ∃ k : Nat, k ≤ l.length ∧ x = .int .i64 k ∧ Ext w W ∧ l.take k = m.take k) (fun x _ => l.length - (intOf x).toNat) ⟨0, by omega, rfl, Ext.refl _, by simp⟩ ?_
  rintro h _ W hx ⟨k, hk, rfl, xW, heq⟩ K hK
  rw [SPoint.row_len (Sl.ext hu xW), hx, bin_lss]
  refine Br_i (fun hb1 => ?_) fun hb1 => ?_
  · have hlt : k < l.length := by have := dec_t hb1; omega
    have hltm : k < m.length := by omega
    obtain ⟨b1, o1, g1, _, i1⟩ := SPoint.row_at hu hlt
    obtain ⟨b2, o2, g2, _, i2⟩ := SPoint.row_at hv hltm
    refine draw_ext fun w4 x4 => ?_
    refine det_read _ (fun V x K => i1 V K _) ?_
    refine det_read _ (fun V x K => SPoint.g_all (g1 V ((xW.trans x4).trans x))) ?_
    refine det_read _ (fun V x K => i2 V K _) ?_
    refine det_read _ (fun V x K => SPoint.g_all (g2 V ((xW.trans x4).trans x))) ?_
    intro w5 x5 _
    rw [SPoint.neq]
    refine Br_i (fun hb2 => hR _ _ ⟨?_, (xW.trans x4).trans x5⟩) fun hb2 => ?_
    · rw [decide_eq_false fun e => by subst e; simp at hb2]
    · have he : l[k] = m[k] := by simpa using hb2
      rw [bin_add, i64_wrap (by omega) (by omega)]
      refine hK _ _ ⟨k + 1, by omega, by simp, (xW.trans x4).trans x5, ?_⟩ (by simp [intOf]; omega)
      rw [List.take_succ_eq_append_getElem hlt, List.take_succ_eq_append_getElem hltm, heq, he]
  · have hke : k = l.length := by have := dec_f hb1; omega
    subst hke
    rw [List.take_length, hlen, List.take_length] at heq
    exact hR _ _ ⟨by rw [decide_eq_true heq], xW⟩
theorem refSameLine_ret {s t : SLine} {l m : Line} (w : World) (hs : LineIs w s l) (ht : LineIs w t m) : Ret Tryd.prog 10 #[.agg s.cells.toArray, .agg t.cells.toArray] w fun r w' => r = .bool (decide (l = m)) ∧ Ext w w' := by
  refine ret_of (fun _ _ => sh_landfallref15_SameLine_ok _ _) fun R hR => ?_
  unfold sh_landfallref15_SameLine
  refine box_i fun b1 w1 x1 hat1 _ _ => ?_
  refine box_i fun b2 w2 x2 hat2 _ _ => ?_
  have x02 := x1.trans x2
  have q1 := has_of_at (hat1.ext x2)
  have q2 := has_of_at hat2
  rw [SLine.g_id q1, SLine.g_id q2, hs.1, ht.1, bin_eql]
  refine Gd_i (fun hb => ?_) fun hb => hR _ _ ⟨by rw [decide_eq_false fun e => dec_f hb (by rw [e])], x02⟩
  rw [SLine.g_pts q1, SLine.g_pts q2]
  refine callF_ret (refSamePts_ret w2 (Sl.ext hs.2 x02) (Sl.ext ht.2 x02)) ?_
  rintro _ w3 ⟨rfl, x3⟩
  refine hR _ _ ⟨?_, x02.trans x3⟩
  congr 1
  rw [decide_eq_decide]
  exact ⟨fun e => Prod.ext (dec_t hb) e, fun e => by rw [e]⟩
end Go.Proofs.YtdfpdfahcbflpabDoor
