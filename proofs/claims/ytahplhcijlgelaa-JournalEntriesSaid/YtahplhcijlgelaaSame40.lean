/- WRITTEN BY structs.py: comparisons of rows. -/
import Derived.Test.YtahplhcijlgelaaRow1
import Derived.Test.YtahplhcijlgelaaDraw
import Derived.Test.YtahplhcijlgelaaT1
namespace Go.Proofs.Ytahplhcijlgelaa
open Sh Go.RowKit
set_option maxRecDepth 100000
set_option maxHeartbeats 2000000
theorem sameRecs_ret {x y : Value} {a b : List SRecord} (w : World) (hx : SRecord.Row w x a) (hy : SRecord.Row w y b) : Ret Try.prog 15 #[x, y] w fun r w' => r = .bool (decide (a = b)) ∧ Ext w w' := by
  refine ret_of (fun _ _ => sh_landfallref40_Same_ok _ _) fun R hR => ?_
  unfold sh_landfallref40_Same
  have hle := hx.le
  rw [SRecord.row_len hx, SRecord.row_len hy, bin_neq]
  refine Br_i (fun hb => ?_) fun hb => ?_
  · have hne : ¬ ((a.length : Int) = b.length) := by simpa using hb
    refine hR _ _ ⟨?_, Ext.refl _⟩
    rw [decide_eq_false]
    rintro rfl; exact hne rfl
  · have hl : (a.length : Int) = b.length := by simpa using hb
    refine loop1 (fun x w1 => ∃ k : Nat, k ≤ a.length ∧ x = .int .i64 k ∧ Ext w w1 ∧ a.take k = b.take k) (fun x _ => a.length - (intOf x).toNat) ⟨0, by omega, rfl, Ext.refl _, by simp⟩ ?_
    rintro h _ w1 h5 ⟨k, hk, rfl, he, htk⟩ K hK
    rw [SRecord.row_len (Sl.ext hx he), h5, bin_lss]
    refine Br_i (fun hb => ?_) fun hb => ?_
    · have hlt := dec_t hb
      have hlt : k < a.length := by omega
      refine draw_ext fun w2 hd => ?_
      have he2 : Ext w w2 := he.trans hd
      obtain ⟨g1, o1, hh1, _, hix1⟩ := SRecord.row_at hx hlt
      obtain ⟨g2, o2, hh2, _, hix2⟩ := SRecord.row_at hy (show k < b.length by omega)
      refine det_read _ (fun w3 h3 K => hix1 w3 K _) ?_
      refine det_read (.agg a[k].cells.toArray) (fun w3 h3 K => SRecord.g_all (hh1 w3 (he2.trans h3))) ?_
      refine det_read _ (fun w3 h3 K => hix2 w3 K _) ?_
      refine det_read (.agg (b[k]'(by omega)).cells.toArray) (fun w3 h3 K => SRecord.g_all (hh2 w3 (he2.trans h3))) ?_
      intro w3 h3 _
      have he4 := he2.trans h3
      rw [SRecord.neq]
      refine Br_i (fun hb => ?_) fun hb => ?_
      · have hne : a[k] ≠ b[k] := by simpa using hb
        refine hR _ _ ⟨?_, he4⟩
        rw [decide_eq_false]
        rintro rfl; exact hne rfl
      · have heq : a[k] = b[k] := by simpa using hb
        rw [bin_add, i64_wrap (by omega) (by omega)]
        refine hK _ _ ⟨k + 1, by omega, by simp, he4, ?_⟩ (by simp [intOf]; omega)
        rw [List.take_succ_eq_append_getElem hlt, List.take_succ_eq_append_getElem (by omega), htk, heq]
    · have hge := dec_f hb
      refine hR _ _ ⟨?_, he⟩
      rw [decide_eq_true]
      rw [List.take_of_length_le (by omega), List.take_of_length_le (by omega)] at htk
      exact htk
theorem sameEnts_ret {x y : Value} {a b : List SEntry} (w : World) (hx : SEntry.Row w x a) (hy : SEntry.Row w y b) : Ret Try.prog 18 #[x, y] w fun r w' => r = .bool (decide (a = b)) ∧ Ext w w' := by
  refine ret_of (fun _ _ => sh_landfallref40_SameEntries_ok _ _) fun R hR => ?_
  unfold sh_landfallref40_SameEntries
  have hle := hx.le
  rw [SEntry.row_len hx, SEntry.row_len hy, bin_neq]
  refine Br_i (fun hb => ?_) fun hb => ?_
  · have hne : ¬ ((a.length : Int) = b.length) := by simpa using hb
    refine hR _ _ ⟨?_, Ext.refl _⟩
    rw [decide_eq_false]
    rintro rfl; exact hne rfl
  · have hl : (a.length : Int) = b.length := by simpa using hb
    refine loop1 (fun x w1 => ∃ k : Nat, k ≤ a.length ∧ x = .int .i64 k ∧ Ext w w1 ∧ a.take k = b.take k) (fun x _ => a.length - (intOf x).toNat) ⟨0, by omega, rfl, Ext.refl _, by simp⟩ ?_
    rintro h _ w1 h5 ⟨k, hk, rfl, he, htk⟩ K hK
    rw [SEntry.row_len (Sl.ext hx he), h5, bin_lss]
    refine Br_i (fun hb => ?_) fun hb => ?_
    · have hlt := dec_t hb
      have hlt : k < a.length := by omega
      refine draw_ext fun w2 hd => ?_
      have he2 : Ext w w2 := he.trans hd
      obtain ⟨g1, o1, hh1, _, hix1⟩ := SEntry.row_at hx hlt
      obtain ⟨g2, o2, hh2, _, hix2⟩ := SEntry.row_at hy (show k < b.length by omega)
      refine det_read _ (fun w3 h3 K => hix1 w3 K _) ?_
      refine det_read (.agg a[k].cells.toArray) (fun w3 h3 K => SEntry.g_all (hh1 w3 (he2.trans h3))) ?_
      refine det_read _ (fun w3 h3 K => hix2 w3 K _) ?_
      refine det_read (.agg (b[k]'(by omega)).cells.toArray) (fun w3 h3 K => SEntry.g_all (hh2 w3 (he2.trans h3))) ?_
      intro w3 h3 _
      have he4 := he2.trans h3
      rw [SEntry.neq]
      refine Br_i (fun hb => ?_) fun hb => ?_
      · have hne : a[k] ≠ b[k] := by simpa using hb
        refine hR _ _ ⟨?_, he4⟩
        rw [decide_eq_false]
        rintro rfl; exact hne rfl
      · have heq : a[k] = b[k] := by simpa using hb
        rw [bin_add, i64_wrap (by omega) (by omega)]
        refine hK _ _ ⟨k + 1, by omega, by simp, he4, ?_⟩ (by simp [intOf]; omega)
        rw [List.take_succ_eq_append_getElem hlt, List.take_succ_eq_append_getElem (by omega), htk, heq]
    · have hge := dec_f hb
      refine hR _ _ ⟨?_, he⟩
      rw [decide_eq_true]
      rw [List.take_of_length_le (by omega), List.take_of_length_le (by omega)] at htk
      exact htk
end Go.Proofs.Ytahplhcijlgelaa
