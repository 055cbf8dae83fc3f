/- The walks of Kept and of both Entries. -/
import Derived.Test.YtahplhcijlgelaaJouW1
import Derived.Test.YtahplhcijlgelaaSame40
namespace Go.Proofs.Ytahplhcijlgelaa
set_option maxRecDepth 100000
set_option maxHeartbeats 2000000
open Sh Go.RowKit
namespace Jou
theorem keptL_drop {l : List SRecord} {k : Nat} (h : k < l.length) (out : List SEntry) : keptL out (l.drop k) = if l[k].kind = 1 then (if l[k].entry.seq = (out.length : Int) + 1 then keptL (out ++ [l[k].entry]) (l.drop (k + 1)) else none) else if l[k].seq = (out.length : Int) then keptL out (l.drop (k + 1)) else none := by
  rw [List.drop_eq_getElem_cons h]; rfl
def kept (l : List SRecord) : Option (List SEntry) := keptL [] l
end Jou
theorem form_kind {r : SRecord} (h : Jou.form r = true) : r.kind = 1 ∨ r.kind = 2 := by
  unfold Jou.form at h
  split at h
  · exact .inl (by assumption)
  · simp only [Bool.and_eq_true, decide_eq_true_eq] at h
    exact .inr h.1
/-- Where a loop over records stands that keeps entries. -/
def KeptAt (w0 : World) (l : List SRecord) (k : Nat) (x : Value) (w : World) : Prop :=
  k ≤ l.length ∧ ∃ out, SEntry.Owns w0.heap.size w x out ∧ Mod (w0.heap.size ≤ ·) w0 w ∧ Jou.kept l = Jou.keptL out (l.drop k) ∧ out.length ≤ k
def KeptQ (l : List SRecord) (w : World) (r : Value) (w' : World) : Prop :=
  ∃ x, r = .tuple #[x, .bool (Jou.kept l).isSome] ∧ SEntry.Row w' x ((Jou.kept l).getD []) ∧ Ext w w'
theorem Kept_ret {v : Value} {l : List SRecord} (w : World) (h : SRecord.Row w v l) (hl : l.length ≤ 4000) (hf : ∀ r ∈ l, Jou.form r = true) : Ret Try.prog 32 #[v] w (KeptQ l w) := by
  refine ret_of (fun _ _ => sh_landfallref40_Kept_ok _) fun R hR => ?_
  unfold sh_landfallref40_Kept
  have hnone : ∀ w', Ext w w' → Jou.kept l = none → R (.returned (.tuple #[.slice none 0 0, .bool false])) w' := fun w' x e => hR _ _ ⟨_, by rw [e]; rfl, by rw [e]; exact SEntry.row_nil _, x⟩
  refine loop2 (fun x y w1 => ∃ k : Nat, y = .int .i64 k ∧ KeptAt w l k x w1) (fun _ y _ => l.length - (intOf y).toNat) ⟨0, rfl, by omega, [], SEntry.owns_nil _ _, Mod.refl _ _, by simp [Jou.kept], by simp⟩ ?_
  rintro hh x _ w1 hx hy ⟨k, rfl, hk, out, ho, hm, hkept, hlen⟩ K hK
  have x1 := hm.new
  rw [SRecord.row_len (Sl.ext h x1), hy, bin_lss]
  refine Br_i (fun hb => ?_) fun hb => ?_
  · have hlt : k < l.length := by have := dec_t hb; omega
    rw [Jou.keptL_drop hlt] at hkept
    have hfk := form_kind (hf l[k] (List.getElem_mem hlt))
    refine join1 (fun x' w' => KeptAt w l (k + 1) x' w') ?_ fun K4 hK4 => ?_
    · rintro h4 x' w2 h4x hq
      rw [h4x, bin_add, i64_wrap (by omega) (by omega)]
      exact hK _ _ _ ⟨k + 1, by simp, hq⟩ (by simp [intOf]; omega)
    · obtain ⟨b, o, hhas, hbl, hix⟩ := SRecord.row_at h hlt
      have hv := hhas w1 x1
      rw [hix, SRecord.g_kind hv, bin_eql]
      refine Br_i (fun hb => ?_) fun hb => ?_
      · have h2 := dec_t hb
        rw [if_neg (by omega)] at hkept
        rw [hix, SRecord.g_seq hv, hx, SEntry.row_len (Sl.of_owns ho), bin_neq]
        refine Br_i (fun hb => ?_) fun hb => ?_
        · have hne : ¬ l[k].seq = (out.length : Int) := by simpa using hb
          rw [if_neg hne] at hkept
          exact hnone _ x1 hkept
        · have he : l[k].seq = (out.length : Int) := by simpa using hb
          rw [if_pos he] at hkept
          exact hK4 _ _ ⟨by omega, out, ho, hm, hkept, by omega⟩
      · have h2 := dec_f hb
        have h1 : l[k].kind = 1 := by omega
        rw [if_pos h1] at hkept
        rw [hix, SRecord.g_entry_seq hv, hx, SEntry.row_len (Sl.of_owns ho), bin_add, i64_wrap (by omega) (by omega), bin_neq]
        refine Br_i (fun hb => ?_) fun hb => ?_
        · have hne : ¬ l[k].entry.seq = (out.length : Int) + 1 := by simpa using hb
          rw [if_neg hne] at hkept
          exact hnone _ x1 hkept
        · have he : l[k].entry.seq = (out.length : Int) + 1 := by simpa using hb
          rw [if_pos he] at hkept
          rw [hix, SRecord.g_entry hv]
          have z1 := x1.size
          refine SEntry.row_app ho (by omega) z1 fun v' w2 ho2 m2 => ?_
          exact hK4 _ _ ⟨by omega, _, ho2, hm.trans m2, hkept, by simp; omega⟩
  · have hge : l.length ≤ k := by have := dec_f hb; omega
    rw [List.drop_eq_nil_of_le hge] at hkept
    have hkept : Jou.kept l = some out := hkept
    refine hR _ _ ⟨_, by rw [hkept, hx]; rfl, by rw [hkept]; exact Sl.of_owns ho, x1⟩
/-- What Entries of either kind gives. -/
def entriesV (l : List SRecord) : List SEntry × Int := if 4000 < l.length then ([], 2) else if (∀ r ∈ l, Jou.form r = true) then (match Jou.kept l with | none => ([], 7) | some o => (o, 0)) else ([], 1)
def EntriesQ (l : List SRecord) (w : World) (r : Value) (w' : World) : Prop :=
  ∃ x, r = .tuple #[x, .int .i64 (entriesV l).2] ∧ SEntry.Row w' x (entriesV l).1 ∧ Ext w w'
theorem refEntries_ret {v : Value} {l : List SRecord} (w : World) (h : SRecord.Row w v l) : Ret Try.prog 17 #[v] w (EntriesQ l w) := by
  refine ret_of (fun _ _ => sh_landfallref40_Entries_ok _) fun R hR => ?_
  unfold sh_landfallref40_Entries
  rw [SRecord.row_len h, bin_gtr]
  refine Br_i (fun hb => ?_) fun hb => ?_
  · have hlt : 4000 < l.length := by have := dec_t hb; omega
    have e : entriesV l = ([], 2) := by unfold entriesV; rw [if_pos hlt]
    exact hR _ _ ⟨_, by rw [e], by rw [e]; exact SEntry.row_nil _, Ext.refl _⟩
  · have hle : ¬ 4000 < l.length := by have := dec_f hb; omega
    refine loop1 (fun y w1 => ∃ k : Nat, y = .int .i64 k ∧ k ≤ l.length ∧ Ext w w1 ∧ ∀ r ∈ l.take k, Jou.form r = true) (fun y _ => l.length - (intOf y).toNat) ⟨0, rfl, by omega, Ext.refl _, by simp⟩ ?_
    rintro hh _ w1 hy ⟨k, rfl, hk, x1, hfk⟩ K hK
    rw [SRecord.row_len (Sl.ext h x1), hy, bin_lss]
    refine Br_i (fun hb => ?_) fun hb => ?_
    · have hlt : k < l.length := by have := dec_t hb; omega
      obtain ⟨b, o, hhas, hbl, hix⟩ := SRecord.row_at h hlt
      rw [hix, SRecord.g_all (hhas w1 x1)]
      refine callF_ret (Form_ret l[k] w1) ?_
      rintro _ w2 ⟨rfl, x2⟩
      rw [un_not]
      refine Br_i (fun hb => ?_) fun hb => ?_
      · have hf : Jou.form l[k] = false := by simpa using hb
        have e : entriesV l = ([], 1) := by
          unfold entriesV
          rw [if_neg hle, if_neg]
          intro hall
          rw [hall _ (List.getElem_mem hlt)] at hf; cases hf
        exact hR _ _ ⟨_, by rw [e], by rw [e]; exact SEntry.row_nil _, x1.trans x2⟩
      · have hf : Jou.form l[k] = true := by simpa using hb
        rw [bin_add, i64_wrap (by omega) (by omega)]
        refine hK _ _ ⟨k + 1, by simp, by omega, x1.trans x2, fun r hr => ?_⟩ (by simp [intOf]; omega)
        rw [List.take_succ_eq_append_getElem hlt, List.mem_append, List.mem_singleton] at hr
        rcases hr with hr | rfl
        · exact hfk r hr
        · exact hf
    · have hge : l.length ≤ k := by have := dec_f hb; omega
      rw [List.take_of_length_le hge] at hfk
      refine callF_ret (Kept_ret w1 (Sl.ext h x1) (by omega) hfk) ?_
      rintro _ w2 ⟨x, rfl, hrow, x2⟩
      rw [ext2_0, ext2_1, un_not]
      refine Br_i (fun hb => ?_) fun hb => ?_
      · have hn : Jou.kept l = none := by simpa using hb
        have e : entriesV l = ([], 7) := by unfold entriesV; rw [if_neg hle, if_pos hfk, hn]
        exact hR _ _ ⟨_, by rw [e], by rw [e]; exact SEntry.row_nil _, x1.trans x2⟩
      · have hs : (Jou.kept l).isSome = true := by simpa using hb
        obtain ⟨out, hout⟩ := Option.isSome_iff_exists.1 hs
        rw [hout] at hrow
        have e : entriesV l = (out, 0) := by unfold entriesV; rw [if_neg hle, if_pos hfk, hout]
        exact hR _ _ ⟨_, by rw [e], by rw [e]; exact hrow, x1.trans x2⟩
theorem jEntries_ret {v : Value} {l : List SRecord} (w : World) (h : SRecord.Row w v l) : Ret Try.prog 16 #[v] w (EntriesQ l w) := by
  refine ret_of (fun _ _ => sh_journal_Entries_ok _) fun R hR => ?_
  unfold sh_journal_Entries
  rw [SRecord.row_len h, bin_gtr]
  refine Br_i (fun hb => ?_) fun hb => ?_
  · have hlt : 4000 < l.length := by have := dec_t hb; omega
    have e : entriesV l = ([], 2) := by unfold entriesV; rw [if_pos hlt]
    exact hR _ _ ⟨_, by rw [e], by rw [e]; exact SEntry.row_nil _, Ext.refl _⟩
  · have hle : ¬ 4000 < l.length := by have := dec_f hb; omega
    rw [SRecord.row_len h]
    refine loop1 (fun y w1 => ∃ k : Nat, y = .int .i64 k ∧ k ≤ l.length ∧ Ext w w1 ∧ ∀ r ∈ l.take k, Jou.form r = true) (fun y _ => l.length - (intOf y).toNat) ⟨0, rfl, by omega, Ext.refl _, by simp⟩ ?_
    rintro hh _ w1 hy ⟨k, rfl, hk, x1, hfk⟩ K hK
    rw [hy, bin_lss]
    refine Br_i (fun hb => ?_) fun hb => ?_
    · have hlt : k < l.length := by have := dec_t hb; omega
      obtain ⟨b, o, hhas, hbl, hix⟩ := SRecord.row_at h hlt
      rw [hix, SRecord.g_all (hhas w1 x1)]
      refine alloc_i Ty.SRecord_zero fun g w2 x2 hat hg _ => ?_
      refine SRecord.set (r := SRecord.zero) hat fun w3 m3 h3 _ => ?_
      have z1 := x1.size
      have z2 := x2.size
      have x3 : Ext w w3 := ((Mod.of_ext (x1.trans x2) : Mod (w.heap.size ≤ ·) w w2).trans (m3.mono fun k _ h => by omega)).new
      rw [SRecord.g_all (has_of_at h3)]
      refine callF_ret (isRecord_ret l[k] w3) ?_
      rintro _ w4 ⟨rfl, x4⟩
      rw [un_not]
      refine Br_i (fun hb => ?_) fun hb => ?_
      · have hf : Jou.form l[k] = false := by simpa using hb
        have e : entriesV l = ([], 1) := by
          unfold entriesV
          rw [if_neg hle, if_neg]
          intro hall
          rw [hall _ (List.getElem_mem hlt)] at hf; cases hf
        exact hR _ _ ⟨_, by rw [e], by rw [e]; exact SEntry.row_nil _, x3.trans x4⟩
      · have hf : Jou.form l[k] = true := by simpa using hb
        rw [bin_add, i64_wrap (by omega) (by omega)]
        refine hK _ _ ⟨k + 1, by simp, by omega, x3.trans x4, fun r hr => ?_⟩ (by simp [intOf]; omega)
        rw [List.take_succ_eq_append_getElem hlt, List.mem_append, List.mem_singleton] at hr
        rcases hr with hr | rfl
        · exact hfk r hr
        · exact hf
    · have hge : l.length ≤ k := by have := dec_f hb; omega
      rw [List.take_of_length_le hge] at hfk
      have e0 : entriesV l = (match Jou.kept l with | none => ([], 7) | some o => (o, 0)) := by unfold entriesV; rw [if_neg hle, if_pos hfk]
      have hnone : ∀ w', Ext w w' → Jou.kept l = none → R (.returned (.tuple #[.slice none 0 0, .int .i64 7])) w' := fun w' x e => hR _ _ ⟨_, by rw [e0, e], by rw [e0, e]; exact SEntry.row_nil _, x⟩
      rw [SRecord.row_len (Sl.ext h x1)]
      refine loop2 (fun x y w1 => ∃ k : Nat, y = .int .i64 k ∧ KeptAt w l k x w1) (fun _ y _ => l.length - (intOf y).toNat) ⟨0, rfl, by omega, [], SEntry.owns_nil _ _, .of_ext x1, by simp [Jou.kept], by simp⟩ ?_
      clear hK hy hh K
      rintro hh x _ w2 hx hy ⟨k, rfl, hk, out, ho, hm, hkept, hlen⟩ K hK
      have x2 := hm.new
      rw [hy, bin_lss]
      refine Br_i (fun hb => ?_) fun hb => ?_
      · have hlt : k < l.length := by have := dec_t hb; omega
        rw [Jou.keptL_drop hlt] at hkept
        have hfk1 := form_kind (hfk l[k] (List.getElem_mem hlt))
        refine join1 (fun x' w' => KeptAt w l (k + 1) x' w') ?_ fun K4 hK4 => ?_
        · rintro h4 x' w3 h4x hq
          rw [h4x, bin_add, i64_wrap (by omega) (by omega)]
          exact hK _ _ _ ⟨k + 1, by simp, hq⟩ (by simp [intOf]; omega)
        · obtain ⟨b, o, hhas, hbl, hix⟩ := SRecord.row_at h hlt
          rw [hix, SRecord.g_all (hhas w2 x2)]
          refine alloc_i Ty.SRecord_zero fun g w3 x3 hat hg _ => ?_
          refine SRecord.set (r := SRecord.zero) hat fun w4 m4 h4 _ => ?_
          have z2 := x2.size
          have z3 := x3.size
          have hv := has_of_at h4
          have m34 : Mod (w2.heap.size ≤ ·) w2 w4 := (Mod.of_ext x3 : Mod (w2.heap.size ≤ ·) w2 w3).trans (m4.mono fun k _ h => by omega)
          have hm4 : Mod (w.heap.size ≤ ·) w w4 := hm.trans (m34.mono fun k _ h => by omega)
          have ho4 := Own.ext ho m34.new
          have x4 := hm4.new
          refine join1 (fun q w' => w' = w4 ∧ q = .bool (decide (l[k].kind = 1 ∧ l[k].entry.seq = (out.length : Int) + 1))) ?_ fun K5 hK5 => ?_
          · rintro h5 q w5 h5q ⟨rfl, rfl⟩
            rw [h5q]
            refine Br_i (fun hb => ?_) fun hb => ?_
            · obtain ⟨h1, he⟩ := dec_t hb
              rw [if_pos h1, if_pos he] at hkept
              rw [SRecord.g_entry hv, hx]
              refine SEntry.row_app ho4 (by omega) (by have := x4.size; omega) fun v' w6 ho6 m6 => ?_
              exact hK4 _ _ ⟨by omega, _, ho6, hm4.trans m6, hkept, by simp; omega⟩
            · have hn := dec_f hb
              refine join1 (fun q w' => w' = w5 ∧ q = .bool (decide (l[k].kind = 1 ∨ ¬ l[k].seq = (out.length : Int)))) ?_ fun K6 hK6 => ?_
              · rintro h6 q w6 h6q ⟨rfl, rfl⟩
                rw [h6q]
                refine Br_i (fun hb => ?_) fun hb => ?_
                · have hor := dec_t hb
                  refine hnone _ x4 ?_
                  by_cases h1 : l[k].kind = 1
                  · rw [if_pos h1, if_neg (fun h => hn ⟨h1, h⟩)] at hkept; exact hkept
                  · rw [if_neg h1, if_neg (by rcases hor with h | h; exact absurd h h1; exact h)] at hkept; exact hkept
                · have hor := dec_f hb
                  have h1 : ¬ l[k].kind = 1 := fun h => hor (.inl h)
                  have h2 : l[k].seq = (out.length : Int) := Classical.byContradiction fun h => hor (.inr h)
                  rw [if_neg h1, if_pos h2] at hkept
                  rw [hx]
                  exact hK4 _ _ ⟨by omega, out, ho4, hm4, hkept, by omega⟩
              · rw [SRecord.g_kind hv, bin_eql]
                refine Gd_i (fun hb => ?_) fun hb => ?_
                · have h1 := dec_f hb
                  rw [SRecord.g_seq hv, hx, SEntry.row_len (Sl.of_owns ho4), bin_neq]
                  refine hK6 _ _ ⟨rfl, ?_⟩
                  simp [h1]
                · have h1 := dec_t hb
                  exact hK6 _ _ ⟨rfl, by simp [h1]⟩
          · rw [SRecord.g_kind hv, bin_eql]
            refine Gd_i (fun hb => ?_) fun hb => ?_
            · have h1 := dec_t hb
              rw [SRecord.g_entry_seq hv, hx, SEntry.row_len (Sl.of_owns ho4), bin_add, i64_wrap (by omega) (by omega), bin_eql]
              exact hK5 _ _ ⟨rfl, by simp [h1]⟩
            · have h1 := dec_f hb
              exact hK5 _ _ ⟨rfl, by simp [h1]⟩
      · have hge : l.length ≤ k := by have := dec_f hb; omega
        rw [List.drop_eq_nil_of_le hge] at hkept
        have hkept : Jou.kept l = some out := hkept
        refine hR _ _ ⟨_, by rw [e0, hkept, hx], by rw [e0, hkept]; exact Sl.of_owns ho, x2⟩
end Go.Proofs.Ytahplhcijlgelaa
