/- The walk of the reference's Record. -/
import Derived.Test.YtahplhcijlgelaaJouW3
import Derived.Test.YtahplhcijlgelaaJouW6
import Derived.Test.YtahplhcijlgelaaDraw
namespace Go.Proofs.Ytahplhcijlgelaa
set_option maxRecDepth 100000
set_option maxHeartbeats 2000000
open Sh Go.RowKit
theorem refRecord_new_span (a b : Int) : Try.prog.built 24 [(0, .int .i64 a), (1, .int .i64 b)] = some (SSpan.mk a b).cells.toArray := by kernel_rfl
theorem refRecord_new_entry (s t kd se rf a n lo hi te ag si : Int) : Try.prog.built 26 [(0, .int .i64 s), (1, .int .i64 t), (2, .int .i64 kd), (3, .int .i64 se), (4, .int .i64 rf), (5, .int .i64 a), (6, .int .i64 n), (7, .agg (SSpan.mk lo hi).cells.toArray), (8, .int .i64 te), (9, .int .i64 ag), (10, .int .i64 si)] = some (SEntry.mk s t kd se rf a n ⟨lo, hi⟩ te ag si).cells.toArray := by kernel_rfl
theorem refRecord_new1 (k : Int) (e : SEntry) : Try.prog.built 29 [(0, .int .i64 k), (1, .agg e.cells.toArray)] = some (SRecord.mk k e 0 0).cells.toArray := by kernel_rfl
theorem refRecord_new2 (k s : Int) (c : BitVec 64) : Try.prog.built 29 [(0, .int .i64 k), (2, .int .i64 s), (3, u64v c)] = some (SRecord.mk k SEntry.zero s c).cells.toArray := by kernel_rfl
theorem half_chain {h l : Int} (hh : Jou.isHalf h = true) (hl : Jou.isHalf l = true) : IntKind.u64.wrap (IntKind.u64.wrap (IntKind.u64.wrap h * 4294967296) + IntKind.u64.wrap l) = ((Jou.chainOf h l).toNat : Int) := by
  simp only [Jou.isHalf, Bool.and_eq_true, decide_eq_true_eq] at hh hl
  simp only [u64w, Jou.chainOf, BitVec.toNat_ofNat]
  omega
/-- The last steps: the value is stored, and whether it is well-formed is returned. -/
theorem refRecord_fin {w w0 : World} {b bo : Nat} {r : SRecord} {l : List Int} {R : Ending → World → Prop} (hR : ∀ v w', RecordQ l w0 v w' → R (.returned v) w') (hx : Ext w0 w) (hb : At w b (.cells r.cells.toArray 29 (0, 0))) (hbo : At w bo (.cells SRecord.zero.cells.toArray 29 (0, 0)))
    (hbn : w0.heap.size ≤ bo) (hl : Jou.rec_ l = if Jou.form r = true then some r else none) :
    DrawE w (fun Rs Rb w1 =>
      DetOp Rb Rs w1 (fun w2 K => DoV Try.prog (Instr.loadAt 29 (.pointer (some ⟨b, 0, none⟩))) w2 K (Pan R)) (fun c1 ψ1 =>
      DetOp Rb Rs w1 (fun w2 K => DoV Try.prog (Instr.loadAt 29 (.pointer (some ⟨b, 0, none⟩))) w2 K (Pan R)) (fun c2 ψ2 =>
      DetOp Rs Rb w1 (fun w2 K => CallF Try.prog 20 #[c2] w2 K (Pan R)) (fun c3 ψ3 =>
      ∀ w3, Rb w1 w3 → (((True ∧ ψ1 w3) ∧ ψ2 w3) ∧ ψ3 w3) →
      DoU Try.prog (Instr.storeAt 29 (.pointer (some ⟨bo, 0, none⟩)) c1) w3 (fun _ w4 =>
      Res Try.prog [.cell (.pointer (some ⟨bo, 0, none⟩)) 29, .tmp c3] w4 R) (Pan R))))) := by
  refine draw_ext fun w1 x1 => ?_
  have hh : ∀ w2, Ext w1 w2 → Has w2 b 0 r.cells := fun w2 x2 => has_of_at (hb.ext (x1.trans x2))
  refine det_read (.agg r.cells.toArray) (fun w2 x2 K => SRecord.g_all (hh w2 x2)) ?_
  refine det_read (.agg r.cells.toArray) (fun w2 x2 K => SRecord.g_all (hh w2 x2)) ?_
  refine det_ret (.bool (Jou.form r)) (fun w2 _ => Form_ret r w2) ?_
  intro w3 x3 _
  have hbo3 := hbo.ext (x1.trans x3)
  have m3 : Mod (w0.heap.size ≤ ·) w0 w3 := (.of_ext (hx.trans (x1.trans x3)))
  refine store_all Ty.SRecord_size hbo3 rfl rfl (by intro u hu; exact SRecord.one r u hu) fun w4 m4 h4 _ => ?_
  have hv4 : (loadVar 29 ⟨bo, 0, none⟩).run Try.prog w4 = .ok (.agg r.cells.toArray) w4 := loadVar_agg Ty.SRecord_agg Ty.SRecord_size (xs := r.cells) rfl (has_of_at h4)
  refine res_i (rv_cell hv4 (rv_tmp (rv_nil w4))) ?_
  refine hR _ _ ⟨(m3.trans (m4.mono fun k _ h => by omega)).new, r, ?_, ?_⟩
  · rw [hl]
    cases Jou.form r <;> rfl
  · intro r' h
    rw [hl] at h
    split at h
    · cases h; rfl
    · cases h
theorem len13 {l : List Int} (h : l.length = 13) : ∃ k s t kd se rf a n lo hi te ag si, l = [k, s, t, kd, se, rf, a, n, lo, hi, te, ag, si] := by
  match l, h with
  | [k, s, t, kd, se, rf, a, n, lo, hi, te, ag, si], _ => exact ⟨k, s, t, kd, se, rf, a, n, lo, hi, te, ag, si, rfl⟩
theorem len4 {l : List Int} (h : l.length = 4) : ∃ k s a b, l = [k, s, a, b] := by
  match l, h with
  | [k, s, a, b], _ => exact ⟨k, s, a, b, rfl⟩
theorem rec_long {k s t kd se rf a n lo hi te ag si : Int} (hk : k = 1) : Jou.rec_ [k, s, t, kd, se, rf, a, n, lo, hi, te, ag, si] = if Jou.form ⟨k, ⟨s, t, kd, se, rf, a, n, ⟨lo, hi⟩, te, ag, si⟩, 0, 0⟩ = true then some ⟨k, ⟨s, t, kd, se, rf, a, n, ⟨lo, hi⟩, te, ag, si⟩, 0, 0⟩ else none := by
  simp only [Jou.rec_, Jou.raw, if_neg (show ¬ k = 2 by omega), Option.bind_some, Jou.entRec]
theorem rec_short {k s h c : Int} (hk : k = 2) (hh : Jou.isHalf h = true) (hc : Jou.isHalf c = true) : Jou.rec_ [k, s, h, c] = if Jou.form ⟨k, SEntry.zero, s, Jou.chainOf h c⟩ = true then some ⟨k, SEntry.zero, s, Jou.chainOf h c⟩ else none := by
  simp only [Jou.rec_, Jou.raw, if_pos (And.intro hk (And.intro hh hc)), Option.bind_some, Jou.chkRec]
theorem rec_nothing {l : List Int} (h1 : ¬ (l.length = 13 ∧ l[0]? = some 1)) (h2 : ¬ (l.length = 4 ∧ l[0]? = some 2 ∧ (∃ a, l[2]? = some a ∧ Jou.isHalf a = true) ∧ ∃ a, l[3]? = some a ∧ Jou.isHalf a = true)) : Jou.rec_ l = none := by
  cases hr : Jou.rec_ l with
  | none => rfl
  | some r =>
    exfalso
    have hf := Jou.rec_form hr
    have hk := form_kind hf
    unfold Jou.rec_ Jou.raw at hr
    split at hr
    · rename_i k s h c
      split at hr
      · rename_i hc
        exact h2 ⟨rfl, by simp [hc.1], ⟨h, rfl, hc.2.1⟩, ⟨c, rfl, hc.2.2⟩⟩
      · cases hr
    · split at hr
      · cases hr
      · rename_i hk2
        rw [Option.bind_some] at hr
        split at hr
        · cases hr
          rcases hk with hk | hk
          · exact h1 ⟨rfl, by have hk : _ = (1 : Int) := hk; simp [Jou.entRec] at hk; simp [hk]⟩
          · exact hk2 hk
        · cases hr
    · cases hr
set_option maxHeartbeats 1600000 in
theorem refRecord_ret {v : Value} {l : List Int} (w : World) (hv : Sl w 1 v l.length (iv l)) : Ret Try.prog 31 #[v] w (RecordQ l w) := by
  refine ret_of (fun _ _ => sh_landfallref40_Record_ok _) fun R hR => ?_
  unfold sh_landfallref40_Record
  refine alloc_i Ty.SRecord_zero fun bo w1 x1 hbo e1 s1 => ?_
  refine join0 (fun w' => Ext w1 w' ∧ ¬ (l.length = 13 ∧ l[0]? = some 1)) ?_ fun K2 hK2 => ?_
  · rintro _ w2 ⟨x2, hn1⟩
    refine join0 (fun w' => Ext w1 w' ∧ ¬ (l.length = 4 ∧ l[0]? = some 2 ∧ (∃ a, l[2]? = some a ∧ Jou.isHalf a = true) ∧ ∃ a, l[3]? = some a ∧ Jou.isHalf a = true)) ?_ fun K3 hK3 => ?_
    · rintro _ w3 ⟨x3, hn2⟩
      have hl := rec_nothing hn1 hn2
      rw [build_i SRecord.zero_new]
      refine store_all Ty.SRecord_size (hbo.ext x3) rfl rfl (by intro u hu; exact SRecord.one _ u hu) fun w4 m4 h4 _ => ?_
      have hv4 : (loadVar 29 ⟨bo, 0, none⟩).run Try.prog w4 = .ok (.agg SRecord.zero.cells.toArray) w4 := loadVar_agg Ty.SRecord_agg Ty.SRecord_size (xs := SRecord.zero.cells) rfl (has_of_at h4)
      refine res_i (rv_cell hv4 (rv_tmp (rv_nil w4))) ?_
      refine hR _ _ ⟨((Mod.of_ext (x1.trans x3) : Mod (w.heap.size ≤ ·) w w3).trans (m4.mono fun k _ h => by omega)).new, SRecord.zero, ?_, ?_⟩
      · rw [hl]; rfl
      · intro r' h; rw [hl] at h; cases h
    · refine join1 (fun x w' => w' = w2 ∧ ∃ q, x = .bool q ∧ (q = true ↔ (l.length = 4 ∧ l[0]? = some 2 ∧ (∃ a, l[2]? = some a ∧ Jou.isHalf a = true) ∧ ∃ a, l[3]? = some a ∧ Jou.isHalf a = true))) ?_ fun K4 hK4 => ?_
      · rintro h x w3 hx ⟨rfl, q, rfl, hq⟩
        rw [hx]
        refine Br_i (fun hb => ?_) fun hb => ?_
        · subst hb
          obtain ⟨h4, hk, ⟨a, ha, hha⟩, c, hc, hhc⟩ := hq.1 rfl
          obtain ⟨k, s, a', c', rfl⟩ := len4 h4
          simp at hk ha hc
          subst ha hc
          have hv3 := hv.ext (x1.trans x2)
          have hrec := rec_short (s := s) hk hha hhc
          have hch := half_chain hha hhc
          generalize Jou.chainOf a' c' = ch at hrec hch
          refine draw_ext fun w4 x4 => ?_
          refine det_elem hv3 x4 0 rfl rfl fun _ => ?_
          refine det_elem hv3 x4 1 rfl rfl fun _ => ?_
          refine det_elem hv3 x4 2 rfl rfl fun _ => ?_
          refine det_read _ (fun w5 _ K => conv_int Ty.int Ty.u64) ?_
          refine det_read _ (fun w5 _ K => bin_mul) ?_
          refine det_elem hv3 x4 3 rfl rfl fun _ => ?_
          refine det_read _ (fun w5 _ K => conv_int Ty.int Ty.u64) ?_
          refine det_read (u64v ch) (fun w5 _ K => by rw [bin_add, hch]; rfl) ?_
          refine det_read _ (fun w5 _ K => build_i (refRecord_new2 k s ch)) ?_
          refine nd_alloc Ty.SRecord_zero fun _ => ?_
          rintro w5 x5 ⟨_, b, rfl, hat, hbn⟩
          refine SRecord.set (r := SRecord.zero) (s := ⟨k, SEntry.zero, s, ch⟩) hat fun w6 m6 h6 _ => ?_
          have z1 := x1.size
          have z2 := x2.size
          have z4 := x4.size
          have m16 : Mod (w1.heap.size ≤ ·) w1 w6 := (Mod.of_ext (x2.trans (x4.trans x5)) : Mod (w1.heap.size ≤ ·) w1 w5).trans (m6.mono fun k _ h => by omega)
          exact refRecord_fin (r := ⟨k, SEntry.zero, s, ch⟩) hR (x1.trans m16.new) h6 (hbo.ext m16.new) (by omega) hrec
        · subst hb
          exact hK3 _ ⟨x2, fun h => by have := hq.2 h; cases this⟩
      · have hend : ∀ q : Bool, (q = true ↔ (l.length = 4 ∧ l[0]? = some 2 ∧ (∃ a, l[2]? = some a ∧ Jou.isHalf a = true) ∧ ∃ a, l[3]? = some a ∧ Jou.isHalf a = true)) → K4 [.bool q] w2 := fun q hq => hK4 _ _ ⟨rfl, q, rfl, hq⟩
        rw [(hv.ext (x1.trans x2)).len Ty.ints, bin_eql]
        refine Gd_i (fun hb => ?_) fun hb => ?_
        · have h4 := dec_t hb
          obtain ⟨k, s, a', c', rfl⟩ := len4 (show l.length = 4 by omega)
          have hx := x1.trans x2
          rw [int_elem (n := 0) hv hx 0 rfl rfl, bin_eql]
          refine Gd_i (fun hb => ?_) fun hb => ?_
          · have hk := dec_t hb
            rw [int_elem (n := 2) hv hx 2 rfl rfl]
            refine callF_same (half_ret a' w2) ?_
            refine Gd_i (fun hb => ?_) fun hb => ?_
            · rw [int_elem (n := 3) hv hx 3 rfl rfl]
              refine callF_same (half_ret c' w2) ?_
              exact hend _ (by simp [hk, hb])
            · exact hend false (by simp [hb])
          · have hk := dec_f hb
            exact hend false (by simp [hk])
        · have h4 := dec_f hb
          exact hend false (by constructor
                               · intro h; cases h
                               · intro h; exact absurd h.1 (by omega))
  · refine join1 (fun x w' => w' = w1 ∧ ∃ q, x = .bool q ∧ (q = true ↔ (l.length = 13 ∧ l[0]? = some 1))) ?_ fun K4 hK4 => ?_
    · rintro h x w3 hx ⟨rfl, q, rfl, hq⟩
      rw [hx]
      refine Br_i (fun hb => ?_) fun hb => ?_
      · subst hb
        obtain ⟨h13, hk⟩ := hq.1 rfl
        obtain ⟨k, s, t, kd, se, rf, a, n, lo, hi, te, ag, si, rfl⟩ := len13 h13
        simp at hk
        refine draw_ext fun w4 x4 => ?_
        have hx := x1.trans x4
        refine det_elem hv hx 1 rfl rfl fun _ => ?_
        refine det_elem hv hx 2 rfl rfl fun _ => ?_
        refine det_elem hv hx 3 rfl rfl fun _ => ?_
        refine det_elem hv hx 4 rfl rfl fun _ => ?_
        refine det_elem hv hx 5 rfl rfl fun _ => ?_
        refine det_elem hv hx 6 rfl rfl fun _ => ?_
        refine det_elem hv hx 7 rfl rfl fun _ => ?_
        refine det_elem hv hx 8 rfl rfl fun _ => ?_
        refine det_elem hv hx 9 rfl rfl fun _ => ?_
        refine det_read _ (fun w5 _ K => build_i (refRecord_new_span lo hi)) ?_
        refine det_elem hv hx 10 rfl rfl fun _ => ?_
        refine det_elem hv hx 11 rfl rfl fun _ => ?_
        refine det_elem hv hx 12 rfl rfl fun _ => ?_
        refine det_read _ (fun w5 _ K => build_i (refRecord_new_entry s t kd se rf a n lo hi te ag si)) ?_
        refine nd_alloc Ty.SEntry_zero fun _ => ?_
        rintro w5 x5 ⟨_, b, rfl, hat, hbn⟩
        refine SEntry.set (r := SEntry.zero) (s := ⟨s, t, kd, se, rf, a, n, ⟨lo, hi⟩, te, ag, si⟩) hat fun w6 m6 h6 _ => ?_
        have z1 := x1.size
        have z4 := x4.size
        have m16 : Mod (w3.heap.size ≤ ·) w3 w6 := (Mod.of_ext (x4.trans x5) : Mod (w3.heap.size ≤ ·) w3 w5).trans (m6.mono fun k _ h => by omega)
        refine draw_ext fun w7 x7 => ?_
        have hx7 := (x1.trans m16.new).trans x7
        have he7 := h6.ext x7
        refine det_elem hv hx7 0 rfl rfl fun _ => ?_
        refine det_read _ (fun w8 x8 K => SEntry.g_all (has_of_at (he7.ext x8))) ?_
        refine det_read _ (fun w8 _ K => build_i (refRecord_new1 k ⟨s, t, kd, se, rf, a, n, ⟨lo, hi⟩, te, ag, si⟩)) ?_
        refine nd_alloc Ty.SRecord_zero fun _ => ?_
        rintro w8 x8 ⟨_, b2, rfl, hat2, hbn2⟩
        have z7 := x7.size
        have z6 := m16.new.size
        refine SRecord.set (r := SRecord.zero) (s := ⟨k, ⟨s, t, kd, se, rf, a, n, ⟨lo, hi⟩, te, ag, si⟩, 0, 0⟩) hat2 fun w9 m9 h9 _ => ?_
        have m19 : Mod (w3.heap.size ≤ ·) w3 w9 := (m16.trans (.of_ext (x7.trans x8))).trans (m9.mono fun k _ h => by omega)
        exact refRecord_fin (r := ⟨k, ⟨s, t, kd, se, rf, a, n, ⟨lo, hi⟩, te, ag, si⟩, 0, 0⟩) hR (x1.trans m19.new) h9 (hbo.ext m19.new) (by omega) (rec_long hk)
      · subst hb
        exact hK2 _ ⟨Ext.refl _, fun h => by have := hq.2 h; cases this⟩
    · have hend : ∀ q : Bool, (q = true ↔ (l.length = 13 ∧ l[0]? = some 1)) → K4 [.bool q] w1 := fun q hq => hK4 _ _ ⟨rfl, q, rfl, hq⟩
      rw [(hv.ext x1).len Ty.ints, bin_eql]
      refine Gd_i (fun hb => ?_) fun hb => ?_
      · have h4 := dec_t hb
        obtain ⟨k, s, t, kd, se, rf, a, n, lo, hi, te, ag, si, rfl⟩ := len13 (show l.length = 13 by omega)
        rw [int_elem (n := 0) hv x1 0 rfl rfl, bin_eql]
        exact hend _ (by simp)
      · have h4 := dec_f hb
        exact hend false (by constructor
                             · intro h; cases h
                             · intro h; exact absurd h.1 (by omega))
end Go.Proofs.Ytahplhcijlgelaa
