/- The walk of the reference's Record. -/
import Derived.Test.YtoeblipchoglaaaGreatDoorZJouA
import Derived.Test.YtoeblipchoglaaaGreatDoorZStrA
import Derived.Test.YtoeblipchoglaaaGreatDoorZCodB
import Derived.Test.YtoeblipchoglaaaGreatDoorZCodA
namespace Go.Proofs.YtoeblipchoglaaaGreatDoor
set_option maxRecDepth 100000
set_option maxHeartbeats 2000000
open Sh Go.RowKit
theorem refRecord_new_span (a b : Int) : Tryz.prog.built 36 [(0, .int .i64 a), (1, .int .i64 b)] = some (SSpan.mk a b).cells.toArray := by kernel_rfl
theorem refRecord_new_entry (s t kd se rf a n lo hi te ag si : Int) : Tryz.prog.built 38 [(0, .int .i64 s), (1, .int .i64 t), (2, .int .i64 kd), (3, .int .i64 se), (4, .int .i64 rf), (5, .int .i64 a), (6, .int .i64 n), (7, .agg (SSpan.mk lo hi).cells.toArray), (8, .int .i64 te), (9, .int .i64 ag), (10, .int .i64 si)] = some (SEntry.mk s t kd se rf a n ⟨lo, hi⟩ te ag si).cells.toArray := by kernel_rfl
theorem refRecord_new1 (k : Int) (e : SEntry) : Tryz.prog.built 64 [(0, .int .i64 k), (1, .agg e.cells.toArray)] = some (SRecord.mk k e 0 0).cells.toArray := by kernel_rfl
theorem refRecord_new2 (k s : Int) (c : BitVec 64) : Tryz.prog.built 64 [(0, .int .i64 k), (2, .int .i64 s), (3, u64v c)] = some (SRecord.mk k SEntry.zero s c).cells.toArray := by kernel_rfl
theorem half_chain {h l : Int} (hh : Jou.isHalf h = true) (hl : Jou.isHalf l = true) : IntKind.u64.wrap (IntKind.u64.wrap (IntKind.u64.wrap h * 4294967296) + IntKind.u64.wrap l) = ((Jou.chainOf h l).toNat : Int) := by
  simp only [Jou.isHalf, Bool.and_eq_true, decide_eq_true_eq] at hh hl
  simp only [u64w, Jou.chainOf, BitVec.toNat_ofNat]
  omega
theorem refRecord_fin {w w0 : World} {b bo : Nat} {r : SRecord} {l : List Int} {R : Ending → World → Prop} (hR : ∀ v w', RecordQ l w0 v w' → R (.returned v) w') (hx : Ext w0 w) (hb : At w b (.cells r.cells.toArray 64 (0, 0))) (hbo : At w bo (.cells SRecord.zero.cells.toArray 64 (0, 0)))
    (hbn : w0.heap.size ≤ bo) (hl : Jou.rec_ l = if Jou.form r = true then some r else none) :
    DrawE w (fun Rs Rb w1 =>
      DetOp Rb Rs w1 (fun w2 K => DoV Tryz.prog (Instr.loadAt 64 (.pointer (some ⟨b, 0, none⟩))) w2 K (Pan R)) (fun c1 ψ1 =>
      DetOp Rb Rs w1 (fun w2 K => DoV Tryz.prog (Instr.loadAt 64 (.pointer (some ⟨b, 0, none⟩))) w2 K (Pan R)) (fun c2 ψ2 =>
      DetOp Rs Rb w1 (fun w2 K => CallF Tryz.prog 65 #[c2] w2 K (Pan R)) (fun c3 ψ3 =>
      ∀ w3, Rb w1 w3 → (((True ∧ ψ1 w3) ∧ ψ2 w3) ∧ ψ3 w3) →
      DoU Tryz.prog (Instr.storeAt 64 (.pointer (some ⟨bo, 0, none⟩)) c1) w3 (fun _ w4 =>
      Res Tryz.prog [.cell (.pointer (some ⟨bo, 0, none⟩)) 64, .tmp c3] w4 R) (Pan R))))) := by
  refine draw_ext fun w1 x1 => ?_
  have hh : ∀ w2, Ext w1 w2 → Has w2 b 0 r.cells := fun w2 x2 => has_of_at (hb.ext (x1.trans x2))
  refine det_read (.agg r.cells.toArray) (fun w2 x2 K => SRecord.g_all (hh w2 x2)) ?_
  refine det_read (.agg r.cells.toArray) (fun w2 x2 K => SRecord.g_all (hh w2 x2)) ?_
  refine det_ret (.bool (Jou.form r)) (fun w2 _ => jForm_ret r w2) ?_
  intro w3 x3 _
  have hbo3 := hbo.ext (x1.trans x3)
  have m3 : Mod (w0.heap.size ≤ ·) w0 w3 := (.of_ext (hx.trans (x1.trans x3)))
  refine store_all Ty.SRecord_size hbo3 rfl rfl (by intro u hu; exact SRecord.one r u hu) fun w4 m4 h4 _ => ?_
  have hv4 : (loadVar 64 ⟨bo, 0, none⟩).run Tryz.prog w4 = .ok (.agg r.cells.toArray) w4 := loadVar_agg Ty.SRecord_agg Ty.SRecord_size (xs := r.cells) rfl (has_of_at h4)
  refine res_i (rv_cell hv4 (rv_tmp (rv_nil w4))) ?_
  refine hR _ _ ⟨(m3.trans (m4.mono fun k _ h => by omega)).new, r, ?_, ?_⟩
  · rw [hl]
    cases Jou.form r <;> rfl
  · intro r' h
    rw [hl] at h
    split at h
    · cases h; rfl
    · cases h
theorem len13 {l : List Int} (h : l.length = 13) : ∃ k s t kd se rf a n lo hi te ag si, l = [k, s, t, kd, se, rf, a, n, lo, hi, te, ag, si] := by
  match l, h with
  | [k, s, t, kd, se, rf, a, n, lo, hi, te, ag, si], _ => exact ⟨k, s, t, kd, se, rf, a, n, lo, hi, te, ag, si, rfl⟩
theorem len4 {l : List Int} (h : l.length = 4) : ∃ k s a b, l = [k, s, a, b] := by
  match l, h with
  | [k, s, a, b], _ => exact ⟨k, s, a, b, rfl⟩
theorem rec_long {k s t kd se rf a n lo hi te ag si : Int} (hk : k = 1) : Jou.rec_ [k, s, t, kd, se, rf, a, n, lo, hi, te, ag, si] = if Jou.form ⟨k, ⟨s, t, kd, se, rf, a, n, ⟨lo, hi⟩, te, ag, si⟩, 0, 0⟩ = true then some ⟨k, ⟨s, t, kd, se, rf, a, n, ⟨lo, hi⟩, te, ag, si⟩, 0, 0⟩ else none := by
  simp only [Jou.rec_, Jou.raw, if_neg (show ¬ k = 2 by omega), Option.bind_some, Jou.entRec]
theorem rec_short {k s h c : Int} (hk : k = 2) (hh : Jou.isHalf h = true) (hc : Jou.isHalf c = true) : Jou.rec_ [k, s, h, c] = if Jou.form ⟨k, SEntry.zero, s, Jou.chainOf h c⟩ = true then some ⟨k, SEntry.zero, s, Jou.chainOf h c⟩ else none := by
  simp only [Jou.rec_, Jou.raw, if_pos (And.intro hk (And.intro hh hc)), Option.bind_some, Jou.chkRec]
theorem rec_nothing {l : List Int} (h1 : ¬ (l.length = 13 ∧ l[0]? = some 1)) (h2 : ¬ (l.length = 4 ∧ l[0]? = some 2 ∧ (∃ a, l[2]? = some a ∧ Jou.isHalf a = true) ∧ ∃ a, l[3]? = some a ∧ Jou.isHalf a = true)) : Jou.rec_ l = none := by
  cases hr : Jou.rec_ l with
  | none => rfl
  | some r =>
    exfalso
    have hf := Jou.rec_form hr
    have hk := form_kind hf
    unfold Jou.rec_ Jou.raw at hr
    split at hr
    · rename_i k s h c
      split at hr
      · rename_i hc
        exact h2 ⟨rfl, by simp [hc.1], ⟨h, rfl, hc.2.1⟩, ⟨c, rfl, hc.2.2⟩⟩
      · cases hr
    · split at hr
      · cases hr
      · rename_i hk2
        rw [Option.bind_some] at hr
        split at hr
        · cases hr
          rcases hk with hk | hk
          · exact h1 ⟨rfl, by have hk : _ = (1 : Int) := hk; simp [Jou.entRec] at hk; simp [hk]⟩
          · exact hk2 hk
        · cases hr
    · cases hr
set_option maxHeartbeats 1600000 in
theorem refRecord_ret {v : Value} {l : List Int} (w : World) (hv : Sl w 1 v l.length (iv l)) : Ret Tryz.prog 56 #[v] w (RecordQ l w) := by
  refine ret_of (fun _ _ => sh_landfallref40_Record_ok _) fun R hR => ?_
  unfold sh_landfallref40_Record
  refine alloc_i Ty.SRecord_zero fun bo w1 x1 hbo e1 s1 => ?_
  refine join0 (fun w' => Ext w1 w' ∧ ¬ (l.length = 13 ∧ l[0]? = some 1)) ?_ fun K2 hK2 => ?_
  · rintro _ w2 ⟨x2, hn1⟩
    refine join0 (fun w' => Ext w1 w' ∧ ¬ (l.length = 4 ∧ l[0]? = some 2 ∧ (∃ a, l[2]? = some a ∧ Jou.isHalf a = true) ∧ ∃ a, l[3]? = some a ∧ Jou.isHalf a = true)) ?_ fun K3 hK3 => ?_
    · rintro _ w3 ⟨x3, hn2⟩
      have hl := rec_nothing hn1 hn2
      rw [build_i SRecord.zero_new]
      refine store_all Ty.SRecord_size (hbo.ext x3) rfl rfl (by intro u hu; exact SRecord.one _ u hu) fun w4 m4 h4 _ => ?_
      have hv4 : (loadVar 64 ⟨bo, 0, none⟩).run Tryz.prog w4 = .ok (.agg SRecord.zero.cells.toArray) w4 := loadVar_agg Ty.SRecord_agg Ty.SRecord_size (xs := SRecord.zero.cells) rfl (has_of_at h4)
      refine res_i (rv_cell hv4 (rv_tmp (rv_nil w4))) ?_
      refine hR _ _ ⟨((Mod.of_ext (x1.trans x3) : Mod (w.heap.size ≤ ·) w w3).trans (m4.mono fun k _ h => by omega)).new, SRecord.zero, ?_, ?_⟩
      · rw [hl]; rfl
      · intro r' h; rw [hl] at h; cases h
    · refine join1 (fun x w' => w' = w2 ∧ ∃ q, x = .bool q ∧ (q = true ↔ (l.length = 4 ∧ l[0]? = some 2 ∧ (∃ a, l[2]? = some a ∧ Jou.isHalf a = true) ∧ ∃ a, l[3]? = some a ∧ Jou.isHalf a = true))) ?_ fun K4 hK4 => ?_
      · rintro h x w3 hx ⟨rfl, q, rfl, hq⟩
        rw [hx]
        refine Br_i (fun hb => ?_) fun hb => ?_
        · subst hb
          obtain ⟨h4, hk, ⟨a, ha, hha⟩, c, hc, hhc⟩ := hq.1 rfl
          obtain ⟨k, s, a', c', rfl⟩ := len4 h4
          simp at hk ha hc
          subst ha hc
          have hv3 := hv.ext (x1.trans x2)
          have hrec := rec_short (s := s) hk hha hhc
          have hch := half_chain hha hhc
          generalize Jou.chainOf a' c' = ch at hrec hch
          refine draw_ext fun w4 x4 => ?_
          refine det_elem hv3 x4 0 rfl rfl fun _ => ?_
          refine det_elem hv3 x4 1 rfl rfl fun _ => ?_
          refine det_elem hv3 x4 2 rfl rfl fun _ => ?_
          refine det_read _ (fun w5 _ K => conv_int Ty.int Ty.u64) ?_
          refine det_read _ (fun w5 _ K => bin_mul) ?_
          refine det_elem hv3 x4 3 rfl rfl fun _ => ?_
          refine det_read _ (fun w5 _ K => conv_int Ty.int Ty.u64) ?_
          refine det_read (u64v ch) (fun w5 _ K => by rw [bin_add, hch]; rfl) ?_
          refine det_read _ (fun w5 _ K => build_i (refRecord_new2 k s ch)) ?_
          refine nd_alloc Ty.SRecord_zero fun _ => ?_
          rintro w5 x5 ⟨_, b, rfl, hat, hbn⟩
          refine SRecord.set (r := SRecord.zero) (s := ⟨k, SEntry.zero, s, ch⟩) hat fun w6 m6 h6 _ => ?_
          have z1 := x1.size
          have z2 := x2.size
          have z4 := x4.size
          have m16 : Mod (w1.heap.size ≤ ·) w1 w6 := (Mod.of_ext (x2.trans (x4.trans x5)) : Mod (w1.heap.size ≤ ·) w1 w5).trans (m6.mono fun k _ h => by omega)
          exact refRecord_fin (r := ⟨k, SEntry.zero, s, ch⟩) hR (x1.trans m16.new) h6 (hbo.ext m16.new) (by omega) hrec
        · subst hb
          exact hK3 _ ⟨x2, fun h => by have := hq.2 h; cases this⟩
      · have hend : ∀ q : Bool, (q = true ↔ (l.length = 4 ∧ l[0]? = some 2 ∧ (∃ a, l[2]? = some a ∧ Jou.isHalf a = true) ∧ ∃ a, l[3]? = some a ∧ Jou.isHalf a = true)) → K4 [.bool q] w2 := fun q hq => hK4 _ _ ⟨rfl, q, rfl, hq⟩
        rw [(hv.ext (x1.trans x2)).len Ty.ints, bin_eql]
        refine Gd_i (fun hb => ?_) fun hb => ?_
        · have h4 := dec_t hb
          obtain ⟨k, s, a', c', rfl⟩ := len4 (show l.length = 4 by omega)
          have hx := x1.trans x2
          rw [int_elem (n := 0) hv hx 0 rfl rfl, bin_eql]
          refine Gd_i (fun hb => ?_) fun hb => ?_
          · have hk := dec_t hb
            rw [int_elem (n := 2) hv hx 2 rfl rfl]
            refine callF_same (half_ret a' w2) ?_
            refine Gd_i (fun hb => ?_) fun hb => ?_
            · rw [int_elem (n := 3) hv hx 3 rfl rfl]
              refine callF_same (half_ret c' w2) ?_
              exact hend _ (by simp [hk, hb])
            · exact hend false (by simp [hb])
          · have hk := dec_f hb
            exact hend false (by simp [hk])
        · have h4 := dec_f hb
          exact hend false (by constructor
                               · intro h; cases h
                               · intro h; exact absurd h.1 (by omega))
  · refine join1 (fun x w' => w' = w1 ∧ ∃ q, x = .bool q ∧ (q = true ↔ (l.length = 13 ∧ l[0]? = some 1))) ?_ fun K4 hK4 => ?_
    · rintro h x w3 hx ⟨rfl, q, rfl, hq⟩
      rw [hx]
      refine Br_i (fun hb => ?_) fun hb => ?_
      · subst hb
        obtain ⟨h13, hk⟩ := hq.1 rfl
        obtain ⟨k, s, t, kd, se, rf, a, n, lo, hi, te, ag, si, rfl⟩ := len13 h13
        simp at hk
        refine draw_ext fun w4 x4 => ?_
        have hx := x1.trans x4
        refine det_elem hv hx 1 rfl rfl fun _ => ?_
        refine det_elem hv hx 2 rfl rfl fun _ => ?_
        refine det_elem hv hx 3 rfl rfl fun _ => ?_
        refine det_elem hv hx 4 rfl rfl fun _ => ?_
        refine det_elem hv hx 5 rfl rfl fun _ => ?_
        refine det_elem hv hx 6 rfl rfl fun _ => ?_
        refine det_elem hv hx 7 rfl rfl fun _ => ?_
        refine det_elem hv hx 8 rfl rfl fun _ => ?_
        refine det_elem hv hx 9 rfl rfl fun _ => ?_
        refine det_read _ (fun w5 _ K => build_i (refRecord_new_span lo hi)) ?_
        refine det_elem hv hx 10 rfl rfl fun _ => ?_
        refine det_elem hv hx 11 rfl rfl fun _ => ?_
        refine det_elem hv hx 12 rfl rfl fun _ => ?_
        refine det_read _ (fun w5 _ K => build_i (refRecord_new_entry s t kd se rf a n lo hi te ag si)) ?_
        refine nd_alloc Ty.SEntry_zero fun _ => ?_
        rintro w5 x5 ⟨_, b, rfl, hat, hbn⟩
        refine SEntry.set (r := SEntry.zero) (s := ⟨s, t, kd, se, rf, a, n, ⟨lo, hi⟩, te, ag, si⟩) hat fun w6 m6 h6 _ => ?_
        have z1 := x1.size
        have z4 := x4.size
        have m16 : Mod (w3.heap.size ≤ ·) w3 w6 := (Mod.of_ext (x4.trans x5) : Mod (w3.heap.size ≤ ·) w3 w5).trans (m6.mono fun k _ h => by omega)
        refine draw_ext fun w7 x7 => ?_
        have hx7 := (x1.trans m16.new).trans x7
        have he7 := h6.ext x7
        refine det_elem hv hx7 0 rfl rfl fun _ => ?_
        refine det_read _ (fun w8 x8 K => SEntry.g_all (has_of_at (he7.ext x8))) ?_
        refine det_read _ (fun w8 _ K => build_i (refRecord_new1 k ⟨s, t, kd, se, rf, a, n, ⟨lo, hi⟩, te, ag, si⟩)) ?_
        refine nd_alloc Ty.SRecord_zero fun _ => ?_
        rintro w8 x8 ⟨_, b2, rfl, hat2, hbn2⟩
        have z7 := x7.size
        have z6 := m16.new.size
        refine SRecord.set (r := SRecord.zero) (s := ⟨k, ⟨s, t, kd, se, rf, a, n, ⟨lo, hi⟩, te, ag, si⟩, 0, 0⟩) hat2 fun w9 m9 h9 _ => ?_
        have m19 : Mod (w3.heap.size ≤ ·) w3 w9 := (m16.trans (.of_ext (x7.trans x8))).trans (m9.mono fun k _ h => by omega)
        exact refRecord_fin (r := ⟨k, ⟨s, t, kd, se, rf, a, n, ⟨lo, hi⟩, te, ag, si⟩, 0, 0⟩) hR (x1.trans m19.new) h9 (hbo.ext m19.new) (by omega) (rec_long hk)
      · subst hb
        exact hK2 _ ⟨Ext.refl _, fun h => by have := hq.2 h; cases this⟩
    · have hend : ∀ q : Bool, (q = true ↔ (l.length = 13 ∧ l[0]? = some 1)) → K4 [.bool q] w1 := fun q hq => hK4 _ _ ⟨rfl, q, rfl, hq⟩
      rw [(hv.ext x1).len Ty.ints, bin_eql]
      refine Gd_i (fun hb => ?_) fun hb => ?_
      · have h4 := dec_t hb
        obtain ⟨k, s, t, kd, se, rf, a, n, lo, hi, te, ag, si, rfl⟩ := len13 (show l.length = 13 by omega)
        rw [int_elem (n := 0) hv x1 0 rfl rfl, bin_eql]
        exact hend _ (by simp)
      · have h4 := dec_f hb
        exact hend false (by constructor
                             · intro h; cases h
                             · intro h; exact absurd h.1 (by omega))
end Go.Proofs.YtoeblipchoglaaaGreatDoor
namespace Go.Proofs.YtoeblipchoglaaaGreatDoor
set_option maxRecDepth 100000
set_option maxHeartbeats 2000000
open Sh Go.RowKit
def jputV (b : List UInt8) (r : SRecord) : List UInt8 × Int := if Jou.form r = false then ([], 1) else if 200000 < b.length + (Jou.frameOf r).length then ([], 2) else (b ++ Jou.frameOf r, 0)
def JPutQ (b : List UInt8) (r : SRecord) (w : World) (v : Value) (w' : World) : Prop :=
  ∃ x, v = .tuple #[x, .int .i64 (jputV b r).2] ∧ w'.ownsRow w.heap.size 5 1 x (jputV b r).1.length (bv (jputV b r).1) ∧ Ext w w'
theorem jframe_few {r : SRecord} (h : r.Ok) : 12 ≤ (Jou.frameOf r).length ∧ (Jou.frameOf r).length ≤ 400 := by
  have hl := (Jou.ints_len r).2
  unfold Jou.frameOf
  rw [Cod.frame_length]
  have h1 := Cod.put_length (Jou.ints_ok h) (by omega)
  have h2 := Cod.put_pos (Jou.ints r)
  omega
theorem jput_end {b : List UInt8} {r : SRecord} {w w4 : World} {v0 vf : Value} {R : Ending → World → Prop} (hR : ∀ v w', JPutQ b r w v w' → R (.returned v) w') (hx : Ext w w4) (h0 : Sl w4 1 v0 b.length (bv b)) (hfr : Sl w4 1 vf (Jou.frameOf r).length (bv (Jou.frameOf r)))
    (hf : ¬ Jou.form r = false) (hlt : ¬ 200000 < b.length + (Jou.frameOf r).length) :
    DoV Tryz.prog (Instr.buildSlice 26 0 #[]) w4 (fun x w5 => CallB Tryz.prog .append #[26, 26] 26 #[false, false] #[x, v0] w5 (fun y w6 => CallB Tryz.prog .append #[26, 26] 26 #[false, false] #[y, vf] w6 (fun z w7 => R (.returned (.tuple #[z, .int .i64 0])) w7) (Pan R)) (Pan R)) (Pan R) := by
  have z4 := hx.size
  refine lit_nobytes fun v5 w5 x5 hv5 hs5 => ?_
  have z5 := x5.size
  refine app_bytes hv5 (h0.ext x5) (by simp; omega) (by omega) fun v6 w6 hv6 m6 => ?_
  have hoff : ∀ k, v5.ownBlock = some k → w4.heap.size ≤ k := fun k hk => (Own.block hv5 hk).1
  have m46 : Mod (w4.heap.size ≤ ·) w4 w6 := (Mod.of_ext x5 : Mod (w4.heap.size ≤ ·) w4 w5).trans (m6.mono fun k _ hk => hoff k hk)
  have x6 : Ext w4 w6 := m46.new
  have z6 := x6.size
  rw [List.nil_append] at hv6
  refine app_bytes hv6 (hfr.ext x6) (by omega) (by omega) fun v7 w7 hv7 m7 => ?_
  have m47 : Mod (w4.heap.size ≤ ·) w4 w7 := m46.trans (m7.mono fun k _ hk => (Own.block hv6 hk).1)
  have e : jputV b r = (b ++ Jou.frameOf r, 0) := by unfold jputV; rw [if_neg hf, if_neg hlt]
  exact hR _ _ ⟨_, by rw [e], by rw [e]; exact Own.mono hv7 z4, hx.trans m47.new⟩
theorem jPut_ret {v0 : Value} {b : List UInt8} {r : SRecord} (hr : r.Ok) (hbl : b.length ≤ 1000000000000000) (w : World) (h0 : Sl w 1 v0 b.length (bv b)) : Ret Tryz.prog 49 #[v0, .agg r.cells.toArray] w (JPutQ b r w) := by
  refine ret_of (fun _ _ => sh_journal_Put_ok _ _) fun R hR => ?_
  unfold sh_journal_Put
  refine box_rec fun g w1 x1 hat hbs => ?_
  have h := has_of_at hat
  rw [SRecord.g_all h]
  refine callF_ret (isRecord_ret r w1) ?_
  rintro _ w2 ⟨rfl, x2⟩
  rw [un_not]
  refine Br_i (fun hb => ?_) fun hb => ?_
  · have hf : Jou.form r = false := by simpa using hb
    have e : jputV b r = ([], 1) := by unfold jputV; rw [if_pos hf]
    exact hR _ _ ⟨_, by rw [e], by rw [e]; exact Own.nil _ _ _ _, x1.trans x2⟩
  · have hf : ¬ Jou.form r = false := by simpa using hb
    rw [SRecord.g_all (has_of_at (hat.ext x2))]
    refine callF_ret (jints_ret r w2) ?_
    rintro vi w3 ⟨x3, hvi⟩
    refine callF_ret (Frame_ret (Jou.ints_ok hr) w3 (Sl.of_owns hvi)) ?_
    intro vf w4 hq
    obtain ⟨x4, hq⟩ := hq
    have hil := (Jou.ints_len r).2
    rw [if_neg (by omega)] at hq
    obtain ⟨vf', rfl, hown⟩ := hq
    have hfr : Sl w4 1 vf' (Jou.frameOf r).length (bv (Jou.frameOf r)) := Sl.of_owns hown
    rw [ext2_0, ext2_1]
    have hx4 := ((x1.trans x2).trans x3).trans x4
    have h04 := h0.ext hx4
    refine join0 (fun w' => w' = w4 ∧ ¬ 200000 < b.length + (Jou.frameOf r).length) ?_ fun K hK => ?_
    · rintro _ w5 ⟨hw, hlt⟩
      subst hw
      exact jput_end hR hx4 h04 hfr hf hlt
    · refine join1 (fun x w' => w' = w4 ∧ x = .bool (decide (200000 < b.length + (Jou.frameOf r).length))) ?_ fun K2 hK2 => ?_
      · rintro hh x w5 hx ⟨hw, hlt⟩
        subst hw hlt
        rw [hx]
        refine Br_i (fun hb => ?_) fun hb => ?_
        · have hlt := dec_t hb
          have e : jputV b r = ([], 2) := by unfold jputV; rw [if_neg hf, if_pos hlt]
          exact hR _ _ ⟨_, by rw [e], by rw [e]; exact Own.nil _ _ _ _, hx4⟩
        · exact hK _ ⟨rfl, dec_f hb⟩
      · have hb1 := h04.le
        have hb2 := hfr.le
        rw [show okE = Value.int .i64 0 from rfl, bin_neq]
        refine gd_f ?_
        rw [h04.len Ty.bytes, hfr.len Ty.bytes, bin_add, bin_gtr]
        have hb2 := (jframe_few hr).2
        have e1 : IntKind.i64.wrap ((b.length : Int) + (Jou.frameOf r).length) = ((b.length + (Jou.frameOf r).length : Nat) : Int) := by
          rw [i64_wrap (by omega) (by omega)]; omega
        rw [e1]
        refine hK2 _ _ ⟨rfl, ?_⟩
        congr 1
        rw [decide_eq_decide]
        omega
theorem jrefPut_ret {v0 : Value} {b : List UInt8} {r : SRecord} (hr : r.Ok) (hbl : b.length ≤ 1000000000000000) (w : World) (h0 : Sl w 1 v0 b.length (bv b)) : Ret Tryz.prog 43 #[v0, .agg r.cells.toArray] w (JPutQ b r w) := by
  refine ret_of (fun _ _ => sh_landfallref40_Put_ok _ _) fun R hR => ?_
  unfold sh_landfallref40_Put
  refine box_rec fun g w1 x1 hat hbs => ?_
  have h := has_of_at hat
  rw [SRecord.g_all h]
  refine callF_ret (jForm_ret r w1) ?_
  rintro _ w2 ⟨rfl, x2⟩
  rw [un_not]
  refine Br_i (fun hb => ?_) fun hb => ?_
  · have hf : Jou.form r = false := by simpa using hb
    have e : jputV b r = ([], 1) := by unfold jputV; rw [if_pos hf]
    exact hR _ _ ⟨_, by rw [e], by rw [e]; exact Own.nil _ _ _ _, x1.trans x2⟩
  · have hf : ¬ Jou.form r = false := by simpa using hb
    rw [SRecord.g_all (has_of_at (hat.ext x2))]
    refine callF_ret (refInts_ret r w2) ?_
    rintro vi w3 ⟨x3, hvi⟩
    refine callF_ret (refFrame_ret (Jou.ints_ok hr) w3 (Sl.of_owns hvi)) ?_
    intro vf w4 hq
    obtain ⟨x4, hq⟩ := hq
    have hil := (Jou.ints_len r).2
    rw [if_neg (by omega)] at hq
    obtain ⟨vf', rfl, hown⟩ := hq
    have hfr : Sl w4 1 vf' (Jou.frameOf r).length (bv (Jou.frameOf r)) := Sl.of_owns hown
    rw [ext2_0, ext2_1]
    have hx4 := ((x1.trans x2).trans x3).trans x4
    have h04 := h0.ext hx4
    have hb2 := (jframe_few hr).2
    have e1 : IntKind.i64.wrap ((b.length : Int) + (Jou.frameOf r).length) = ((b.length + (Jou.frameOf r).length : Nat) : Int) := by
      rw [i64_wrap (by omega) (by omega)]; omega
    rw [h04.len Ty.bytes, hfr.len Ty.bytes, bin_add, e1, bin_gtr]
    refine Br_i (fun hb => ?_) fun hb => ?_
    · have hlt : 200000 < b.length + (Jou.frameOf r).length := by have := dec_t hb; omega
      have e : jputV b r = ([], 2) := by unfold jputV; rw [if_neg hf, if_pos hlt]
      exact hR _ _ ⟨_, by rw [e], by rw [e]; exact Own.nil _ _ _ _, hx4⟩
    · exact jput_end hR hx4 h04 hfr hf (by have := dec_f hb; omega)
end Go.Proofs.YtoeblipchoglaaaGreatDoor
namespace Go.Proofs.YtoeblipchoglaaaGreatDoor
set_option maxRecDepth 100000
set_option maxHeartbeats 2000000
open Sh Go.RowKit
theorem Jou.loadL_drop {ll : List (List Int)} {k : Nat} (h : k < ll.length) : Jou.loadL (ll.drop k) = match Jou.rec_ ll[k] with | none => ([], 0) | some r => (r :: (Jou.loadL (ll.drop (k + 1))).1, (Cod.frame ll[k]).length + (Jou.loadL (ll.drop (k + 1))).2) := by
  rw [List.drop_eq_getElem_cons h]; rfl
theorem Cod.all_drop {ll : List (List Int)} {k : Nat} (h : k < ll.length) : (Cod.all (ll.drop k)).length = (Cod.frame ll[k]).length + (Cod.all (ll.drop (k + 1))).length := by
  rw [List.drop_eq_getElem_cons h, Cod.all_cons, List.length_append]
def LoadAt (wF : World) (ll : List (List Int)) (k n : Nat) (x : Value) (w : World) : Prop :=
  k ≤ ll.length ∧ ∃ out, SRecord.Owns wF.heap.size w x out ∧ Mod (wF.heap.size ≤ ·) wF w ∧ Jou.loadL ll = (out ++ (Jou.loadL (ll.drop k)).1, n + (Jou.loadL (ll.drop k)).2) ∧ out.length ≤ k ∧ n + (Cod.all (ll.drop k)).length ≤ 200000
def loadV (b : List UInt8) : List SRecord × Nat × Int := if 200000 < b.length then ([], 0, 2) else ((Jou.load b).1, (Jou.load b).2, 0)
def LoadQ (b : List UInt8) (w : World) (r : Value) (w' : World) : Prop :=
  ∃ x, r = .tuple #[x, .int .i64 (loadV b).2.1, .int .i64 (loadV b).2.2] ∧ SRecord.Row w' x (loadV b).1 ∧ Ext w w'
theorem Sl.header {w w' : World} {sz n : Nat} {v : Value} {xs : List Value} (h : Sl w sz v n xs) : Sl w' 0 v n [] := by
  obtain ⟨a, cap, rfl, h1, h2, _⟩ := h
  exact ⟨a, cap, rfl, h1, h2, by simp, .inl rfl⟩
theorem load_last {ll : List (List Int)} {n : Nat} {out : List SRecord} {k : Nat} (h : ll.length ≤ k ∨ ∃ hk : k < ll.length, Jou.rec_ ll[k] = none) (hl : Jou.loadL ll = (out ++ (Jou.loadL (ll.drop k)).1, n + (Jou.loadL (ll.drop k)).2)) : Jou.loadL ll = (out, n) := by
  have e : Jou.loadL (ll.drop k) = ([], 0) := by
    rcases h with h | ⟨hk, h⟩
    · rw [List.drop_eq_nil_of_le h]; rfl
    · rw [Jou.loadL_drop hk, h]
  rw [hl, e, List.append_nil]; rfl
def LoadQO (b : List UInt8) (w : World) (r : Value) (w' : World) : Prop :=
  ∃ x, r = .tuple #[x, .int .i64 (loadV b).2.1, .int .i64 (loadV b).2.2] ∧ SRecord.Owns w.heap.size w' x (loadV b).1 ∧ Ext w w'
theorem jLoad_own {v : Value} {b : List UInt8} (w : World) (h : Sl w 1 v b.length (bv b)) : Ret Tryz.prog 71 #[v] w (LoadQO b w) := by
  refine ret_of (fun _ _ => sh_journal_Load_ok _) fun R hR => ?_
  unfold sh_journal_Load
  refine callF_ret (Frames_ret w h) ?_
  intro r wF hq
  obtain ⟨vl, rfl, hll, xF⟩ := hq.use
  rw [ext3_0, ext3_1, ext3_2, bin_neq]
  refine Br_i (fun hb => ?_) fun hb => ?_
  · have hlt : 200000 < b.length := by
      refine Classical.byContradiction fun hn => ?_
      have : framesV b = ((Cod.frames b).1, (Cod.frames b).2, 0) := by unfold framesV; rw [if_neg hn]
      rw [this] at hb; simp at hb
    have e : loadV b = ([], 0, 2) := by unfold loadV; rw [if_pos hlt]
    have e2 : framesV b = ([], 0, 2) := by unfold framesV; rw [if_pos hlt]
    exact hR _ _ ⟨_, by rw [e, e2]; rfl, by rw [e]; exact SRecord.owns_nil _ _, xF⟩
  · have hle : ¬ 200000 < b.length := fun hn => by
      have : framesV b = ([], 0, 2) := by unfold framesV; rw [if_pos hn]
      rw [this] at hb; simp at hb
    have e2 : framesV b = ((Cod.frames b).1, (Cod.frames b).2, 0) := by unfold framesV; rw [if_neg hle]
    have hfit := (Cod.frames_inv b).2
    obtain ⟨hc1, hc2⟩ := Cod.frames_count b
    have hc3 := Cod.frames_len b
    have e : loadV b = ((Jou.load b).1, (Jou.load b).2, 0) := by unfold loadV; rw [if_neg hle]
    have hjl : Jou.load b = Jou.loadL (Cod.frames b).1 := rfl
    rw [e2] at hll
    have hll : LL wF vl (Cod.frames b).1 := hll
    generalize (Cod.frames b).1 = ll at hll hfit hc1 hc2 hjl
    refine join3 (fun x y z w' => ∃ out n : _, x = x ∧ SRecord.Owns wF.heap.size w' x out ∧ y = .int .i64 ((n : Nat) : Int) ∧ Jou.loadL ll = (out, n) ∧ Ext wF w') ?_ fun K6 hK6 => ?_
    · rintro hh x y z w' hx hy hz ⟨out, n, _, ho, rfl, hl, x'⟩
      rw [hx, hy]
      rw [← hjl] at hl
      exact hR _ _ ⟨_, by rw [e, hl], by rw [e, hl]; exact Own.mono ho xF.size, xF.trans x'⟩
    · rw [hll.len]
      refine loop3 (fun x y z w1 => ∃ k n : Nat, z = .int .i64 k ∧ y = .int .i64 n ∧ LoadAt wF ll k n x w1) (fun _ _ z _ => ll.length - (intOf z).toNat) ⟨0, 0, rfl, rfl, by omega, [], SRecord.owns_nil _ _, Mod.refl _ _, by simp, by simp, by simp; omega⟩ ?_
      rintro hh x _ _ w1 hx hy hz ⟨k, n, rfl, rfl, hk, out, ho, hm, hload, hlen, hsum⟩ K hK
      have x1 := hm.new
      rw [hx, hy, hz, bin_lss]
      refine Br_i (fun hb => ?_) fun hb => ?_
      · have hlt : k < ll.length := by have := dec_t hb; omega
        obtain ⟨hfi, hfl⟩ := hfit ll[k] (List.getElem_mem hlt)
        obtain ⟨u, g, o, hu, hg, hcell, hix⟩ := hll.at_ hlt
        rw [hix, load_cell Ty.ints_agg (cell_ext hcell hg x1)]
        refine callF_ret (record_ret w1 (hu.ext x1)) ?_
        rintro _ w2 ⟨x2, r, rfl, hr⟩
        rw [ext2_0, ext2_1]
        refine alloc_i Ty.SRecord_zero fun b3 w3 x3 hat hb3 _ => ?_
        refine SRecord.set (r := SRecord.zero) hat fun w4 m4 h4 _ => ?_
        have z1 := x1.size
        have z2 := x2.size
        have z3 := x3.size
        have m24 : Mod (w1.heap.size ≤ ·) w1 w4 := (Mod.of_ext (x2.trans x3) : Mod (w1.heap.size ≤ ·) w1 w3).trans (m4.mono fun k _ h => by omega)
        have hm4 : Mod (wF.heap.size ≤ ·) wF w4 := hm.trans (m24.mono fun k _ h => by omega)
        have ho4 := Own.ext ho m24.new
        rw [un_not]
        refine Br_i (fun hb => ?_) fun hb => ?_
        · have hn : Jou.rec_ ll[k] = none := by simpa using hb
          exact hK6 _ _ _ _ ⟨out, n, rfl, ho4, rfl, load_last (.inr ⟨hlt, hn⟩) hload, hm4.new⟩
        · have hs : (Jou.rec_ ll[k]).isSome = true := by simpa using hb
          obtain ⟨r', hr'⟩ := Option.isSome_iff_exists.1 hs
          obtain rfl := hr r' hr'
          rw [Jou.loadL_drop hlt, hr'] at hload
          rw [Cod.all_drop hlt] at hsum
          refine callF_ret (Frame_ret hfi w4 (hu.ext hm4.new)) ?_
          intro vf w5 hq
          obtain ⟨x5, hq⟩ := hq
          rw [if_neg (by omega)] at hq
          obtain ⟨vf', rfl, hown⟩ := hq
          rw [ext2_0, ext2_1, SRecord.g_all (has_of_at (h4.ext x5))]
          have z4 := hm4.new.size
          have z5 := x5.size
          refine SRecord.row_app (Own.ext ho4 x5) (by omega) (by omega) fun v' w6 ho6 m6 => ?_
          have hm6 : Mod (wF.heap.size ≤ ·) wF w6 := (hm4.trans (.of_ext x5)).trans m6
          have hf6 : Sl w6 0 vf' (Cod.frame ll[k]).length [] := Sl.header (Sl.of_owns hown)
          rw [hf6.len Ty.bytes, bin_add, i64_wrap (by omega) (by omega), bin_add, i64_wrap (by omega) (by omega)]
          refine hK _ _ _ _ ⟨k + 1, n + (Cod.frame ll[k]).length, by simp, by simp, by omega, _, ho6, hm6, ?_, by simp; omega, by omega⟩ (by simp [intOf]; omega)
          rw [hload]
          simp [Nat.add_assoc]
      · have hge : ll.length ≤ k := by have := dec_f hb; omega
        exact hK6 _ _ _ _ ⟨out, n, rfl, ho, rfl, load_last (.inl hge) hload, x1⟩
theorem jrefLoad_ret {v : Value} {b : List UInt8} (w : World) (h : Sl w 1 v b.length (bv b)) : Ret Tryz.prog 32 #[v] w (LoadQ b w) := by
  refine ret_of (fun _ _ => sh_landfallref40_Load_ok _) fun R hR => ?_
  unfold sh_landfallref40_Load
  refine callF_ret (refFrames_ret w h) ?_
  intro r wF hq
  obtain ⟨vl, rfl, hll, xF⟩ := hq.use
  rw [ext3_0, ext3_1, ext3_2, bin_neq]
  refine Br_i (fun hb => ?_) fun hb => ?_
  · have hlt : 200000 < b.length := by
      refine Classical.byContradiction fun hn => ?_
      have : framesV b = ((Cod.frames b).1, (Cod.frames b).2, 0) := by unfold framesV; rw [if_neg hn]
      rw [this] at hb; simp at hb
    have e : loadV b = ([], 0, 2) := by unfold loadV; rw [if_pos hlt]
    have e2 : framesV b = ([], 0, 2) := by unfold framesV; rw [if_pos hlt]
    exact hR _ _ ⟨_, by rw [e, e2]; rfl, by rw [e]; exact SRecord.row_nil _, xF⟩
  · have hle : ¬ 200000 < b.length := fun hn => by
      have : framesV b = ([], 0, 2) := by unfold framesV; rw [if_pos hn]
      rw [this] at hb; simp at hb
    have e2 : framesV b = ((Cod.frames b).1, (Cod.frames b).2, 0) := by unfold framesV; rw [if_neg hle]
    have hfit := (Cod.frames_inv b).2
    obtain ⟨hc1, hc2⟩ := Cod.frames_count b
    have hc3 := Cod.frames_len b
    have e : loadV b = ((Jou.load b).1, (Jou.load b).2, 0) := by unfold loadV; rw [if_neg hle]
    have hjl : Jou.load b = Jou.loadL (Cod.frames b).1 := rfl
    rw [e2] at hll
    have hll : LL wF vl (Cod.frames b).1 := hll
    generalize (Cod.frames b).1 = ll at hll hfit hc1 hc2 hjl
    have hend : ∀ (x : Value) (w' : World) (out : List SRecord) (n : Nat), SRecord.Owns wF.heap.size w' x out → Jou.loadL ll = (out, n) → Ext wF w' → R (.returned (.tuple #[x, .int .i64 (n : Int), .int .i64 0])) w' := fun x w' out n ho hl x' => by
      rw [← hjl] at hl
      exact hR _ _ ⟨_, by rw [e, hl], by rw [e, hl]; exact Sl.of_owns ho, xF.trans x'⟩
    refine loop3 (fun x y z w1 => ∃ k n : Nat, z = .int .i64 k ∧ y = .int .i64 n ∧ LoadAt wF ll k n x w1) (fun _ _ z _ => ll.length - (intOf z).toNat) ⟨0, 0, rfl, rfl, by omega, [], SRecord.owns_nil _ _, Mod.refl _ _, by simp, by simp, by simp; omega⟩ ?_
    rintro hh x _ _ w1 hx hy hz ⟨k, n, rfl, rfl, hk, out, ho, hm, hload, hlen, hsum⟩ K hK
    have x1 := hm.new
    rw [hx, hy, hz, (hll.ext x1).len, bin_lss]
    refine Br_i (fun hb => ?_) fun hb => ?_
    · have hlt : k < ll.length := by have := dec_t hb; omega
      obtain ⟨hfi, hfl⟩ := hfit ll[k] (List.getElem_mem hlt)
      obtain ⟨u, g, o, hu, hg, hcell, hix⟩ := hll.at_ hlt
      rw [hix, load_cell Ty.ints_agg (cell_ext hcell hg x1)]
      refine callF_ret (refRecord_ret w1 (hu.ext x1)) ?_
      rintro _ w2 ⟨x2, r, rfl, hr⟩
      rw [ext2_0, ext2_1]
      refine alloc_i Ty.SRecord_zero fun b3 w3 x3 hat hb3 _ => ?_
      refine SRecord.set (r := SRecord.zero) hat fun w4 m4 h4 _ => ?_
      have z1 := x1.size
      have z2 := x2.size
      have z3 := x3.size
      have m24 : Mod (w1.heap.size ≤ ·) w1 w4 := (Mod.of_ext (x2.trans x3) : Mod (w1.heap.size ≤ ·) w1 w3).trans (m4.mono fun k _ h => by omega)
      have hm4 : Mod (wF.heap.size ≤ ·) wF w4 := hm.trans (m24.mono fun k _ h => by omega)
      have ho4 := Own.ext ho m24.new
      rw [un_not]
      refine Br_i (fun hb => ?_) fun hb => ?_
      · have hn : Jou.rec_ ll[k] = none := by simpa using hb
        exact hend _ _ _ _ ho4 (load_last (.inr ⟨hlt, hn⟩) hload) hm4.new
      · have hs : (Jou.rec_ ll[k]).isSome = true := by simpa using hb
        obtain ⟨r', hr'⟩ := Option.isSome_iff_exists.1 hs
        obtain rfl := hr r' hr'
        rw [Jou.loadL_drop hlt, hr'] at hload
        rw [Cod.all_drop hlt] at hsum
        rw [hix, load_cell Ty.ints_agg (cell_ext hcell hg hm4.new)]
        refine callF_ret (refFrame_ret hfi w4 (hu.ext hm4.new)) ?_
        intro vf w5 hq
        obtain ⟨x5, hq⟩ := hq
        rw [if_neg (by omega)] at hq
        obtain ⟨vf', rfl, hown⟩ := hq
        rw [ext2_0, ext2_1, SRecord.g_all (has_of_at (h4.ext x5))]
        have z4 := hm4.new.size
        have z5 := x5.size
        refine SRecord.row_app (Own.ext ho4 x5) (by omega) (by omega) fun v' w6 ho6 m6 => ?_
        have hm6 : Mod (wF.heap.size ≤ ·) wF w6 := (hm4.trans (.of_ext x5)).trans m6
        have hf6 : Sl w6 0 vf' (Cod.frame ll[k]).length [] := Sl.header (Sl.of_owns hown)
        rw [hf6.len Ty.bytes, bin_add, i64_wrap (by omega) (by omega), bin_add, i64_wrap (by omega) (by omega)]
        refine hK _ _ _ _ ⟨k + 1, n + (Cod.frame ll[k]).length, by simp, by simp, by omega, _, ho6, hm6, ?_, by simp; omega, by omega⟩ (by simp [intOf]; omega)
        rw [hload]
        simp [Nat.add_assoc]
    · have hge : ll.length ≤ k := by have := dec_f hb; omega
      exact hend _ _ _ _ ho (load_last (.inl hge) hload) x1
end Go.Proofs.YtoeblipchoglaaaGreatDoor
namespace Go.Proofs.YtoeblipchoglaaaGreatDoor
set_option maxRecDepth 100000
set_option maxHeartbeats 2000000
open Sh Go.RowKit
def chk (s : Int) (c : BitVec 64) : SRecord := ⟨2, SEntry.zero, s, c⟩
def entE (s : Int) : SEntry := ⟨s, 0, 0, 0, 0, 0, 0, ⟨0, 0⟩, 0, 0, 0⟩
def ent (e : SEntry) : SRecord := ⟨1, e, 0, 0⟩
end Go.Proofs.YtoeblipchoglaaaGreatDoor
namespace Go.Proofs.YtoeblipchoglaaaGreatDoor
set_option maxRecDepth 100000
set_option maxHeartbeats 2000000
open Sh Go.RowKit
theorem jputV_ok {b : List UInt8} {r : SRecord} (hf : Jou.form r = true) (hl : b.length + (Jou.frameOf r).length ≤ 200000) : jputV b r = (b ++ Jou.frameOf r, 0) := by
  unfold jputV
  rw [if_neg (by rw [hf]; decide), if_neg (by omega)]
def e1 : SRecord := ent (entE 1)
def r3 : SRecord := ⟨3, SEntry.zero, 0, 0⟩
theorem frame_pos (r : SRecord) : 0 < (Jou.frameOf r).length := by unfold Jou.frameOf; rw [Cod.frame_length]; omega
theorem loadV_of {b : List UInt8} (h : b.length ≤ 200000) : loadV b = ((Jou.load b).1, (Jou.load b).2, 0) := by unfold loadV; rw [if_neg (by omega)]
end Go.Proofs.YtoeblipchoglaaaGreatDoor
