/- The walks of the six laws of the codec. -/
import Derived.Test.YtbmkdhiigapbdaaLawH
namespace Go.Proofs.Ytbmkdhiigapbdaa
open Sh Go.RowKit
def putV (l : List Int) : List UInt8 × Int := if 4000 < l.length then ([], 2) else (Cod.put l, 0)
def frameV (l : List Int) : List UInt8 × Int := if 4000 < l.length then ([], 2) else (Cod.frame l, 0)
def getV (b : List UInt8) : List Int × Int := match Cod.get b with | none => ([], 7) | some l => (l, 0)
def framesV (b : List UInt8) : List (List Int) × Nat × Int := if 200000 < b.length then ([], 0, 2) else ((Cod.frames b).1, (Cod.frames b).2, 0)
theorem PutQ.use {l : List Int} {w w' : World} {r : Value} (h : PutQ l w r w') : ∃ v, r = .tuple #[v, .int .i64 (putV l).2] ∧ Sl w' 1 v (putV l).1.length (bv (putV l).1) ∧ Ext w w' := by
  obtain ⟨x, h⟩ := h
  unfold putV
  by_cases hl : 4000 < l.length
  · rw [if_pos hl] at h ⊢; exact ⟨_, h, Sl.nil _ _, x⟩
  · rw [if_neg hl] at h ⊢; obtain ⟨v, h1, h2⟩ := h; exact ⟨v, h1, Sl.of_owns h2, x⟩
theorem FrameQ.use {l : List Int} {w w' : World} {r : Value} (h : FrameQ l w r w') : ∃ v, r = .tuple #[v, .int .i64 (frameV l).2] ∧ Sl w' 1 v (frameV l).1.length (bv (frameV l).1) ∧ Ext w w' := by
  obtain ⟨x, h⟩ := h
  unfold frameV
  by_cases hl : 4000 < l.length
  · rw [if_pos hl] at h ⊢; exact ⟨_, h, Sl.nil _ _, x⟩
  · rw [if_neg hl] at h ⊢; obtain ⟨v, h1, h2⟩ := h; exact ⟨v, h1, Sl.of_owns h2, x⟩
theorem GetQ.use {l : List UInt8} {w w' : World} {r : Value} (h : GetQ l w r w') : ∃ v, r = .tuple #[v, .int .i64 (getV l).2] ∧ Sl w' 1 v (getV l).1.length (iv (getV l).1) ∧ Ext w w' := by
  obtain ⟨x, h⟩ := h
  unfold getV
  cases hg : Cod.get l with
  | none => rw [hg] at h; exact ⟨_, h, Sl.nil _ _, x⟩
  | some ns => rw [hg] at h; obtain ⟨v, h1, h2⟩ := h; exact ⟨v, h1, Sl.of_owns h2, x⟩
theorem LL.nil (w : World) : LL w (.slice none 0 0) [] := ⟨[], Sl.nil _ _, fun j u l hu _ => by simp at hu⟩
theorem FramesQ.use {l : List UInt8} {w w' : World} {r : Value} (h : FramesQ l w r w') : ∃ v, r = .tuple #[v, .int .i64 (framesV l).2.1, .int .i64 (framesV l).2.2] ∧ LL w' v (framesV l).1 ∧ Ext w w' := by
  obtain ⟨x, h⟩ := h
  unfold framesV
  by_cases hl : 200000 < l.length
  · rw [if_pos hl] at h ⊢; exact ⟨_, h, LL.nil _, x⟩
  · rw [if_neg hl] at h ⊢; obtain ⟨v, h1, h2⟩ := h; exact ⟨v, h1, h2, x⟩
theorem dec_same {α : Type} [DecidableEq α] (a : α) : Value.bool (decide (a = a)) = .bool true := by simp
theorem gd_t {A B : Prop} (h : A) : Gd (.bool true) true A B := Gd_i (fun _ => h) fun h => by cases h
theorem br_f {A B : Prop} (h : B) : Br (.bool false) A B := Br_i (fun h => by cases h) fun _ => h
/-- What a law gives. -/
def TrueQ (w : World) (r : Value) (w' : World) : Prop := r = .bool true ∧ Ext w w'
theorem CodecMatchesReference_ret {v0 v1 : Value} {l : List Int} {b : List UInt8} (hi : ∀ n ∈ l, Cod.I64 n) (w : World) (h0 : Sl w 1 v0 l.length (iv l)) (h1 : Sl w 1 v1 b.length (bv b)) :
    Ret Try.prog 3 #[v0, v1] w (TrueQ w) := by
  refine ret_of (fun _ _ => sh_landfalllaw08_CodecMatchesReference_ok _ _) fun R hR => ?_
  unfold sh_landfalllaw08_CodecMatchesReference
  refine callF_ret (head_ret w) ?_
  rintro _ w1 ⟨rfl, x1⟩
  have h0 := h0.ext x1
  have h1 := h1.ext x1
  refine join0 (fun w' => w' = w1) ?_ fun K hK => ?_
  · rintro _ w' rfl
    refine callF_ret (Put_ret hi w' h0) ?_
    rintro r w2 hq
    obtain ⟨p, rfl, hp, x2⟩ := hq.use
    rw [ext2_0, ext2_1]
    refine callF_ret (refPut_ret hi w2 (h0.ext x2)) ?_
    rintro r w3 hq
    obtain ⟨p', rfl, hp', x3⟩ := hq.use
    rw [ext2_0, ext2_1]
    have x13 := x2.trans x3
    refine join1 (fun b w4 => b = .bool true ∧ w4 = w3) ?_ fun K hK => ?_
    · rintro _ _ w4 hb ⟨rfl, hw⟩
      subst w4
      rw [hb]
      refine callF_ret (Frame_ret hi w3 (h0.ext x13)) ?_
      rintro r w4 hq
      obtain ⟨f, rfl, hf, x4⟩ := hq.use
      rw [ext2_0, ext2_1]
      refine callF_ret (refFrame_ret hi w4 (h0.ext (x13.trans x4))) ?_
      rintro r w5 hq
      obtain ⟨f', rfl, hf', x5⟩ := hq.use
      rw [ext2_0, ext2_1]
      have x15 := (x13.trans x4).trans x5
      refine join1 (fun b w4 => b = .bool true ∧ w4 = w5) ?_ fun K hK => ?_
      · rintro _ _ w6 hb ⟨rfl, hw⟩
        subst w6
        rw [hb]
        refine join1 (fun b w6 => b = .bool true ∧ Ext w' w6) ?_ fun K hK => ?_
        · rintro _ _ w6 hb ⟨rfl, x6⟩
          rw [hb]
          refine callF_ret (Frames_ret w6 (h1.ext x6)) ?_
          rintro r w7 hq
          obtain ⟨c, rfl, hc, x7⟩ := hq.use
          rw [ext3_0, ext3_1, ext3_2]
          refine callF_ret (refFrames_ret w7 (h1.ext (x6.trans x7))) ?_
          rintro r w8 hq
          obtain ⟨c', rfl, hc', x8⟩ := hq.use
          rw [ext3_0, ext3_1, ext3_2]
          refine gd_t ?_
          refine callF_ret (SameLists_ret w8 (hc.ext x8) hc') ?_
          rintro _ w9 ⟨rfl, x9⟩
          rw [dec_same]
          refine gd_t ?_
          rw [bin_eql, dec_same]
          refine gd_t ?_
          rw [bin_eql, dec_same]
          exact hR _ _ ⟨rfl, x1.trans (((x6.trans x7).trans x8).trans x9)⟩
        · rw [(h1.ext x15).len Ty.bytes, bin_leq]
          refine Br_i (fun _ => ?_) fun _ => hK _ _ ⟨rfl, x15⟩
          refine callF_ret (Get_ret w5 (h1.ext x15)) ?_
          rintro r w6 hq
          obtain ⟨g, rfl, hg, x6⟩ := hq.use
          rw [ext2_0, ext2_1]
          refine callF_ret (refGet_ret w6 (h1.ext (x15.trans x6))) ?_
          rintro r w7 hq
          obtain ⟨g', rfl, hg', x7⟩ := hq.use
          rw [ext2_0, ext2_1]
          refine gd_t ?_
          refine callF_ret (SameInts_ret w7 (hg.ext x7) hg') ?_
          rintro _ w9 ⟨rfl, x9⟩
          rw [dec_same]
          refine gd_t ?_
          rw [bin_eql, dec_same]
          exact hK _ _ ⟨rfl, ((x15.trans x6).trans x7).trans x9⟩
      · refine gd_t ?_
        refine callF_same (SameBytes_ret w5 (hf.ext x5) hf') ?_
        rw [dec_same]
        refine gd_t ?_
        rw [bin_eql, dec_same]
        exact hK _ _ ⟨rfl, rfl⟩
    · refine gd_t ?_
      refine callF_same (SameBytes_ret w3 (hp.ext x3) hp') ?_
      rw [dec_same]
      refine gd_t ?_
      rw [bin_eql, dec_same]
      exact hK _ _ ⟨rfl, rfl⟩
  · refine join1 (fun b w' => ∃ q, b = .bool q ∧ w' = w1) ?_ fun K' hK' => ?_
    · rintro _ _ w' hb ⟨q, rfl, rfl⟩
      rw [hb]
      exact Br_i (fun _ => hR _ _ ⟨rfl, x1⟩) fun _ => hK _ rfl
    · have hend : ∀ q, K' [.bool q] w1 := fun q => hK' _ _ ⟨q, rfl, rfl⟩
      rw [h0.len Ty.ints, bin_gtr]
      refine Gd_i (fun _ => ?_) fun _ => ?_
      · rw [h0.len Ty.ints, bin_leq]
        refine Gd_i (fun _ => ?_) fun _ => hend _
        rw [h1.len Ty.bytes, bin_gtr]
        refine Gd_i (fun _ => ?_) fun _ => hend _
        rw [h1.len Ty.bytes, bin_leq]
        exact hend _
      · rw [h1.len Ty.bytes, bin_gtr]
        refine Gd_i (fun _ => ?_) fun _ => hend _
        rw [h1.len Ty.bytes, bin_leq]
        exact hend _
theorem CodecBack_ret {v0 v1 : Value} {l : List Int} {b : List UInt8} (hi : ∀ n ∈ l, Cod.I64 n) (w : World) (h0 : Sl w 1 v0 l.length (iv l)) (h1 : Sl w 1 v1 b.length (bv b)) :
    Ret Try.prog 4 #[v0, v1] w (TrueQ w) := by
  refine ret_of (fun _ _ => sh_landfalllaw08_CodecBack_ok _ _) fun R hR => ?_
  unfold sh_landfalllaw08_CodecBack
  refine callF_ret (head_ret w) ?_
  rintro _ w1 ⟨rfl, x1⟩
  have h0 := h0.ext x1
  have h1 := h1.ext x1
  refine join0 (fun w' => w' = w1 ∧ l.length ≤ 300) ?_ fun K hK => ?_
  · rintro _ w' ⟨rfl, hl⟩
    refine callF_ret (Put_ret hi w' h0) ?_
    rintro r w2 hq
    obtain ⟨p, rfl, hp, x2⟩ := hq.use
    have hpv : putV l = (Cod.put l, 0) := by unfold putV; rw [if_neg (by omega)]
    rw [hpv] at hp ⊢
    rw [ext2_0, ext2_1]
    refine callF_ret (Get_ret w2 hp) ?_
    rintro r w3 hq
    obtain ⟨m, rfl, hm, x3⟩ := hq.use
    have hgv : getV (Cod.put l) = (l, 0) := by unfold getV; rw [Cod.get_put hi (by omega)]
    simp only [hgv] at hm ⊢
    rw [ext2_0, ext2_1]
    have x13 := x2.trans x3
    refine join0 (fun w4 => Ext w' w4) ?_ fun K hK => ?_
    · rintro _ w4 x4
      refine callF_ret (Get_ret w4 (h1.ext x4)) ?_
      rintro r w5 hq
      obtain ⟨k, rfl, hk, x5⟩ := hq.use
      rw [ext2_0, ext2_1, bin_neq]
      have x15 := x4.trans x5
      cases hg : Cod.get b with
      | none =>
        have hgv : getV b = ([], 7) := by unfold getV; rw [hg]
        rw [hgv] at hk ⊢
        refine Br_i (fun _ => gd_t ?_) fun h => by simp at h
        rw [bin_eql]
        refine gd_t ?_
        rw [hk.len Ty.ints, bin_eql]
        exact hR _ _ ⟨by simp, x1.trans x15⟩
      | some ns =>
        have hgv : getV b = (ns, 0) := by unfold getV; rw [hg]
        obtain ⟨e1, e2, e3⟩ := Cod.get_inv hg
        rw [hgv] at hk ⊢
        refine Br_i (fun h => by simp at h) fun _ => ?_
        refine callF_ret (Put_ret e3 w5 hk) ?_
        rintro r w6 hq
        obtain ⟨y, rfl, hy, x6⟩ := hq.use
        have hpv : putV ns = (Cod.put ns, 0) := by unfold putV; rw [if_neg (by omega)]
        rw [hpv, ← e1] at hy
        rw [hpv, ext2_0, ext2_1]
        refine gd_t ?_
        rw [bin_eql]
        refine gd_t ?_
        refine callF_same (SameBytes_ret w6 (h1.ext (x15.trans x6)) hy) ?_
        rw [dec_same]
        exact hR _ _ ⟨rfl, x1.trans (x15.trans x6)⟩
    · refine join1 (fun b w4 => b = .bool false ∧ Ext w' w4) ?_ fun K' hK' => ?_
      · rintro _ _ w4 hb ⟨rfl, x4⟩
        rw [hb]
        exact br_f (hK _ x4)
      · rw [bin_neq]
        refine Gd_i (fun _ => ?_) fun h => by simp at h
        rw [bin_neq]
        refine Gd_i (fun _ => ?_) fun h => by simp at h
        refine callF_ret (SameInts_ret w3 (h0.ext x13) hm) ?_
        rintro _ w4 ⟨rfl, x4⟩
        rw [dec_same, un_not]
        exact hK' _ _ ⟨rfl, x13.trans x4⟩
  · refine join1 (fun b w' => ∃ q, b = .bool q ∧ w' = w1 ∧ (q = false → l.length ≤ 300)) ?_ fun K' hK' => ?_
    · rintro _ _ w' hb ⟨q, rfl, rfl, hl⟩
      rw [hb]
      exact Br_i (fun _ => hR _ _ ⟨rfl, x1⟩) fun hq => hK _ ⟨rfl, hl hq⟩
    · rw [h0.len Ty.ints, bin_gtr]
      refine Gd_i (fun hb => ?_) fun _ => hK' _ _ ⟨_, rfl, rfl, fun h => by cases h⟩
      have := dec_f hb
      rw [h1.len Ty.bytes, bin_gtr]
      exact hK' _ _ ⟨_, rfl, rfl, fun _ => by omega⟩
theorem CodecPrefixes_ret {v0 v1 : Value} {l : List Int} {b : List UInt8} {less : Int} (hless : 0 ≤ less ∧ less < 65536) (hi : ∀ n ∈ l, Cod.I64 n) (w : World) (h0 : Sl w 1 v0 l.length (iv l)) (h1 : Sl w 1 v1 b.length (bv b)) :
    Ret Try.prog 8 #[v0, v1, .int .u16 less] w (TrueQ w) := by
  refine ret_of (fun _ _ => sh_landfalllaw08_CodecPrefixes_ok _ _ _) fun R hR => ?_
  unfold sh_landfalllaw08_CodecPrefixes
  obtain ⟨i8, hi8, hz8, hs8, _⟩ := Ty.info_parts Ty.u8_info
  refine callF_ret (head_ret w) ?_
  rintro _ w1 ⟨rfl, x1⟩
  have h0 := h0.ext x1
  have h1 := h1.ext x1
  refine join0 (fun w' => w' = w1 ∧ l.length ≤ 300 ∧ b ≠ [] ∧ b.length ≤ 300) ?_ fun K hK => ?_
  · rintro _ w' ⟨rfl, hl, hb0, hbl⟩
    refine callF_ret (Put_ret hi w' h0) ?_
    rintro r w2 hq
    obtain ⟨p, rfl, hp, x2⟩ := hq.use
    have hpv : putV l = (Cod.put l, 0) := by unfold putV; rw [if_neg (by omega)]
    have hlen := Cod.put_length hi (by omega)
    have hpos := Cod.put_pos l
    rw [hpv] at hp ⊢
    simp only at hp
    rw [ext2_0, ext2_1]
    refine join0 (fun w4 => w4 = w2) ?_ fun K hK => ?_
    · rintro _ w' rfl
      refine lit_nobytes fun v3 w3 x3 h3 _ => ?_
      have z3 := x3.size
      have z1 := x2.size
      refine app_bytes h3 (hp.ext x3) (by simp; omega) z3 fun v4 w4 h4 m4 => ?_
      have x4 : Ext w' w4 := ((Mod.of_ext x3 : Mod (w'.heap.size ≤ ·) w' w3).trans (m4.mono fun k _ h => (Own.block h3 h).1)).new
      have z4 := x4.size
      refine app_bytes h4 (h1.ext (x2.trans x4)) (by simp; omega) z4 fun v5 w5 h5 m5 => ?_
      have x5 : Ext w' w5 := ((Mod.of_ext x4 : Mod (w'.heap.size ≤ ·) w' w4).trans (m5.mono fun k _ h => (Own.block h4 h).1)).new
      rw [List.nil_append] at h5
      refine callF_ret (Get_ret w5 (Sl.of_owns h5)) ?_
      rintro r w6 hq
      obtain ⟨g, rfl, hg, x6⟩ := hq.use
      have hgv : getV (Cod.put l ++ b) = ([], 7) := by unfold getV; rw [Cod.get_put_append hi (by omega), if_neg hb0]
      rw [hgv, ext2_0, ext2_1]
      have x16 := x5.trans x6
      have hm : (less.toNat % (Cod.put l).length) < (Cod.put l).length := Nat.mod_lt _ hpos
      have hrem : less.tmod ((Cod.put l).length : Int) = ((less.toNat % (Cod.put l).length : Nat) : Int) := by
        rw [Int.tmod_eq_emod_of_nonneg hless.1, Int.natCast_emod, Int.toNat_of_nonneg hless.1]
      rw [conv_int Ty.u16 Ty.int, i64_wrap (by omega) (by omega), (hp.ext x16).len Ty.bytes, bin_rem (by omega), hrem]
      refine slice_upto Ty.bytes hi8 hs8 (by decide) (hp.ext x16) (h := less.toNat % (Cod.put l).length) (by omega) fun v7 h7 _ => ?_
      have h7' : Sl w6 1 v7 ((Cod.put l).take (less.toNat % (Cod.put l).length)).length (bv ((Cod.put l).take (less.toNat % (Cod.put l).length))) := by
        have e : (bv (Cod.put l)).take (less.toNat % (Cod.put l).length * 1) = bv ((Cod.put l).take (less.toNat % (Cod.put l).length)) := by simp [bv, List.map_take]
        rw [e] at h7
        rw [List.length_take, Nat.min_eq_left (by omega)]; exact h7
      refine callF_ret (Get_ret w6 h7') ?_
      rintro r w8 hq
      obtain ⟨g', rfl, hg', x8⟩ := hq.use
      have hgv2 : getV ((Cod.put l).take (less.toNat % (Cod.put l).length)) = ([], 7) := by unfold getV; rw [Cod.get_prefix hi (by omega) hm]
      rw [hgv2, ext2_0, ext2_1]
      refine gd_t ?_
      rw [bin_eql]
      refine gd_t ?_
      rw [bin_eql]
      exact hR _ _ ⟨by simp, x1.trans (x2.trans (x16.trans x8))⟩
    · refine join1 (fun b w4 => b = .bool false ∧ w4 = w2) ?_ fun K' hK' => ?_
      · rintro _ _ w4 hb ⟨rfl, rfl⟩
        rw [hb]
        exact br_f (hK _ rfl)
      · rw [bin_neq]
        refine Gd_i (fun _ => ?_) fun h => by simp at h
        rw [hp.len Ty.bytes, bin_eql]
        exact hK' _ _ ⟨by rw [decide_eq_false (by omega)], rfl⟩
  · refine join1 (fun c w' => ∃ q, c = .bool q ∧ w' = w1 ∧ (q = false → l.length ≤ 300 ∧ b ≠ [] ∧ b.length ≤ 300)) ?_ fun K' hK' => ?_
    · rintro _ _ w' hb ⟨q, rfl, rfl, hl⟩
      rw [hb]
      exact Br_i (fun _ => hR _ _ ⟨rfl, x1⟩) fun hq => hK _ ⟨rfl, hl hq⟩
    · rw [h0.len Ty.ints, bin_gtr]
      refine Gd_i (fun hb => ?_) fun _ => hK' _ _ ⟨_, rfl, rfl, fun h => by cases h⟩
      have := dec_f hb
      rw [h1.len Ty.bytes, bin_eql]
      refine Gd_i (fun hb2 => ?_) fun _ => hK' _ _ ⟨_, rfl, rfl, fun h => by cases h⟩
      have h2 := dec_f hb2
      rw [h1.len Ty.bytes, bin_gtr]
      exact hK' _ _ ⟨_, rfl, rfl, fun hb3 => by
        have h3 := dec_f hb3
        exact ⟨by omega, fun e => h2 (by rw [e]; rfl), by omega⟩⟩
end Go.Proofs.Ytbmkdhiigapbdaa
