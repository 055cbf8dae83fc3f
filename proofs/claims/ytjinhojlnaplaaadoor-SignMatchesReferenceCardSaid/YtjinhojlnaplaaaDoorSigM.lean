/- The walks of the laws MatchesReference, Once and Challenges of sign. -/
import Derived.Test.YtjinhojlnaplaaaDoorSigL
namespace Go.Proofs.YtjinhojlnaplaaaDoor
set_option maxRecDepth 100000
set_option maxHeartbeats 4000000
open Sh Go.RowKit
theorem SignMatchesReference_ret {a x o : Int} {s : SSig} {v : Value} {l : List Int} (hi : ∀ n ∈ l, I64 n) (w : World) (hv : Sl w 1 v l.length (iv l)) (ht : Tab w) :
    Ret Tryd.prog 3 #[.int .i64 a, .int .i64 x, .int .i64 o, .agg s.cells.toArray, v] w (TrueQ w) := by
  refine ret_of (fun _ _ => sh_landfalllaw11_SignMatchesReference_ok _ _ _ _ _) fun R hR => ?_
  unfold sh_landfalllaw11_SignMatchesReference
  have hm := small_few hi
  have hm' := small_few' hi
  refine box_i fun g w1 x1 hat _ _ => ?_
  have hat : At w1 g (.cells s.cells.toArray 23 (0, 0)) := hat
  refine callF_ret (head_ret w1 (ht.ext x1)) ?_
  rintro _ w2 ⟨rfl, x2⟩
  have x12 := x1.trans x2
  refine callF_ret (few_ret w2 (hv.ext x12)) ?_
  rintro vl w' ⟨hw, hl⟩
  subst w'
  have ht2 := ht.ext x12
  refine join1 (fun q w' => Ext w2 w' ∧ q = .bool true) ?_ fun K hK => ?_
  · rintro _ _ w3 hq ⟨x3, rfl⟩
    rw [hq]
    refine callF_ret (Exp_ret a x w3) ?_
    rintro _ w4 ⟨rfl, x4⟩
    rw [ext2_0, ext2_1]
    refine callF_ret (refExp_ret a x w4) ?_
    rintro _ w5 ⟨rfl, x5⟩
    rw [ext2_0, ext2_1]
    have x25 := (x3.trans x4).trans x5
    refine join1 (fun q w' => w' = w5 ∧ q = .bool true) ?_ fun K hK => ?_
    · rintro _ _ w' hq ⟨hw, rfl⟩
      subst w'
      rw [hq]
      refine callF_ret (Public_ret x w5) ?_
      rintro _ w6 ⟨rfl, x6⟩
      rw [ext2_0, ext2_1]
      refine callF_ret (refPublic_ret x w6) ?_
      rintro _ w7 ⟨rfl, x7⟩
      rw [ext2_0, ext2_1]
      have x27 := (x25.trans x6).trans x7
      refine join1 (fun q w' => w' = w7 ∧ q = .bool true) ?_ fun K hK => ?_
      · rintro _ _ w' hq ⟨hw, rfl⟩
        subst w'
        rw [hq]
        refine callF_ret (Sign_ret (s := x) (o := o) hm w7 (hl.ext x27) (ht2.ext x27)) ?_
        rintro _ w8 ⟨rfl, x8⟩
        rw [ext2_0, ext2_1]
        refine alloc_i Ty.SSig_zero fun b1 w9 x9 hat9 hb9 _ => ?_
        refine SSig.set (r := SSig.zero) (s := (Sig.signV x o (l.take 20)).1) hat9 fun w10 m10 h10 _ => ?_
        have x28 := x27.trans x8
        have z8 := x28.size
        have z9 := x9.size
        have m2_10 : Mod (w2.heap.size ≤ ·) w2 w10 := (Mod.of_ext (x28.trans x9) : Mod (w2.heap.size ≤ ·) w2 w9).trans (m10.mono fun k _ h => by omega)
        have z10 := m10.size
        refine callF_ret (refSign_ret (s := x) (o := o) hm' w10 (hl.ext m2_10.new)) ?_
        rintro _ w11 ⟨rfl, x11⟩
        rw [ext2_0, ext2_1]
        refine alloc_i Ty.SSig_zero fun b2 w12 x12' hat12 hb12 _ => ?_
        refine SSig.set (r := SSig.zero) (s := (Sig.signV x o (l.take 20)).1) hat12 fun w13 m13 h13 _ => ?_
        have z11 := x11.size
        have hb1 := h10.lt
        have m2_13 : Mod (w2.heap.size ≤ ·) w2 w13 := (m2_10.trans (.of_ext (x11.trans x12'))).trans (m13.mono fun k _ h => by omega)
        have h10' := ((h10.ext x11).ext x12').mod m13 (by omega)
        refine join1 (fun q w' => w' = w13 ∧ q = .bool true) ?_ fun K hK => ?_
        · rintro _ _ w' hq ⟨hw, rfl⟩
          subst w'
          rw [hq]
          have hs13 := hat.ext (x2.trans m2_13.new)
          rw [SSig.g_all (has_of_at hs13)]
          refine callF_ret (Verify_ret (p := a) hm w13 (hl.ext m2_13.new) (ht2.ext m2_13.new)) ?_
          rintro _ w14 ⟨rfl, x14⟩
          rw [ext2_0, ext2_1, SSig.g_all (has_of_at (hs13.ext x14))]
          refine callF_ret (refVerify_ret (p := a) hm' w14 (hl.ext (m2_13.new.trans x14))) ?_
          rintro _ w15 ⟨rfl, x15⟩
          rw [ext2_0, ext2_1]
          refine gd_t ?_
          rw [bool_eql Ty.bool, beq_self_eq_true]
          refine gd_t ?_
          rw [bin_eql, dec_same]
          exact hR _ _ ⟨rfl, x12.trans ((m2_13.new.trans x14).trans x15)⟩
        · refine gd_t ?_
          rw [SSig.g_all (has_of_at h10'), SSig.g_all (has_of_at h13), SSig.eql, dec_same]
          refine gd_t ?_
          rw [bin_eql, dec_same]
          exact hK _ _ ⟨rfl, rfl⟩
      · refine gd_t ?_
        rw [bin_eql, dec_same]; refine gd_t ?_
        rw [bin_eql, dec_same]
        exact hK _ _ ⟨rfl, rfl⟩
    · refine gd_t ?_
      rw [bin_eql, dec_same]; refine gd_t ?_
      rw [bin_eql, dec_same]
      exact hK _ _ ⟨rfl, rfl⟩
  · refine gd_t ?_
    refine callF_ret (Member_ret a w2) ?_
    rintro _ w3 ⟨rfl, x3⟩
    refine callF_ret (refMember_ret a w3) ?_
    rintro _ w4 ⟨rfl, x4⟩
    rw [bool_eql Ty.bool, beq_self_eq_true]
    exact hK _ _ ⟨x3.trans x4, rfl⟩
theorem diff_val {a b : Nat} (ha : a < Sig.Q) (hb : b < Sig.Q) : (IntKind.i64.wrap (IntKind.i64.wrap ((a : Int) - (b : Int)) + 1073741789)).tmod 1073741789 = (((a + Sig.Q - b) % Sig.Q : Nat) : Int) := by
  have hq : Sig.Q = 1073741789 := rfl
  rw [i64_wrap (x := (a : Int) - (b : Int)) (by omega) (by omega), i64_wrap (by omega) (by omega)]
  have e : (a : Int) - (b : Int) + 1073741789 = ((a + Sig.Q - b : Nat) : Int) := by omega
  rw [e]
  rfl
theorem SignOnce_ret {a b : BitVec 64} {v1 v2 : Value} {l1 l2 : List Int} (hi1 : ∀ n ∈ l1, I64 n) (hi2 : ∀ n ∈ l2, I64 n) (w : World) (hv1 : Sl w 1 v1 l1.length (iv l1)) (hv2 : Sl w 1 v2 l2.length (iv l2)) (ht : Tab w) :
    Ret Tryd.prog 5 #[u64v a, u64v b, v1, v2] w (TrueQ w) := by
  refine ret_of (fun _ _ => sh_landfalllaw11_SignOnce_ok _ _ _ _) fun R hR => ?_
  unfold sh_landfalllaw11_SignOnce
  obtain ⟨ha1, ha2⟩ := sec_in a
  obtain ⟨hb1, hb2⟩ := sec_in b
  have hq : Sig.Q = 1073741789 := rfl
  have hm1 := small_few hi1
  have hm2 := small_few hi2
  refine callF_ret (head_ret w ht) ?_
  rintro _ w1 ⟨rfl, x1⟩
  refine callF_same (secret_ret a w1) ?_
  refine callF_same (secret_ret b w1) ?_
  refine callF_ret (few_ret w1 (hv1.ext x1)) ?_
  rintro vl1 w' ⟨hw, hl1⟩
  subst w'
  refine callF_ret (Sign_ret (s := (sec a : Nat)) (o := (sec b : Nat)) hm1 w1 hl1 (ht.ext x1)) ?_
  rintro _ w2 ⟨rfl, x2⟩
  rw [Sig.signV_of ha1 ha2 hb1 hb2, ext2_0, ext2_1]
  refine alloc_i Ty.SSig_zero fun g1 w3 x3 hat3 hb3 _ => ?_
  refine SSig.set (r := SSig.zero) (s := Sig.sigOf (sec a) (sec b) (l1.take 20)) hat3 fun w4 m4 h4 _ => ?_
  have z2 := x2.size
  have z3 := x3.size
  have z4 := m4.size
  have m14 : Mod (w1.heap.size ≤ ·) w1 w4 := (Mod.of_ext (x2.trans x3) : Mod (w1.heap.size ≤ ·) w1 w3).trans (m4.mono fun k _ h => by omega)
  refine callF_same (secret_ret a w4) ?_
  refine callF_same (secret_ret b w4) ?_
  refine callF_ret (few_ret w4 (hv2.ext (x1.trans m14.new))) ?_
  rintro vl2 w' ⟨hw, hl2⟩
  subst w'
  refine callF_ret (Sign_ret (s := (sec a : Nat)) (o := (sec b : Nat)) hm2 w4 hl2 (ht.ext (x1.trans m14.new))) ?_
  rintro _ w5 ⟨rfl, x5⟩
  rw [Sig.signV_of ha1 ha2 hb1 hb2, ext2_0, ext2_1]
  refine alloc_i Ty.SSig_zero fun g2 w6 x6 hat6 hb6 _ => ?_
  refine SSig.set (r := SSig.zero) (s := Sig.sigOf (sec a) (sec b) (l2.take 20)) hat6 fun w7 m7 h7 _ => ?_
  have z5 := x5.size
  have hg1 := h4.lt
  have m17 : Mod (w1.heap.size ≤ ·) w1 w7 := (m14.trans (.of_ext (x5.trans x6))).trans (m7.mono fun k _ h => by omega)
  have h47 := ((h4.ext x5).ext x6).mod m7 (by omega)
  have xw : Ext w w7 := x1.trans m17.new
  obtain ⟨e1, q1, q2, q3, q4⟩ := Sig.sigOf_e (sec a) (sec b) (l1.take 20)
  obtain ⟨e2, r1, r2, r3, r4⟩ := Sig.sigOf_e (sec a) (sec b) (l2.take 20)
  refine join0 (fun w' => w' = w7) ?_ fun K hK => ?_
  · rintro _ w' hw
    subst w'
    have H1 : ∀ w8, Ext w7 w8 → Has w8 g1 0 (Sig.sigOf (sec a) (sec b) (l1.take 20)).cells := fun w8 x8 => has_of_at (h47.ext x8)
    have H2 : ∀ w8, Ext w7 w8 → Has w8 g2 0 (Sig.sigOf (sec a) (sec b) (l2.take 20)).cells := fun w8 x8 => has_of_at (h7.ext x8)
    generalize Sig.sigOf (sec a) (sec b) (l1.take 20) = S1' at *
    generalize Sig.sigOf (sec a) (sec b) (l2.take 20) = S2' at *
    have H1' := H1 w7 (Ext.refl _)
    have H2' := H2 w7 (Ext.refl _)
    rw [SSig.g_e H1', SSig.g_e H2', q1, r1, bin_eql]
    refine Br_i (fun hb => ?_) fun hb => ?_
    · have he : e1 = e2 := by have := dec_t hb; omega
      refine gd_t ?_
      rw [SSig.g_all H1', SSig.g_all H2', SSig.eql]
      have hs : S1' = S2' := by
        obtain ⟨a1, b1⟩ := S1'
        obtain ⟨a2, b2⟩ := S2'
        simp only at q1 q4 r1 r4
        rw [q1, q4, r1, r4, he]
      refine hR _ _ ⟨?_, xw⟩
      rw [hs, decide_eq_true rfl]
    · have he : e1 ≠ e2 := fun h => dec_f hb (by rw [h])
      rw [SSig.g_e H1', SSig.g_e H2', q1, r1, bin_sub, bin_add, bin_rem (by decide), diff_val q2 r2]
      refine draw_ext fun w8 x8 => ?_
      refine det_read _ (fun w9 x9 K => Ty.SSig_f1) ?_
      refine det_read (.int .i64 S1'.s) (fun w9 x9 K => load_cell Ty.int_agg (has_at (H1 w9 (x8.trans x9)) (d := 1) rfl rfl)) ?_
      refine det_read _ (fun w9 x9 K => Ty.SSig_f1) ?_
      refine det_read (.int .i64 S2'.s) (fun w9 x9 K => load_cell Ty.int_agg (has_at (H2 w9 (x8.trans x9)) (d := 1) rfl rfl)) ?_
      refine det_read _ (fun w9 x9 K => bin_sub) ?_
      refine det_read _ (fun w9 x9 K => bin_add) ?_
      refine det_read (.int .i64 ((((sec b + e1 * sec a) % Sig.Q + Sig.Q - (sec b + e2 * sec a) % Sig.Q) % Sig.Q : Nat) : Int)) (fun w9 x9 K => by
        rw [bin_rem (by decide), q4, r4, diff_val (Nat.mod_lt _ (by decide)) (Nat.mod_lt _ (by decide))]) ?_
      refine det_ret (.int .i64 (((((e1 + Sig.Q - e2) % Sig.Q) ^ (Sig.Q - 2) % Sig.Q : Nat)) : Int)) (fun w9 x9 => (Power_ret (a := (e1 + Sig.Q - e2) % Sig.Q) (x := Sig.Q - 2) (m := Sig.Q) (Nat.mod_lt _ (by decide)) (by decide) (by decide) (by decide) w9).mono fun v w4 hh => ⟨hh.1, by rw [hh.2]; exact Ext.refl _⟩) ?_
      intro w9 x9 _
      have hfin := Sig.shows (s := sec a) (o := sec b) ha2 q2 r2 he
      have hmul := mul_mod_val (m := 1073741789) (a := ((sec b + e1 * sec a) % Sig.Q + Sig.Q - (sec b + e2 * sec a) % Sig.Q) % Sig.Q) (b := ((e1 + Sig.Q - e2) % Sig.Q) ^ (Sig.Q - 2) % Sig.Q) (Nat.mod_lt _ (by decide)) (Nat.mod_lt _ (by decide)) (by decide)
      rw [bin_mul, bin_rem (by decide), show (1073741789 : Int) = ((1073741789 : Nat) : Int) from rfl, hmul]
      refine gd_t ?_
      refine callF_same (secret_ret a w9) ?_
      rw [bin_eql]
      refine hR _ _ ⟨congrArg Value.bool (decide_eq_true ?_), xw.trans (x8.trans x9)⟩
      exact congrArg Nat.cast hfin
  · refine join1 (fun q w' => w' = w7 ∧ q = .bool false) ?_ fun K2 hK2 => ?_
    · rintro _ _ w' hq ⟨rfl, rfl⟩
      rw [hq]
      exact br_f (hK _ rfl)
    · rw [bin_neq]
      refine gd_f ?_
      rw [bin_neq]
      exact hK2 _ _ ⟨rfl, by simp⟩
end Go.Proofs.YtjinhojlnaplaaaDoor
