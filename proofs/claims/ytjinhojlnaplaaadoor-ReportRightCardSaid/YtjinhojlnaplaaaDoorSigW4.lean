/- The walks of Verify, of the reference's Back and Verify. -/
import Derived.Test.YtjinhojlnaplaaaDoorSigW3
namespace Go.Proofs.YtjinhojlnaplaaaDoor
set_option maxRecDepth 100000
set_option maxHeartbeats 2000000
open Sh Go.RowKit
theorem qe_val {e : Nat} (h : e < Sig.Q) : (IntKind.i64.wrap (1073741789 - (e : Int))).tmod 1073741789 = (((Sig.Q - e) % Sig.Q : Nat) : Int) := by
  have hq : Sig.Q = 1073741789 := rfl
  have e1 : (1073741789 : Int) - (e : Int) = ((Sig.Q - e : Nat) : Int) := by omega
  rw [e1, i64_wrap (by omega) (by omega)]
  rfl
theorem qe_lt (e : Nat) : (Sig.Q - e) % Sig.Q < 2147483648 := by
  have h := Nat.mod_lt (Sig.Q - e) (show 0 < Sig.Q by decide)
  have hq : Sig.Q = 1073741789 := rfl
  omega
theorem back_val (a b : Nat) (ha : a < Sig.P) (hb : b < Sig.P) : (IntKind.i64.wrap ((a : Int) * (b : Int))).tmod 2147483579 = ((a * b % Sig.P : Nat) : Int) :=
  mul_mod_val (m := 2147483579) ha hb (by decide)
def VerQ (p : Int) (s : SSig) (m : List Int) (w : World) (r : Value) (w' : World) : Prop := r = .tuple #[.bool (Sig.verV p s m).1, .int .i64 (Sig.verV p s m).2] ∧ Ext w w'
theorem verV_bad {p : Int} {s : SSig} {m : List Int} (h : (Sig.member p && (Sig.inQ 0 s.e && Sig.inQ 0 s.s)) = false) : Sig.verV p s m = (false, 1) := by
  unfold Sig.verV
  rw [if_neg]
  rintro ⟨h1, h2, h3⟩
  rw [h1, h2, h3] at h; cases h
theorem verV_ok {p : Nat} {s : SSig} {m : List Int} (h1 : Sig.member p = true) (h2 : Sig.inQ 0 s.e = true) (h3 : Sig.inQ 0 s.s = true) : Sig.verV p s m = (decide ((Sig.chal ((Sig.back p s : Nat) :: (p : Int) :: m) : Int) = s.e), 0) := by
  unfold Sig.verV
  rw [if_pos ⟨h1, h2, h3⟩]; rfl
theorem back_lt (p : Nat) (s : SSig) : Sig.back p s < Sig.P := Nat.mod_lt _ (by decide)
theorem back_i64 (p : Nat) (s : SSig) : I64 (Sig.back p s : Int) := by
  have h := back_lt p s
  have hp : Sig.P = 2147483579 := rfl
  unfold I64; omega
theorem Back_ret {p : Nat} {s : SSig} (hp : p < Sig.P) (he : Sig.inQ 0 s.e = true) (hs : Sig.inQ 0 s.s = true) (w : World) : Ret Tryd.prog 27 #[.int .i64 p, .agg s.cells.toArray] w fun r w' => r = .int .i64 (Sig.back p s : Nat) ∧ Ext w w' := by
  refine ret_of (fun _ _ => sh_landfallref11_Back_ok _ _) fun R hR => ?_
  unfold sh_landfallref11_Back
  have hq : Sig.Q = 1073741789 := rfl
  obtain ⟨se, ss⟩ := s
  obtain ⟨e, rfl, _, h4⟩ := Sig.inQ_nat he (by decide)
  obtain ⟨k, rfl, _, h6⟩ := Sig.inQ_nat hs (by decide)
  refine box_i fun g w1 x1 hat hg _ => ?_
  have h : ∀ w2, Ext w1 w2 → Has w2 g 0 (SSig.mk e k).cells := fun w2 x2 => has_of_at (hat.ext x2)
  refine draw_ext fun w2 x2 => ?_
  refine det_read _ (fun w3 x3 K => Ty.SSig_f1) ?_
  refine det_read (.int .i64 k) (fun w3 x3 K => load_cell Ty.int_agg (has_at (h w3 (x2.trans x3)) (d := 1) rfl rfl)) ?_
  refine det_ret (.int .i64 (Sig.pw 4 k : Nat)) (fun w3 _ => (Power_ret (a := 4) (m := 2147483579) (by decide) (by omega) (by decide) (by decide) w3).mono fun v w4 hh => ⟨hh.1, by rw [hh.2]; exact Ext.refl _⟩) ?_
  refine det_read _ (fun w3 x3 K => Ty.SSig_f0) ?_
  refine det_read (.int .i64 e) (fun w3 x3 K => load_cell Ty.int_agg (has_at (h w3 (x2.trans x3)) (d := 0) rfl rfl)) ?_
  refine det_read _ (fun w3 x3 K => bin_sub) ?_
  refine det_read (.int .i64 ((Sig.Q - e) % Sig.Q : Nat)) (fun w3 x3 K => by rw [bin_rem (by decide), qe_val h4]) ?_
  intro w3 x3 _
  refine callF_same (Power_ret (m := 2147483579) hp (qe_lt e) (by decide) (by decide) w3) ?_
  rw [bin_mul, bin_rem (by decide)]
  have e1 := back_val (Sig.pw 4 k) (Sig.pw p ((Sig.Q - e) % Sig.Q)) (Sig.pw_lt _ _) (Sig.pw_lt _ _)
  refine hR _ _ ⟨congrArg (Value.int .i64) ?_, (x1.trans x2).trans x3⟩
  exact e1
theorem Verify_ret {p : Int} {s : SSig} {v : Value} {m : List Int} (hm : SmallList m) (w : World) (hv : Sl w 1 v m.length (iv m)) (ht : Tab w) : Ret Tryd.prog 23 #[.int .i64 p, .agg s.cells.toArray, v] w (VerQ p s m w) := by
  refine ret_of (fun _ _ => sh_sign_Verify_ok _ _ _) fun R hR => ?_
  unfold sh_sign_Verify
  have hq : Sig.Q = 1073741789 := rfl
  have hP : Sig.P = 2147483579 := rfl
  refine box_i fun g w1 x1 hat hg _ => ?_
  have hat : At w1 g (.cells s.cells.toArray 23 (0, 0)) := hat
  have h : ∀ w2, Ext w1 w2 → Has w2 g 0 s.cells := fun w2 x2 => has_of_at (hat.ext x2)
  refine join0 (fun w' => Ext w1 w' ∧ Sig.member p = true ∧ Sig.inQ 0 s.e = true ∧ Sig.inQ 0 s.s = true) ?_ fun K hK => ?_
  · rintro _ w2 ⟨x2, h1, h2, h3⟩
    obtain ⟨se, ss⟩ := s
    obtain ⟨n, rfl, g1, g2, g3⟩ := Sig.member_nat h1
    obtain ⟨e, rfl, _, g4⟩ := Sig.inQ_nat h2 (by decide)
    obtain ⟨k, rfl, _, g6⟩ := Sig.inQ_nat h3 (by decide)
    refine draw_ext fun w3 x3 => ?_
    have x13 := x2.trans x3
    refine det_read _ (fun w4 x4 K => Ty.SSig_f1) ?_
    refine det_read (.int .i64 k) (fun w4 x4 K => load_cell Ty.int_agg (has_at (h w4 (x13.trans x4)) (d := 1) rfl rfl)) ?_
    refine det_ret (.int .i64 (Sig.pw 4 k : Nat)) (fun w4 _ => power_ret (a := 4) (by decide) (by omega) w4) ?_
    refine det_read _ (fun w4 x4 K => Ty.SSig_f0) ?_
    refine det_read (.int .i64 e) (fun w4 x4 K => load_cell Ty.int_agg (has_at (h w4 (x13.trans x4)) (d := 0) rfl rfl)) ?_
    refine det_read _ (fun w4 x4 K => bin_sub) ?_
    refine det_read (.int .i64 ((Sig.Q - e) % Sig.Q : Nat)) (fun w4 x4 K => by rw [bin_rem (by decide), qe_val g4]) ?_
    intro w4 x4 _
    refine callF_ret (power_ret g2 (qe_lt e) w4) ?_
    rintro _ w5 ⟨rfl, x5⟩
    have e1 := back_val (Sig.pw 4 k) (Sig.pw n ((Sig.Q - e) % Sig.Q)) (Sig.pw_lt _ _) (Sig.pw_lt _ _)
    rw [bin_mul, bin_rem (by decide), e1]
    have x15 := (x13.trans x4).trans x5
    refine draw_ext fun w6 x6 => ?_
    have x16 := x15.trans x6
    refine det_read (.agg (SSig.mk e k).cells.toArray) (fun w7 x7 K => SSig.g_all (h w7 (x16.trans x7))) ?_
    refine det_ret (.int .i64 (Sig.chal ((Sig.back n ⟨e, k⟩ : Nat) :: (n : Int) :: m) : Nat)) (fun w7 x7 => challenge_ret (a := (Sig.back n ⟨e, k⟩ : Nat)) (back_i64 _ _) (by unfold I64; omega) hm w7 (hv.ext ((x1.trans x16).trans x7)) (ht.ext ((x1.trans x16).trans x7))) ?_
    refine det_read _ (fun w7 x7 K => Ty.SSig_f1) ?_
    refine det_read (.int .i64 k) (fun w7 x7 K => load_cell Ty.int_agg (has_at (h w7 (x16.trans x7)) (d := 1) rfl rfl)) ?_
    refine det_read _ (fun w7 x7 K => build_i (new_sig _ _)) ?_
    intro w7 x7 _
    rw [SSig.eql]
    refine hR _ _ ⟨?_, (x1.trans x16).trans x7⟩
    rw [verV_ok h1 h2 h3]
    have e2 : decide ((⟨e, k⟩ : SSig) = ⟨(Sig.chal ((Sig.back n ⟨e, k⟩ : Nat) :: (n : Int) :: m) : Nat), k⟩) = decide ((Sig.chal ((Sig.back n ⟨e, k⟩ : Nat) :: (n : Int) :: m) : Int) = e) := by
      rw [decide_eq_decide, SSig.mk.injEq]
      exact ⟨fun h => h.1.symm, fun h => ⟨h.symm, rfl⟩⟩
    rw [e2]
  · refine join1 (fun q w' => Ext w1 w' ∧ q = .bool (!(Sig.member p && (Sig.inQ 0 s.e && Sig.inQ 0 s.s)))) ?_ fun K2 hK2 => ?_
    · rintro _ _ w2 hq ⟨x2, rfl⟩
      rw [hq]
      refine Br_i (fun hb => ?_) fun hb => ?_
      · rw [Bool.not_eq_true'] at hb
        exact hR _ _ ⟨by rw [verV_bad hb], x1.trans x2⟩
      · have hb : (Sig.member p && (Sig.inQ 0 s.e && Sig.inQ 0 s.s)) = true := by simpa using hb
        rw [Bool.and_eq_true, Bool.and_eq_true] at hb
        exact hK _ ⟨x2, hb⟩
    · refine callF_ret (Member_ret p w1) ?_
      rintro _ w2 ⟨rfl, x2⟩
      rw [un_not]
      refine Gd_i (fun hb => ?_) fun hb => ?_
      · have hb : Sig.member p = true := by simpa using hb
        rw [SSig.g_e (h w2 x2)]
        refine callF_same (within_ret s.e 0 w2) ?_
        rw [un_not]
        refine Gd_i (fun hb2 => ?_) fun hb2 => ?_
        · have hb2 : Sig.inQ 0 s.e = true := by simpa using hb2
          rw [SSig.g_s (h w2 x2)]
          refine callF_same (within_ret s.s 0 w2) ?_
          rw [un_not]
          exact hK2 _ _ ⟨x2, by rw [hb, hb2, Bool.true_and, Bool.true_and]⟩
        · have hb2 : Sig.inQ 0 s.e = false := by simpa using hb2
          exact hK2 _ _ ⟨x2, by rw [hb, hb2]; rfl⟩
      · have hb : Sig.member p = false := by simpa using hb
        exact hK2 _ _ ⟨x2, by rw [hb]; rfl⟩
theorem refVerify_ret {p : Int} {s : SSig} {v : Value} {m : List Int} (hm : (∀ n ∈ m, I64 n) ∧ m.length ≤ 900000) (w : World) (hv : Sl w 1 v m.length (iv m)) : Ret Tryd.prog 24 #[.int .i64 p, .agg s.cells.toArray, v] w (VerQ p s m w) := by
  refine ret_of (fun _ _ => sh_landfallref11_Verify_ok _ _ _) fun R hR => ?_
  unfold sh_landfallref11_Verify
  have hq : Sig.Q = 1073741789 := rfl
  have hP : Sig.P = 2147483579 := rfl
  refine box_i fun g w1 x1 hat hg _ => ?_
  have hat : At w1 g (.cells s.cells.toArray 23 (0, 0)) := hat
  refine callF_ret (refMember_ret p w1) ?_
  rintro _ w2 ⟨rfl, x2⟩
  have h : Has w2 g 0 s.cells := has_of_at (hat.ext x2)
  rw [SSig.g_e h]
  refine callF_same (Exponent_ret s.e w2) ?_
  rw [SSig.g_s h]
  refine callF_same (Exponent_ret s.s w2) ?_
  refine join0 (fun w' => w' = w2 ∧ Sig.member p = true ∧ Sig.inQ 0 s.e = true ∧ Sig.inQ 0 s.s = true) ?_ fun K hK => ?_
  · rintro _ w' ⟨hw, h1, h2, h3⟩
    subst w'
    obtain ⟨n, rfl, g1, g2, g3⟩ := Sig.member_nat h1
    refine drawR1 fun w3 x3 hs3 => ?_
    have hat3 := (hat.ext x2).ext x3
    have hh : ∀ w4, Mod (w3.heap.size ≤ ·) w3 w4 → Has w4 g 0 s.cells := fun w4 m4 => has_of_at (hat3.ext m4.new)
    refine det_r1 (.agg s.cells.toArray) (fun w4 m4 K => SSig.g_all (hh w4 m4)) ?_
    refine det_call1 (.int .i64 (Sig.back n s : Nat)) (fun w4 m4 => Back_ret g2 h2 h3 w4) ?_
    refine det_r1 _ (fun w4 m4 K => Ty.SSig_f0) ?_
    refine det_r1 (.int .i64 s.e) (fun w4 m4 K => load_cell Ty.int_agg (has_at (hh w4 m4) (d := 0) rfl rfl)) ?_
    refine thr_1 (fun vs _ => ∃ v1, vs = [v1, .int .i64 (Sig.chal ((Sig.back n s : Nat) :: (n : Int) :: m) : Nat)]) ?_ ?_
    · refine nd_last (fun v w4 => Sl w4 1 v ((Sig.back n s : Int) :: (n : Int) :: m).length (iv ((Sig.back n s : Int) :: (n : Int) :: m))) (fun v a b hs hx => hs.ext hx) (fun w4 m4 _ => ?_) fun v1 => ?_
      · refine callF_ret (after_ret (a := (Sig.back n s : Int)) (b := (n : Int)) ⟨hm.1, by omega⟩ w4 (hv.ext (((x1.trans x2).trans x3).trans m4.new))) ?_
        rintro v5 w5 ⟨x5, h5⟩
        exact ⟨.of_ext x5, h5⟩
      · refine nd_last (fun v _ => v = .int .i64 (Sig.chal ((Sig.back n s : Nat) :: (n : Int) :: m) : Nat)) (fun v a b hs hx => hs) (fun w4 m4 hsl => ?_) fun v2 => ?_
        · refine callF_ret (Challenge_ret (small_cons (back_i64 _ _) (by unfold I64; omega) hm) w4 hsl) ?_
          rintro _ w5 ⟨rfl, x5⟩
          exact ⟨.of_ext x5, rfl⟩
        · rintro w4 _ rfl
          exact ⟨v1, rfl⟩
    · rintro hh2 w4 m4 ⟨_, _, v1, e1⟩
      simp only [List.map_cons, List.map_nil, List.cons.injEq, and_true] at e1
      rw [e1.2, bin_eql]
      refine hR _ _ ⟨?_, ((x1.trans x2).trans x3).trans m4.new⟩
      rw [verV_ok h1 h2 h3]
  · refine join1 (fun q w' => w' = w2 ∧ q = .bool (!(Sig.member p && (Sig.inQ 0 s.e && Sig.inQ 0 s.s)))) ?_ fun K2 hK2 => ?_
    · rintro _ _ w' hq ⟨rfl, rfl⟩
      rw [hq]
      refine Br_i (fun hb => ?_) fun hb => ?_
      · rw [Bool.not_eq_true'] at hb
        exact hR _ _ ⟨by rw [verV_bad hb], x1.trans x2⟩
      · have hb : (Sig.member p && (Sig.inQ 0 s.e && Sig.inQ 0 s.s)) = true := by simpa using hb
        rw [Bool.and_eq_true, Bool.and_eq_true] at hb
        exact hK _ ⟨rfl, hb⟩
    · rw [un_not]
      refine Gd_i (fun hb => ?_) fun hb => ?_
      · have hb : Sig.member p = true := by simpa using hb
        rw [un_not]
        refine Gd_i (fun hb2 => ?_) fun hb2 => ?_
        · have hb2 : Sig.inQ 0 s.e = true := by simpa using hb2
          rw [un_not]
          exact hK2 _ _ ⟨rfl, by rw [hb, hb2, Bool.true_and, Bool.true_and]⟩
        · have hb2 : Sig.inQ 0 s.e = false := by simpa using hb2
          exact hK2 _ _ ⟨rfl, by rw [hb, hb2]; rfl⟩
      · have hb : Sig.member p = false := by simpa using hb
        exact hK2 _ _ ⟨rfl, by rw [hb]; rfl⟩
end Go.Proofs.YtjinhojlnaplaaaDoor
