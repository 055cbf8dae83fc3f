/- The walks of sign: members, Exp, Public, challenges, Sign, Verify; and of the reference's. -/
import Derived.Test.YtjinhojlnaplaaaDoorSigW1
namespace Go.Proofs.YtjinhojlnaplaaaDoor
set_option maxRecDepth 100000
set_option maxHeartbeats 2000000
open Sh Go.RowKit
namespace Sig
def member (a : Int) : Bool := decide (1 ≤ a) && (decide (a < 2147483579) && decide (pw a.toNat Q = 1))
def inQ (lo n : Int) : Bool := decide (lo ≤ n) && decide (n < 1073741789)
def expV (a x : Int) : Int × Int := if member a = true ∧ inQ 0 x = true then (((pw a.toNat x.toNat : Nat) : Int), 0) else (0, 1)
def pubV (s : Int) : Int × Int := if inQ 1 s = true then (((pw 4 s.toNat : Nat) : Int), 0) else (0, 1)
def chal (l : List Int) : Nat := (Dig.sum l).toNat % Q
def sigOf (s o : Nat) (m : List Int) : SSig := ⟨(chal ((pw 4 o : Nat) :: (pw 4 s : Nat) :: m) : Nat), ((o + chal ((pw 4 o : Nat) :: (pw 4 s : Nat) :: m) * s) % Q : Nat)⟩
def signV (s o : Int) (m : List Int) : SSig × Int := if inQ 1 s = true ∧ inQ 1 o = true then (sigOf s.toNat o.toNat m, 0) else (SSig.zero, 1)
def back (p : Nat) (s : SSig) : Nat := pw 4 s.s.toNat * pw p ((Q - s.e.toNat) % Q) % P
def verV (p : Int) (s : SSig) (m : List Int) : Bool × Int := if member p = true ∧ inQ 0 s.e = true ∧ inQ 0 s.s = true then (decide ((chal ((back p.toNat s : Nat) :: p :: m) : Int) = s.e), 0) else (false, 1)
theorem member_nat {a : Int} (h : member a = true) : ∃ n : Nat, a = n ∧ 1 ≤ n ∧ n < P ∧ pw n Q = 1 := by
  simp only [member, Bool.and_eq_true, decide_eq_true_eq] at h
  obtain ⟨h1, h2, h3⟩ := h
  exact ⟨a.toNat, by omega, by omega, by unfold P; omega, h3⟩
theorem inQ_nat {lo n : Int} (h : inQ lo n = true) (h0 : 0 ≤ lo) : ∃ k : Nat, n = k ∧ lo ≤ k ∧ k < Q := by
  simp only [inQ, Bool.and_eq_true, decide_eq_true_eq] at h
  exact ⟨n.toNat, by omega, by omega, by unfold Q; omega⟩
theorem chal_lt (l : List Int) : chal l < Q := Nat.mod_lt _ (by decide)
end Sig
theorem dec_cast (k : Nat) : decide ((k : Int) = 1) = decide (k = 1) := by rw [decide_eq_decide]; omega
theorem within_ret (n lo : Int) (w : World) : Ret Tryd.prog 51 #[.int .i64 n, .int .i64 lo] w fun r w' => r = .bool (Sig.inQ lo n) ∧ w' = w := by
  refine ret_of (fun _ _ => sh_sign_within_ok _ _) fun R hR => ?_
  unfold sh_sign_within
  rw [bin_leq]
  refine Gd_i (fun hb => ?_) fun hb => ?_
  · rw [bin_lss]; exact hR _ _ ⟨by unfold Sig.inQ; rw [hb]; rfl, rfl⟩
  · exact hR _ _ ⟨by unfold Sig.inQ; rw [hb]; rfl, rfl⟩
theorem Exponent_ret (n : Int) (w : World) : Ret Tryd.prog 52 #[.int .i64 n] w fun r w' => r = .bool (Sig.inQ 0 n) ∧ w' = w := by
  refine ret_of (fun _ _ => sh_landfallref11_Exponent_ok _) fun R hR => ?_
  unfold sh_landfallref11_Exponent
  rw [bin_geq]
  refine Gd_i (fun hb => ?_) fun hb => ?_
  · rw [bin_lss]; exact hR _ _ ⟨by unfold Sig.inQ; rw [hb]; rfl, rfl⟩
  · exact hR _ _ ⟨by unfold Sig.inQ; rw [hb]; rfl, rfl⟩
theorem Secret_ret (n : Int) (w : World) : Ret Tryd.prog 53 #[.int .i64 n] w fun r w' => r = .bool (Sig.inQ 1 n) ∧ w' = w := by
  refine ret_of (fun _ _ => sh_landfallref11_Secret_ok _) fun R hR => ?_
  unfold sh_landfallref11_Secret
  rw [bin_geq]
  refine Gd_i (fun hb => ?_) fun hb => ?_
  · rw [bin_lss]; exact hR _ _ ⟨by unfold Sig.inQ; rw [hb]; rfl, rfl⟩
  · exact hR _ _ ⟨by unfold Sig.inQ; rw [hb]; rfl, rfl⟩
theorem Member_ret (a : Int) (w : World) : Ret Tryd.prog 15 #[.int .i64 a] w fun r w' => r = .bool (Sig.member a) ∧ Ext w w' := by
  refine ret_of (fun _ _ => sh_sign_Member_ok _) fun R hR => ?_
  unfold sh_sign_Member
  rw [bin_geq]
  refine Gd_i (fun hb => ?_) fun hb => ?_
  · have h1 := dec_t hb
    rw [bin_lss]
    refine Gd_i (fun hb2 => ?_) fun hb2 => ?_
    · have h2 := dec_t hb2
      obtain ⟨n, rfl⟩ : ∃ n : Nat, a = n := ⟨a.toNat, by omega⟩
      refine callF_ret (power_ret (a := n) (x := Sig.Q) (by unfold Sig.P; omega) (by decide) w) ?_
      rintro _ w1 ⟨rfl, x1⟩
      rw [bin_eql]
      refine hR _ _ ⟨?_, x1⟩
      unfold Sig.member
      rw [hb, hb2, Bool.true_and, Bool.true_and, Int.toNat_natCast]
      exact congrArg Value.bool (dec_cast (Sig.pw n Sig.Q))
    · exact hR _ _ ⟨by unfold Sig.member; rw [hb, hb2]; rfl, Ext.refl _⟩
  · exact hR _ _ ⟨by unfold Sig.member; rw [hb]; rfl, Ext.refl _⟩
theorem refMember_ret (a : Int) (w : World) : Ret Tryd.prog 16 #[.int .i64 a] w fun r w' => r = .bool (Sig.member a) ∧ Ext w w' := by
  refine ret_of (fun _ _ => sh_landfallref11_Member_ok _) fun R hR => ?_
  unfold sh_landfallref11_Member
  rw [bin_geq]
  refine Gd_i (fun hb => ?_) fun hb => ?_
  · have h1 := dec_t hb
    rw [bin_lss]
    refine Gd_i (fun hb2 => ?_) fun hb2 => ?_
    · have h2 := dec_t hb2
      obtain ⟨n, rfl⟩ : ∃ n : Nat, a = n := ⟨a.toNat, by omega⟩
      refine callF_same (Power_ret (a := n) (x := Sig.Q) (m := Sig.P) (by unfold Sig.P; omega) (by decide) (by decide) (by decide) w) ?_
      rw [bin_eql]
      refine hR _ _ ⟨?_, Ext.refl _⟩
      unfold Sig.member
      rw [hb, hb2, Bool.true_and, Bool.true_and, Int.toNat_natCast]
      exact congrArg Value.bool (dec_cast (Sig.pw n Sig.Q))
    · exact hR _ _ ⟨by unfold Sig.member; rw [hb, hb2]; rfl, Ext.refl _⟩
  · exact hR _ _ ⟨by unfold Sig.member; rw [hb]; rfl, Ext.refl _⟩
theorem Exp_ret (a x : Int) (w : World) : Ret Tryd.prog 17 #[.int .i64 a, .int .i64 x] w fun r w' => r = .tuple #[.int .i64 (Sig.expV a x).1, .int .i64 (Sig.expV a x).2] ∧ Ext w w' := by
  refine ret_of (fun _ _ => sh_sign_Exp_ok _ _) fun R hR => ?_
  unfold sh_sign_Exp
  refine join0 (fun w' => Ext w w' ∧ Sig.member a = true ∧ Sig.inQ 0 x = true) ?_ fun K hK => ?_
  · rintro _ w1 ⟨x1, hm, hx⟩
    obtain ⟨n, rfl, h1, h2, h3⟩ := Sig.member_nat hm
    obtain ⟨k, rfl, h4, h5⟩ := Sig.inQ_nat hx (by decide)
    refine callF_ret (power_ret h2 (by unfold Sig.Q at h5; omega) w1) ?_
    rintro _ w2 ⟨rfl, x2⟩
    have e : Sig.expV n k = (((Sig.pw n k : Nat) : Int), 0) := by unfold Sig.expV; rw [if_pos ⟨hm, hx⟩]; rfl
    exact hR _ _ ⟨by rw [e], x1.trans x2⟩
  · refine join1 (fun q w' => Ext w w' ∧ q = .bool (!(Sig.member a && Sig.inQ 0 x))) ?_ fun K2 hK2 => ?_
    · rintro _ _ w1 hq ⟨x1, rfl⟩
      rw [hq]
      refine Br_i (fun hb => ?_) fun hb => ?_
      · have e : Sig.expV a x = (0, 1) := by
          unfold Sig.expV
          rw [if_neg]
          rintro ⟨h1, h2⟩
          rw [h1, h2] at hb; cases hb
        exact hR _ _ ⟨by rw [e], x1⟩
      · have hb : (Sig.member a && Sig.inQ 0 x) = true := by simpa using hb
        rw [Bool.and_eq_true] at hb
        exact hK _ ⟨x1, hb⟩
    · refine callF_ret (Member_ret a w) ?_
      rintro _ w1 ⟨rfl, x1⟩
      rw [un_not]
      refine Gd_i (fun hb => ?_) fun hb => ?_
      · have hb : Sig.member a = true := by simpa using hb
        refine callF_same (within_ret x 0 w1) ?_
        rw [un_not]
        exact hK2 _ _ ⟨x1, by rw [hb, Bool.true_and]⟩
      · have hb : Sig.member a = false := by simpa using hb
        exact hK2 _ _ ⟨x1, by rw [hb]; rfl⟩
theorem refExp_ret (a x : Int) (w : World) : Ret Tryd.prog 18 #[.int .i64 a, .int .i64 x] w fun r w' => r = .tuple #[.int .i64 (Sig.expV a x).1, .int .i64 (Sig.expV a x).2] ∧ Ext w w' := by
  refine ret_of (fun _ _ => sh_landfallref11_Exp_ok _ _) fun R hR => ?_
  unfold sh_landfallref11_Exp
  refine callF_ret (refMember_ret a w) ?_
  rintro _ w1 ⟨rfl, x1⟩
  refine callF_same (Exponent_ret x w1) ?_
  refine join0 (fun w' => w' = w1 ∧ Sig.member a = true ∧ Sig.inQ 0 x = true) ?_ fun K hK => ?_
  · rintro _ w2 ⟨rfl, hm, hx⟩
    obtain ⟨n, rfl, h1, h2, h3⟩ := Sig.member_nat hm
    obtain ⟨k, rfl, h4, h5⟩ := Sig.inQ_nat hx (by decide)
    refine callF_same (Power_ret (m := 2147483579) h2 (by unfold Sig.Q at h5; omega) (by decide) (by decide) w2) ?_
    have e : Sig.expV n k = (((Sig.pw n k : Nat) : Int), 0) := by unfold Sig.expV; rw [if_pos ⟨hm, hx⟩]; rfl
    exact hR _ _ ⟨by rw [e]; rfl, x1⟩
  · refine join1 (fun q w' => w' = w1 ∧ q = .bool (!(Sig.member a && Sig.inQ 0 x))) ?_ fun K2 hK2 => ?_
    · rintro _ _ w2 hq ⟨rfl, rfl⟩
      rw [hq]
      refine Br_i (fun hb => ?_) fun hb => ?_
      · have e : Sig.expV a x = (0, 1) := by
          unfold Sig.expV
          rw [if_neg]
          rintro ⟨h1, h2⟩
          rw [h1, h2] at hb; cases hb
        exact hR _ _ ⟨by rw [e], x1⟩
      · have hb : (Sig.member a && Sig.inQ 0 x) = true := by simpa using hb
        rw [Bool.and_eq_true] at hb
        exact hK _ ⟨rfl, hb⟩
    · rw [un_not]
      refine Gd_i (fun hb => ?_) fun hb => ?_
      · have hb : Sig.member a = true := by simpa using hb
        rw [un_not]
        exact hK2 _ _ ⟨rfl, by rw [hb, Bool.true_and]⟩
      · have hb : Sig.member a = false := by simpa using hb
        exact hK2 _ _ ⟨rfl, by rw [hb]; rfl⟩
theorem Public_ret (s : Int) (w : World) : Ret Tryd.prog 19 #[.int .i64 s] w fun r w' => r = .tuple #[.int .i64 (Sig.pubV s).1, .int .i64 (Sig.pubV s).2] ∧ Ext w w' := by
  refine ret_of (fun _ _ => sh_sign_Public_ok _) fun R hR => ?_
  unfold sh_sign_Public
  refine callF_same (within_ret s 1 w) ?_
  rw [un_not]
  refine Br_i (fun hb => ?_) fun hb => ?_
  · have hb : Sig.inQ 1 s = false := by simpa using hb
    have e : Sig.pubV s = (0, 1) := by unfold Sig.pubV; rw [if_neg (by rw [hb]; decide)]
    exact hR _ _ ⟨by rw [e], Ext.refl _⟩
  · have hb : Sig.inQ 1 s = true := by simpa using hb
    obtain ⟨k, rfl, h4, h5⟩ := Sig.inQ_nat hb (by decide)
    refine callF_ret (power_ret (a := 4) (by decide) (by unfold Sig.Q at h5; omega) w) ?_
    rintro _ w2 ⟨rfl, x2⟩
    have e : Sig.pubV k = (((Sig.pw 4 k : Nat) : Int), 0) := by unfold Sig.pubV; rw [if_pos hb]; rfl
    exact hR _ _ ⟨by rw [e], x2⟩
theorem refPublic_ret (s : Int) (w : World) : Ret Tryd.prog 20 #[.int .i64 s] w fun r w' => r = .tuple #[.int .i64 (Sig.pubV s).1, .int .i64 (Sig.pubV s).2] ∧ Ext w w' := by
  refine ret_of (fun _ _ => sh_landfallref11_Public_ok _) fun R hR => ?_
  unfold sh_landfallref11_Public
  refine callF_same (Secret_ret s w) ?_
  rw [un_not]
  refine Br_i (fun hb => ?_) fun hb => ?_
  · have hb : Sig.inQ 1 s = false := by simpa using hb
    have e : Sig.pubV s = (0, 1) := by unfold Sig.pubV; rw [if_neg (by rw [hb]; decide)]
    exact hR _ _ ⟨by rw [e], Ext.refl _⟩
  · have hb : Sig.inQ 1 s = true := by simpa using hb
    obtain ⟨k, rfl, h4, h5⟩ := Sig.inQ_nat hb (by decide)
    refine callF_same (Power_ret (a := 4) (m := 2147483579) (by decide) (by unfold Sig.Q at h5; omega) (by decide) (by decide) w) ?_
    have e : Sig.pubV k = (((Sig.pw 4 k : Nat) : Int), 0) := by unfold Sig.pubV; rw [if_pos hb]; rfl
    exact hR _ _ ⟨by rw [e]; rfl, Ext.refl _⟩
/-- secret: a number from 1 on. -/
theorem secret_ret (z : BitVec 64) (w : World) : Ret Tryd.prog 25 #[u64v z] w fun r w' => r = .int .i64 ((z.toNat % 1073741788 + 1 : Nat) : Int) ∧ w' = w := by
  refine ret_of (fun _ _ => sh_landfalllaw11_secret_ok _) fun R hR => ?_
  unfold sh_landfalllaw11_secret
  have e : (z.toNat : Int).tmod 1073741788 = ((z.toNat % 1073741788 : Nat) : Int) := rfl
  rw [u64v, bin_rem (by decide), e, conv_int Ty.u64 Ty.int, i64_wrap (by omega) (by omega), bin_add, i64_wrap (by omega) (by omega)]
  exact hR _ _ ⟨by congr 1; omega, rfl⟩
end Go.Proofs.YtjinhojlnaplaaaDoor
