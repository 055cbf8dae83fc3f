/- The walks of sign: powers, members, Exp, Public. -/
import Derived.Test.YtjinhojlnaplaaaDoorPow
import Derived.Test.YtjinhojlnaplaaaDoorNextW
import Derived.Test.YtjinhojlnaplaaaDoorDecW
import Derived.Test.YtjinhojlnaplaaaDoorStrS
import Derived.Test.YtjinhojlnaplaaaDoorDraw
namespace Go.Proofs.YtjinhojlnaplaaaDoor
set_option maxRecDepth 100000
set_option maxHeartbeats 2000000
open Sh Go.RowKit
theorem mul_small {a b n : Nat} (ha : a < n) (hb : b < n) (hn : n ≤ 2147483648) : a * b ≤ 4611686018427387904 := by
  have h : a * b ≤ 2147483648 * 2147483648 := Nat.mul_le_mul (by omega) (by omega)
  omega
/-- a product modulo a number, as the machine reckons it -/
theorem mul_mod_val {a b m : Nat} (ha : a < m) (hb : b < m) (hm : m ≤ 2147483648) : (IntKind.i64.wrap ((a : Int) * (b : Int))).tmod (m : Int) = ((a * b % m : Nat) : Int) := by
  have h := mul_small ha hb hm
  have e : (a : Int) * (b : Int) = ((a * b : Nat) : Int) := by simp
  rw [e, i64_wrap (by omega) (by omega), tmod_nat (by omega), Int.toNat_natCast]
theorem half_val (x : Nat) (hx : x < 2147483648) : IntKind.i64.wrap ((x : Int).tdiv 2) = ((x / 2 : Nat) : Int) := by
  have e : (x : Int).tdiv 2 = ((x / 2 : Nat) : Int) := rfl
  rw [e, i64_wrap (by omega) (by omega)]
theorem odd_val (x : Nat) : (x : Int).tmod 2 = ((x % 2 : Nat) : Int) := rfl
def PowAt (m : Nat) (a0 x0 o a x : Nat) : Prop := o < m ∧ a < m ∧ x < 2147483648 ∧ o * a ^ x % m = a0 ^ x0 % m
theorem PowAt.step {m a0 x0 o a x : Nat} (h : PowAt m a0 x0 o a x) : PowAt m a0 x0 (if x % 2 = 1 then o * a % m else o) (a * a % m) (x / 2) := by
  obtain ⟨h1, h2, h3, h4⟩ := h
  have hm : 0 < m := by omega
  exact ⟨by split; exact Nat.mod_lt _ hm; exact h1, Nat.mod_lt _ hm, by omega, by rw [Sig.step_pow]; exact h4⟩
theorem PowAt.done {m a0 x0 o a : Nat} (h : PowAt m a0 x0 o a 0) : o = a0 ^ x0 % m := by
  obtain ⟨h1, _, _, h4⟩ := h
  rw [Nat.pow_zero, Nat.mul_one, Nat.mod_eq_of_lt h1] at h4; exact h4
/-- The reference's Power. -/
theorem Power_ret {a x m : Nat} (ha : a < m) (hx : x < 2147483648) (hm1 : 1 < m) (hm : m ≤ 2147483648) (w : World) : Ret Tryd.prog 28 #[.int .i64 a, .int .i64 x, .int .i64 m] w fun r w' => r = .int .i64 ((a ^ x % m : Nat) : Int) ∧ w' = w := by
  refine ret_of (fun _ _ => sh_landfallref11_Power_ok _ _ _) fun R hR => ?_
  unfold sh_landfallref11_Power
  refine loop3 (fun p q r w1 => w1 = w ∧ ∃ a' x' o : Nat, p = .int .i64 a' ∧ q = .int .i64 x' ∧ r = .int .i64 o ∧ PowAt m a x o a' x') (fun _ q _ _ => (intOf q).toNat) ⟨rfl, a, x, 1, rfl, rfl, rfl, hm1, ha, hx, by rw [Nat.one_mul]⟩ ?_
  rintro h _ _ _ w1 hp hq hr ⟨rfl, a', x', o, rfl, rfl, rfl, hat⟩ K hK
  have hat' := hat
  obtain ⟨h1, h2, h3, h4⟩ := hat'
  rw [hp, hq, hr, bin_gtr]
  refine Br_i (fun hb => ?_) fun hb => ?_
  · have hx0 := dec_t hb
    refine join1 (fun r w2 => w2 = w1 ∧ r = .int .i64 ((if x' % 2 = 1 then o * a' % m else o : Nat) : Int)) ?_ fun K3 hK3 => ?_
    · rintro h8 _ w2 h8r ⟨rfl, rfl⟩
      rw [h8r, bin_mul, bin_rem (by omega), mul_mod_val h2 h2 hm, bin_quo (by decide), half_val x' h3]
      exact hK _ _ _ _ ⟨rfl, _, _, _, rfl, rfl, rfl, hat.step⟩ (by simp [intOf]; omega)
    · rw [bin_rem (by decide), odd_val, bin_eql]
      refine Br_i (fun hb => ?_) fun hb => ?_
      · have ho : x' % 2 = 1 := by have := dec_t hb; omega
        rw [bin_mul, bin_rem (by omega), mul_mod_val h1 h2 hm]
        exact hK3 _ _ ⟨rfl, by rw [if_pos ho]⟩
      · have ho : ¬ x' % 2 = 1 := by have := dec_f hb; omega
        exact hK3 _ _ ⟨rfl, by rw [if_neg ho]⟩
  · have hx0 := dec_f hb
    have : x' = 0 := by omega
    subst this
    exact hR _ _ ⟨by rw [hat.done], rfl⟩
theorem go33 : goes Tryd.prog 76 = true := by kernel_rfl
/-- n is multiplied, in place. -/
theorem times_ret {b n by_ : Nat} {e : TypeId} (hn : n < Sig.P) (hby : by_ < Sig.P) (w : World) (hb : At w b (.cells #[.int .i64 n] e (0, 0))) : Ret Tryd.prog 76 #[.pointer (some ⟨b, 0, none⟩), .int .i64 by_] w fun r w' => r = .tuple #[] ∧ Mod (· = b) w w' ∧ w'.heap.size = w.heap.size ∧ At w' b (.cells #[.int .i64 ((n * by_ % Sig.P : Nat) : Int)] e (0, 0)) := by
  refine ret_of (fun _ _ => sh_sign_power_1_ok _ _) fun R hR => ?_
  unfold sh_sign_power_1
  have e1 := mul_mod_val (m := 2147483579) (show n < 2147483579 from hn) (show by_ < 2147483579 from hby) (by decide)
  rw [nil_ptr, load_e (u := .int .i64 n) Ty.int_agg hb rfl, bin_mul, bin_rem (by decide), show (2147483579 : Int) = ((2147483579 : Nat) : Int) from rfl, e1, nil_ptr]
  refine store_i Ty.int_size hb (by simp) rfl fun w1 m1 h1 s1 => ?_
  exact hR _ _ ⟨rfl, m1, s1, h1⟩
theorem Ty.int_zero (w : World) : (zeroValue 3).run Tryd.prog w = .ok (.int .i64 0) w := by kernel_rfl
/-- sign's power -/
theorem power_ret {a x : Nat} (ha : a < Sig.P) (hx : x < 2147483648) (w : World) : Ret Tryd.prog 50 #[.int .i64 a, .int .i64 x] w fun r w' => r = .int .i64 (Sig.pw a x : Int) ∧ Ext w w' := by
  refine ret_of (fun _ _ => sh_sign_power_ok _ _) fun R hR => ?_
  unfold sh_sign_power
  refine box_i fun ba w1 x1 hba hba0 hs1 => ?_
  refine alloc_i Ty.int_zero fun bo w2 x2 hbo hbo0 hs2 => ?_
  refine store_i Ty.int_size hbo (by simp [Value.cells]) rfl fun w3 m3 hbo3 s3 => ?_
  have z1 := x1.size
  have z2 := x2.size
  have hne : ba ≠ bo := by omega
  have hba3 := (hba.ext x2).mod m3 (by omega)
  have hm3 : Mod (w.heap.size ≤ ·) w w3 := (Mod.of_ext (x1.trans x2) : Mod (w.heap.size ≤ ·) w w2).trans (m3.mono fun k _ h => by omega)
  refine loop1 (fun q w4 => ∃ a' x' o : Nat, q = .int .i64 x' ∧ At w4 ba (.cells #[.int .i64 a'] 3 (0, 0)) ∧ At w4 bo (.cells #[.int .i64 o] 3 (0, 0)) ∧ PowAt Sig.P a x o a' x' ∧ Mod (w.heap.size ≤ ·) w w4) (fun q _ => (intOf q).toNat) ⟨a, x, 1, rfl, hba3, hbo3, ⟨by decide, ha, hx, by rw [Nat.one_mul]⟩, hm3⟩ ?_
  rintro h _ w4 hq ⟨a', x', o, rfl, h4a, h4o, hat, hm4⟩ K hK
  have hat' := hat
  obtain ⟨q1, q2, q3, q4⟩ := hat'
  rw [hq, bin_gtr]
  refine Br_i (fun hb => ?_) fun hb => ?_
  · have hx0 := dec_t hb
    refine join0 (fun w5 => At w5 ba (.cells #[.int .i64 ((a' * a' % Sig.P : Nat) : Int)] 3 (0, 0)) ∧ At w5 bo (.cells #[.int .i64 ((if x' % 2 = 1 then o * a' % Sig.P else o : Nat) : Int)] 3 (0, 0)) ∧ Mod (w.heap.size ≤ ·) w w5) ?_ fun K6 hK6 => ?_
    · rintro h6 w5 ⟨g1, g2, g3⟩
      rw [bin_quo (by decide), half_val x' q3]
      exact hK _ _ ⟨_, _, _, rfl, g1, g2, hat.step, g3⟩ (by simp [intOf]; omega)
    · refine join0 (fun w5 => At w5 ba (.cells #[.int .i64 a'] 3 (0, 0)) ∧ At w5 bo (.cells #[.int .i64 ((if x' % 2 = 1 then o * a' % Sig.P else o : Nat) : Int)] 3 (0, 0)) ∧ Mod (w.heap.size ≤ ·) w w5) ?_ fun K7 hK7 => ?_
      · rintro h7 w5 ⟨g1, g2, g3⟩
        rw [load_e (u := .int .i64 a') Ty.int_agg g1 rfl, callV_func go33]
        refine callF_ret (times_ret q2 q2 w5 g1) ?_
        rintro _ w6 ⟨rfl, m6, s6, h6⟩
        exact hK6 _ ⟨h6, g2.mod m6 (fun e => hne e.symm), g3.trans (m6.mono fun k _ h => by omega)⟩
      · rw [bin_rem (by decide), odd_val, bin_eql]
        refine Br_i (fun hb => ?_) fun hb => ?_
        · have ho : x' % 2 = 1 := by have := dec_t hb; omega
          rw [load_e (u := .int .i64 a') Ty.int_agg h4a rfl, callV_func go33]
          refine callF_ret (times_ret q1 q2 w4 h4o) ?_
          rintro _ w6 ⟨rfl, m6, s6, h6⟩
          exact hK7 _ ⟨h4a.mod m6 hne, by rw [if_pos ho]; exact h6, hm4.trans (m6.mono fun k _ h => by omega)⟩
        · have ho : ¬ x' % 2 = 1 := by have := dec_f hb; omega
          exact hK7 _ ⟨h4a, by rw [if_neg ho]; exact h4o, hm4⟩
  · have hx0 := dec_f hb
    have : x' = 0 := by omega
    subst this
    rw [load_e (u := .int .i64 o) Ty.int_agg h4o rfl]
    exact hR _ _ ⟨by rw [hat.done]; rfl, hm4.new⟩
end Go.Proofs.YtjinhojlnaplaaaDoor
