/- The plain law of sign. No program in sight. -/
import Derived.Test.YtjinhojlnaplaaaDoorSigW2
namespace Go.Proofs.YtjinhojlnaplaaaDoor
set_option maxRecDepth 100000
set_option maxHeartbeats 2000000
namespace Sig
theorem pw_same {a x y : Nat} (h : pw a Q = 1) (e : x % Q = y % Q) : pw a x = pw a y := by
  rw [← pw_mod h x, ← pw_mod h y, e]
theorem member_pw {a : Nat} (h : pw a Q = 1) (x : Nat) : member (pw a x : Nat) = true := by
  have h1 := pw_pos h x
  have h2 := pw_lt a x
  have hP : P = 2147483579 := rfl
  simp only [member, Bool.and_eq_true, decide_eq_true_eq, Int.toNat_natCast]
  exact ⟨by omega, by omega, pw_elem h x⟩
theorem inQ_of {lo : Int} {n : Nat} (h1 : lo ≤ n) (h2 : n < Q) : inQ lo (n : Int) = true := by
  have hq : Q = 1073741789 := rfl
  simp only [inQ, Bool.and_eq_true, decide_eq_true_eq]; omega
theorem pubV_of {s : Nat} (h1 : 1 ≤ s) (h2 : s < Q) : pubV (s : Int) = (((pw 4 s : Nat) : Int), 0) := by
  unfold pubV
  rw [if_pos (inQ_of (by omega) h2)]; rfl
theorem expV_of {a x : Nat} (h1 : member (a : Int) = true) (h2 : x < Q) : expV (a : Int) (x : Int) = (((pw a x : Nat) : Int), 0) := by
  unfold expV
  rw [if_pos ⟨h1, inQ_of (by omega) h2⟩]; rfl
theorem signV_of {s o : Nat} {m : List Int} (h1 : 1 ≤ s) (h2 : s < Q) (h3 : 1 ≤ o) (h4 : o < Q) : signV (s : Int) (o : Int) m = (sigOf s o m, 0) := by
  unfold signV
  rw [if_pos ⟨inQ_of (by omega) h2, inQ_of (by omega) h4⟩]; rfl
theorem sigOf_e (s o : Nat) (m : List Int) : ∃ e : Nat, (sigOf s o m).e = (e : Int) ∧ e < Q ∧ e = chal ((pw 4 o : Nat) :: (pw 4 s : Nat) :: m) ∧ (sigOf s o m).s = (((o + e * s) % Q : Nat) : Int) := ⟨_, rfl, chal_lt _, rfl, rfl⟩
theorem sigOf_in (s o : Nat) (m : List Int) : inQ 0 (sigOf s o m).e = true ∧ inQ 0 (sigOf s o m).s = true := by
  obtain ⟨e, h1, h2, _, h3⟩ := sigOf_e s o m
  rw [h1, h3]
  exact ⟨inQ_of (by omega) h2, inQ_of (by omega) (Nat.mod_lt _ (by decide))⟩
theorem back_sig (s o : Nat) (m : List Int) : back (pw 4 s) (sigOf s o m) = pw 4 o := by
  obtain ⟨e, h1, h2, _, h3⟩ := sigOf_e s o m
  unfold back
  rw [h1, h3, Int.toNat_natCast, Int.toNat_natCast, pw_pw, pw_add]
  have h4 : ((o + e * s) % Q + s * ((Q - e) % Q)) % Q = (o + Q * s) % Q := by
    rw [Nat.add_mod, Nat.mod_mod, Nat.mul_mod s, Nat.mod_mod, ← Nat.mul_mod, ← Nat.add_mod, Nat.mul_comm s (Q - e), Nat.sub_mul]
    congr 1
    have : e * s ≤ Q * s := Nat.mul_le_mul_right s (by omega)
    omega
  rw [pw_same four_Q h4, pw_round four_Q]
/-- What was signed is right. -/
theorem sign_right (s o : Nat) (m : List Int) : verV ((pw 4 s : Nat) : Int) (sigOf s o m) m = (true, 0) := by
  obtain ⟨e, h1, h2, h3, _⟩ := sigOf_e s o m
  have hin := sigOf_in s o m
  unfold verV
  rw [if_pos ⟨member_pw four_Q s, hin⟩, Int.toNat_natCast, back_sig, h1, h3]
  simp
/-- Two signatures with one number show the secret. -/
theorem shows {s o e1 e2 : Nat} (hs : s < Q) (h1 : e1 < Q) (h2 : e2 < Q) (hne : e1 ≠ e2) :
    (((o + e1 * s) % Q + Q - (o + e2 * s) % Q) % Q * (((e1 + Q - e2) % Q) ^ (Q - 2) % Q)) % Q = s := by
  obtain ⟨d, hd⟩ : ∃ d, d = (e1 + Q - e2) % Q := ⟨_, rfl⟩
  have hq : Q = 1073741789 := rfl
  have hd0 : 0 < d := by rw [hd, hq]; rw [hq] at h1 h2; omega
  have hdq : d < Q := by rw [hd]; exact Nat.mod_lt _ (by decide)
  have key : ((o + e1 * s) % Q + Q - (o + e2 * s) % Q) % Q = d * s % Q := by
    have hA := Nat.mod_lt (o + e2 * s) (show 0 < Q by decide)
    have e3 : (d * s + (o + e2 * s)) % Q = (o + e1 * s) % Q := by
      have : d * s + (o + e2 * s) = o + (d + e2) * s := by rw [Nat.add_mul]; omega
      rw [this, Nat.add_mod, Nat.mul_mod]
      have h4 : (d + e2) % Q = e1 % Q := by rw [hd, hq]; rw [hq] at h1 h2; omega
      rw [h4, ← Nat.mul_mod, ← Nat.add_mod]
    have e4 : ((o + e1 * s) % Q + Q - (o + e2 * s) % Q + (o + e2 * s) % Q) % Q = (d * s % Q + (o + e2 * s) % Q) % Q := by
      rw [Nat.sub_add_cancel (by omega), Nat.add_mod_right, Nat.mod_mod, ← Nat.add_mod, e3]
    generalize (o + e2 * s) % Q = b at *
    generalize (o + e1 * s) % Q = c at *
    have hx := Nat.mod_lt (d * s) (show 0 < Q by decide)
    generalize d * s % Q = x at *
    rw [hq] at e4 hx hA ⊢
    omega
  rw [key, ← hd]
  have hi := inverse hd0 hdq
  rw [Nat.mul_mod (d * s % Q), Nat.mod_mod, ← Nat.mul_mod, Nat.mul_right_comm, Nat.mul_mod, hi, Nat.one_mul, Nat.mod_mod, Nat.mod_eq_of_lt hs]
theorem member_4 : member 4 = true := by
  have : member ((4 : Nat) : Int) = true := by
    simp only [member, Bool.and_eq_true, decide_eq_true_eq, Int.toNat_natCast]
    exact ⟨by decide, by decide, four_Q⟩
  exact this
theorem member_9 : member 9 = true := by
  have : member ((9 : Nat) : Int) = true := by
    simp only [member, Bool.and_eq_true, decide_eq_true_eq, Int.toNat_natCast]
    exact ⟨by decide, by decide, nine_Q⟩
  exact this
theorem member_2 : member 2 = false := by
  have : member ((2 : Nat) : Int) = false := by
    simp only [member, Int.toNat_natCast]
    rw [decide_eq_false two_Q, Bool.and_false, Bool.and_false]
  exact this
theorem member_0 : member 0 = false := rfl
end Sig
end Go.Proofs.YtjinhojlnaplaaaDoor
