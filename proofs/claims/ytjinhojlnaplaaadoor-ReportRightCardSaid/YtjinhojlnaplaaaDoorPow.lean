/- The plain law of powers modulo a number: reckoned by squares; Euler for the prime order; what the order says of exponents. No program in sight. -/
namespace Go.Proofs.YtjinhojlnaplaaaDoor
set_option maxRecDepth 100000
namespace Sig
def P : Nat := 2147483579
def Q : Nat := 1073741789
def pw (a x : Nat) : Nat := a ^ x % P
/-- By squares. -/
def fp (m : Nat) : Nat → Nat → Nat → Nat → Nat
  | 0, o, _, _ => o
  | f + 1, o, a, x => if x = 0 then o else fp m f (if x % 2 = 1 then o * a % m else o) (a * a % m) (x / 2)
theorem pow_half (a x : Nat) : a ^ x = a ^ (x % 2) * (a * a) ^ (x / 2) := by
  have h := Nat.mod_add_div x 2
  conv => lhs; rw [← h]
  rw [Nat.pow_add, Nat.pow_mul, Nat.pow_two]
theorem step_pow (m o a x : Nat) : ((if x % 2 = 1 then o * a % m else o) * (a * a % m) ^ (x / 2)) % m = (o * a ^ x) % m := by
  have e1 : ∀ c k : Nat, (c * (a * a % m) ^ k) % m = (c * (a * a) ^ k) % m := fun c k => by
    rw [Nat.mul_mod, ← Nat.pow_mod, ← Nat.mul_mod]
  rw [e1, pow_half a x]
  by_cases h : x % 2 = 1
  · rw [if_pos h, h, Nat.pow_one, ← Nat.mul_assoc, Nat.mul_mod, Nat.mod_mod, ← Nat.mul_mod]
  · rw [if_neg h, show x % 2 = 0 by omega, Nat.pow_zero, Nat.one_mul]
theorem fp_eq (m : Nat) : ∀ (f o a x : Nat), x < 2 ^ f → o < m → fp m f o a x = o * a ^ x % m
  | 0, o, a, x, hx, ho => by
    have : x = 0 := by simpa using hx
    subst this
    rw [fp, Nat.pow_zero, Nat.mul_one, Nat.mod_eq_of_lt ho]
  | f + 1, o, a, x, hx, ho => by
    rw [fp]
    by_cases h : x = 0
    · subst h; rw [if_pos rfl, Nat.pow_zero, Nat.mul_one, Nat.mod_eq_of_lt ho]
    · have hm : 0 < m := by omega
      rw [if_neg h, fp_eq m f _ _ _ (by rw [Nat.pow_succ] at hx; omega) (by split; exact Nat.mod_lt _ hm; exact ho), step_pow]
theorem pw_fp {a x : Nat} (hx : x < 2147483648) : pw a x = fp P 31 1 a x := by
  rw [fp_eq P 31 1 a x hx (by decide), Nat.one_mul]; rfl
theorem four_Q : pw 4 Q = 1 := by rw [pw_fp (by decide)]; decide +kernel
theorem nine_Q : pw 9 Q = 1 := by rw [pw_fp (by decide)]; decide +kernel
theorem two_Q : pw 2 Q ≠ 1 := by rw [pw_fp (by decide)]; decide +kernel
theorem pw_lt (a x : Nat) : pw a x < P := Nat.mod_lt _ (by decide)
theorem pw_pw (a x y : Nat) : pw (pw a x) y = pw a (x * y) := by
  unfold pw; rw [← Nat.pow_mod, Nat.pow_mul]
theorem pw_add (a x y : Nat) : pw a x * pw a y % P = pw a (x + y) := by
  unfold pw; rw [← Nat.mul_mod, Nat.pow_add]
theorem pw_one (y : Nat) : pw 1 y = 1 := by unfold pw; rw [Nat.one_pow]; rfl
theorem pw_zero (a : Nat) : pw a 0 = 1 := rfl
/-- An element's powers go round. -/
theorem pw_round {a : Nat} (h : pw a Q = 1) (x y : Nat) : pw a (x + Q * y) = pw a x := by
  rw [← pw_add, ← pw_pw, h, pw_one, Nat.mul_one]
  exact Nat.mod_eq_of_lt (pw_lt _ _)
theorem pw_mod {a : Nat} (h : pw a Q = 1) (x : Nat) : pw a (x % Q) = pw a x := by
  conv => rhs; rw [← Nat.mod_add_div x Q]
  rw [pw_round h]
theorem pw_elem {a : Nat} (h : pw a Q = 1) (x : Nat) : pw (pw a x) Q = 1 := by rw [pw_pw, Nat.mul_comm, ← pw_pw, h, pw_one]
theorem pw_pos {a : Nat} (h : pw a Q = 1) (x : Nat) : 1 ≤ pw a x := by
  refine Nat.pos_of_ne_zero fun h0 => ?_
  have := pw_elem h x
  rw [h0] at this
  have e : pw 0 Q = 0 := by unfold pw; rw [Nat.zero_pow (by decide)]; rfl
  rw [e] at this; cases this
/-! ### Q is a prime number -/
def noDiv (n : Nat) : Nat → Nat → Bool
  | 0, _ => true
  | f + 1, d => (n % d != 0) && noDiv n f (d + 1)
theorem noDiv_spec (n : Nat) : ∀ (f d : Nat), noDiv n f d = true → ∀ k, d ≤ k → k < d + f → n % k ≠ 0
  | 0, d, _, k, h1, h2 => by omega
  | f + 1, d, h, k, h1, h2 => by
    simp only [noDiv, Bool.and_eq_true, bne_iff_ne, ne_eq] at h
    by_cases hk : k = d
    · subst hk; exact h.1
    · exact noDiv_spec n f (d + 1) h.2 k (by omega) (by omega)
theorem Q_noDiv : noDiv Q 32767 2 = true := by decide +kernel
theorem Q_prime {d : Nat} (h : Q % d = 0) : d = 1 ∨ d = Q := by
  have hd0 : 0 < d := by
    refine Nat.pos_of_ne_zero fun e => ?_
    subst e
    rw [Nat.mod_zero] at h; exact absurd h (by decide)
  obtain ⟨c, hc⟩ := Nat.dvd_of_mod_eq_zero h
  have hle : d ≤ Q := Nat.le_of_dvd (by decide) ⟨c, hc⟩
  by_cases h1 : d = 1
  · exact .inl h1
  · by_cases h2 : d < 32769
    · exact absurd h (noDiv_spec Q 32767 2 Q_noDiv d (by omega) (by omega))
    · right
      have hc0 : 0 < c := Nat.pos_of_ne_zero fun e => by subst e; rw [Nat.mul_zero] at hc; exact absurd hc (by decide)
      by_cases hc1 : c = 1
      · subst hc1; rw [hc, Nat.mul_one]
      · exfalso
        have hcl : c < 32769 := by
          refine Nat.lt_of_not_le fun hge => ?_
          have : 32769 * 32769 ≤ d * c := Nat.mul_le_mul (by omega) hge
          rw [← hc] at this
          exact absurd this (by decide)
        have : Q % c = 0 := by rw [hc]; exact Nat.mul_mod_left d c
        exact absurd this (noDiv_spec Q 32767 2 Q_noDiv c (by omega) (by omega))
theorem Q_coprime {n : Nat} (h0 : 0 < n) (hn : n < Q) : Nat.gcd n Q = 1 := by
  have hd : Q % Nat.gcd n Q = 0 := Nat.mod_eq_zero_of_dvd (Nat.gcd_dvd_right n Q)
  rcases Q_prime hd with h | h
  · exact h
  · have := Nat.le_of_dvd h0 (Nat.gcd_dvd_left n Q)
    omega
/-- Exponents with which an element is 1. -/
theorem pw_gcd {a : Nat} : ∀ (x y : Nat), pw a x = 1 → pw a y = 1 → pw a (Nat.gcd x y) = 1 := by
  intro x
  induction x using Nat.strongRecOn with
  | _ x ih =>
    intro y hx hy
    by_cases h0 : x = 0
    · subst h0; rw [Nat.gcd_zero_left]; exact hy
    · rw [Nat.gcd_rec]
      refine ih (y % x) (Nat.mod_lt _ (by omega)) x ?_ hx
      have e : pw a y = pw a (y % x) := by
        conv => lhs; rw [← Nat.mod_add_div y x]
        rw [← pw_add, ← pw_pw, hx, pw_one, Nat.mul_one]
        exact Nat.mod_eq_of_lt (pw_lt _ _)
      rw [← e]; exact hy
theorem four_inj {s t : Nat} (hs : s < Q) (ht : t < Q) (h : pw 4 s = pw 4 t) : s = t := by
  have key : ∀ s t : Nat, s < t → t < Q → pw 4 s = pw 4 t → False := fun s t hst ht h => by
    have h1 : pw 4 (t - s) = 1 := by
      have e1 : pw 4 t * pw 4 (Q - s) % P = pw 4 (t - s) := by
        rw [pw_add, show t + (Q - s) = (t - s) + Q * 1 by omega, pw_round four_Q]
      have e2 : pw 4 s * pw 4 (Q - s) % P = 1 := by
        rw [pw_add, show s + (Q - s) = Q by omega, four_Q]
      rw [← e1, ← h, e2]
    have h2 := pw_gcd (t - s) Q h1 four_Q
    rw [Q_coprime (by omega) (by omega)] at h2
    exact absurd h2 (by decide)
  rcases Nat.lt_trichotomy s t with hh | hh | hh
  · exact (key s t hh ht h).elim
  · exact hh
  · exact (key t s hh hs h.symm).elim
/-! ### Fermat, by binomials -/
def ch : Nat → Nat → Nat
  | _, 0 => 1
  | 0, _ + 1 => 0
  | n + 1, k + 1 => ch n k + ch n (k + 1)
theorem ch_gt : ∀ (n k : Nat), n < k → ch n k = 0
  | 0, k + 1, _ => rfl
  | n + 1, k + 1, h => by rw [ch, ch_gt n k (by omega), ch_gt n (k + 1) (by omega)]
theorem ch_self : ∀ n : Nat, ch n n = 1
  | 0 => rfl
  | n + 1 => by rw [ch, ch_self n, ch_gt n (n + 1) (by omega)]
theorem ch_zero (n : Nat) : ch n 0 = 1 := by cases n <;> rfl
theorem ch_mul : ∀ (n k : Nat), (k + 1) * ch (n + 1) (k + 1) = (n + 1) * ch n k
  | 0, 0 => rfl
  | 0, k + 1 => by rw [ch_gt 1 (k + 2) (by omega), ch_gt 0 (k + 1) (by omega), Nat.mul_zero, Nat.mul_zero]
  | n + 1, 0 => by
    have h := ch_mul n 0
    have e : ch (n + 1 + 1) (0 + 1) = ch (n + 1) 0 + ch (n + 1) (0 + 1) := rfl
    rw [ch_zero] at h
    rw [e, ch_zero]; omega
  | n + 1, k + 1 => by
    have h1 := ch_mul n k
    have h2 := ch_mul n (k + 1)
    rw [ch]
    have e : ch (n + 1) (k + 1) = ch n k + ch n (k + 1) := rfl
    rw [Nat.mul_add, h2]
    have e2 : (k + 1 + 1) * ch (n + 1) (k + 1) = (n + 1) * ch n k + ch (n + 1) (k + 1) := by
      rw [Nat.add_mul, h1, Nat.one_mul]
    rw [e2, show n + 1 + 1 = (n + 1) + 1 from rfl, Nat.add_mul (n + 1) 1, Nat.one_mul, e]
    rw [Nat.mul_add]; omega
/-- The sum of the first terms of (x + 1)^n. -/
def bs (n x : Nat) : Nat → Nat
  | 0 => 0
  | k + 1 => bs n x k + ch n k * x ^ k
theorem bs_succ (n x : Nat) : ∀ k : Nat, bs (n + 1) x (k + 1) = bs n x (k + 1) + x * bs n x k
  | 0 => by simp [bs, ch_zero]
  | k + 1 => by
    rw [bs, bs_succ n x k]
    show _ = bs n x (k + 1) + ch n (k + 1) * x ^ (k + 1) + x * (bs n x k + ch n k * x ^ k)
    have e : ch (n + 1) (k + 1) = ch n k + ch n (k + 1) := rfl
    rw [e, Nat.add_mul, Nat.mul_add]
    have e2 : x * (ch n k * x ^ k) = ch n k * x ^ (k + 1) := by rw [Nat.pow_succ]; ac_rfl
    rw [e2]; omega
theorem binom (x : Nat) : ∀ n : Nat, (x + 1) ^ n = bs n x (n + 1)
  | 0 => by simp [bs, ch]
  | n + 1 => by
    rw [Nat.pow_succ, binom x n, bs_succ n x (n + 1)]
    have e : bs n x (n + 1 + 1) = bs n x (n + 1) + ch n (n + 1) * x ^ (n + 1) := rfl
    rw [e, ch_gt n (n + 1) (by omega), Nat.zero_mul, Nat.add_zero, Nat.mul_add, Nat.mul_one, Nat.mul_comm]
    omega
theorem Q_dvd_ch {k : Nat} (h0 : 0 < k) (hk : k < Q) : ch Q k % Q = 0 := by
  obtain ⟨j, rfl⟩ : ∃ j, k = j + 1 := ⟨k - 1, by omega⟩
  have h := ch_mul (Q - 1) j
  rw [show Q - 1 + 1 = Q from rfl] at h
  have hd : Q ∣ (j + 1) * ch Q (j + 1) := ⟨_, h⟩
  have hc : Nat.Coprime Q (j + 1) := by
    have := Q_coprime (n := j + 1) h0 hk
    rw [Nat.Coprime, Nat.gcd_comm]; exact this
  exact Nat.mod_eq_zero_of_dvd (hc.dvd_of_dvd_mul_left hd)
theorem bs_mod (x : Nat) : ∀ k : Nat, k < Q → bs Q x (k + 1) % Q = 1
  | 0, _ => by simp [bs, ch_zero]; decide
  | k + 1, h => by
    rw [bs, Nat.add_mod, bs_mod x k (by omega), Nat.mul_mod, Q_dvd_ch (by omega) h, Nat.zero_mul, Nat.zero_mod]; decide
theorem bs_next (n x k : Nat) : bs n x (k + 1) = bs n x k + ch n k * x ^ k := rfl
theorem frobenius (x : Nat) : (x + 1) ^ Q % Q = (x ^ Q + 1) % Q := by
  rw [binom x Q]
  have e := bs_next Q x Q
  have h := bs_mod x (Q - 1) (by decide)
  rw [show Q - 1 + 1 = Q from rfl] at h
  rw [e, ch_self, Nat.one_mul, Nat.add_mod, h, Nat.add_mod (x ^ Q) 1, show 1 % Q = 1 from rfl, Nat.add_comm]
theorem fermat : ∀ x : Nat, x ^ Q % Q = x % Q
  | 0 => by rw [Nat.zero_pow (by decide)]
  | x + 1 => by rw [frobenius, Nat.add_mod, fermat x, ← Nat.add_mod]
/-- What a number's power of Q - 2 is: its other half. -/
theorem inverse {d : Nat} (h0 : 0 < d) (hd : d < Q) : d * (d ^ (Q - 2) % Q) % Q = 1 := by
  have h := fermat d
  rw [Nat.mod_eq_of_lt hd] at h
  have e : d ^ Q = d * (d * d ^ (Q - 2)) := by
    rw [show Q = (Q - 2) + 1 + 1 from rfl]
    rw [Nat.pow_succ, Nat.pow_succ]
    show d ^ (Q - 2) * d * d = _
    ac_rfl
  rw [e] at h
  have hdv : (d * (d * d ^ (Q - 2))) % Q = (d * 1) % Q := by rw [h, Nat.mul_one, Nat.mod_eq_of_lt hd]
  have hge : 1 ≤ d * d ^ (Q - 2) := Nat.mul_pos h0 (Nat.pow_pos h0)
  have hsub : Q ∣ d * (d * d ^ (Q - 2) - 1) := by
    rw [Nat.mul_sub]
    exact Nat.dvd_of_mod_eq_zero (Nat.sub_mod_eq_zero_of_mod_eq hdv)
  have hc : Nat.Coprime Q d := by rw [Nat.Coprime, Nat.gcd_comm]; exact Q_coprime h0 hd
  have h2 := hc.dvd_of_dvd_mul_left hsub
  obtain ⟨c, hcc⟩ := h2
  have e3 : d * d ^ (Q - 2) = 1 + Q * c := by omega
  rw [Nat.mul_mod, Nat.mod_mod, ← Nat.mul_mod, e3, Nat.add_mul_mod_self_left]
  decide
end Sig
end Go.Proofs.YtjinhojlnaplaaaDoor
