/- The plain law of the digest: a fold over bytes that is one to one in the state and in each byte; the decimal numeral. No program in sight. -/
import Derived.Lib.ItoaNum
namespace Go.Proofs.YtjinhojlnaplaaaDoor
set_option maxRecDepth 100000
/-- What fits into an int. -/
def I64 (n : Int) : Prop := -9223372036854775808 ≤ n ∧ n ≤ 9223372036854775807
namespace Dig

def factor : BitVec 64 := 1099511628211
def inv : BitVec 64 := 14886173955864302971
theorem factor_inv : factor * inv = 1 := by decide +kernel
def begin64 : BitVec 64 := 14695981039346656037
def step (d : BitVec 64) (b : UInt8) : BitVec 64 := (d ^^^ (b.toBitVec.zeroExtend 64)) * factor
def run (d : BitVec 64) (l : List UInt8) : BitVec 64 := l.foldl step d
def text (l : List UInt8) : BitVec 64 := run begin64 l

theorem run_nil (d : BitVec 64) : run d [] = d := rfl
theorem run_cons (d : BitVec 64) (b : UInt8) (l : List UInt8) : run d (b :: l) = run (step d b) l := rfl
theorem run_append (d : BitVec 64) (a b : List UInt8) : run d (a ++ b) = run (run d a) b := by simp [run]

theorem mul_factor_inj {a b : BitVec 64} (h : a * factor = b * factor) : a = b := by
  have h2 : a * factor * inv = b * factor * inv := by rw [h]
  rw [BitVec.mul_assoc, BitVec.mul_assoc, factor_inv] at h2
  simpa using h2
theorem step_inj {a b : BitVec 64} {c : UInt8} (h : step a c = step b c) : a = b := by
  have h2 := mul_factor_inj h
  have h3 : (a ^^^ (c.toBitVec.zeroExtend 64)) ^^^ (c.toBitVec.zeroExtend 64) = (b ^^^ (c.toBitVec.zeroExtend 64)) ^^^ (c.toBitVec.zeroExtend 64) := by rw [h2]
  rw [BitVec.xor_assoc, BitVec.xor_assoc] at h3
  simpa using h3
theorem step_inj_byte {a : BitVec 64} {c d : UInt8} (h : step a c = step a d) : c = d := by
  have h2 := mul_factor_inj h
  have h3 : a ^^^ (a ^^^ (c.toBitVec.zeroExtend 64)) = a ^^^ (a ^^^ (d.toBitVec.zeroExtend 64)) := by rw [h2]
  rw [← BitVec.xor_assoc, ← BitVec.xor_assoc] at h3
  simp only [BitVec.xor_self, BitVec.zero_xor] at h3
  have h4 : c.toBitVec = d.toBitVec := by
    apply BitVec.eq_of_toNat_eq
    have h5 := congrArg BitVec.toNat h3
    have hc := c.toBitVec.isLt
    have hd := d.toBitVec.isLt
    simp only [BitVec.truncate_eq_setWidth, BitVec.toNat_setWidth] at h5
    omega
  exact UInt8.toBitVec_inj.1 h4
theorem run_inj {l : List UInt8} : ∀ {a b : BitVec 64}, run a l = run b l → a = b := by
  induction l with
  | nil => intro a b h; exact h
  | cons c l ih => intro a b h; exact step_inj (ih h)
theorem run_inj_iff {l : List UInt8} {a b : BitVec 64} : run a l = run b l ↔ a = b := ⟨run_inj, fun h => by rw [h]⟩
/-- Two texts that differ at one place at most have the same digest exactly if they are the same there. -/
theorem run_one {d : BitVec 64} {p q : List UInt8} {b c : UInt8} : run d (p ++ b :: q) = run d (p ++ c :: q) ↔ b = c := by
  constructor
  · intro h
    rw [run_append, run_append, run_cons, run_cons] at h
    exact step_inj_byte (run_inj h)
  · rintro rfl; rfl
theorem run_one' {d : BitVec 64} {p q : List UInt8} {b c : UInt8} (h : b ≠ c) : run d (p ++ b :: q) ≠ run d (p ++ c :: q) := fun e => h (run_one.1 e)

/-- The bytes of a digest, the highest one first. -/
def bytes8 (d : BitVec 64) : List UInt8 := (List.range 8).map fun i => UInt8.ofBitVec ((d >>> (56 - 8 * i)).setWidth 8)
/-- The texts of integers, a blank behind each. -/
def texts (l : List Int) : List UInt8 := l.flatMap fun n => Go.Lib.itoa n ++ [32]
def next (d : BitVec 64) (l : List Int) : BitVec 64 := text (bytes8 d ++ texts l)
def sum (l : List Int) : BitVec 64 := next begin64 l

theorem texts_cons (n : Int) (l : List Int) : texts (n :: l) = Go.Lib.itoa n ++ 32 :: texts l := by simp [texts]
theorem texts_append (a b : List Int) : texts (a ++ b) = texts a ++ texts b := by simp [texts]

/-- Another last digit: the same bytes but for the last one. -/
theorem itoa_last {n m : Int} (hn : 0 ≤ n) (hm : 0 ≤ m) (hd : n / 10 = m / 10) (hr : n % 10 ≠ m % 10) :
    ∃ p b c, Go.Lib.itoa n = p ++ [b] ∧ Go.Lib.itoa m = p ++ [c] ∧ b ≠ c := by
  obtain ⟨n, rfl⟩ := Int.eq_ofNat_of_zero_le hn
  obtain ⟨m, rfl⟩ := Int.eq_ofNat_of_zero_le hm
  have hd' : n / 10 = m / 10 := by omega
  have hr' : n % 10 ≠ m % 10 := by omega
  have hne : UInt8.ofNat (48 + n % 10) ≠ UInt8.ofNat (48 + m % 10) := by
    intro h
    have := congrArg UInt8.toNat h
    simp only [UInt8.toNat_ofNat'] at this
    omega
  unfold Go.Lib.itoa
  rw [if_neg (by omega), if_neg (by omega)]
  simp only [Int.toNat_natCast]
  by_cases h : n < 10
  · have h2 : m < 10 := by omega
    rw [Go.Lib.decDigits, dif_pos h, Go.Lib.decDigits, dif_pos h2]
    refine ⟨[], _, _, rfl, rfl, ?_⟩
    rw [Nat.mod_eq_of_lt h, Nat.mod_eq_of_lt h2] at hne
    exact hne
  · have h2 : ¬ m < 10 := by omega
    rw [Go.Lib.decDigits, dif_neg h]
    conv => enter [1, p, 1, b, 1, c, 2, 1]; rw [Go.Lib.decDigits, dif_neg h2]
    rw [hd']
    exact ⟨_, _, _, rfl, rfl, hne⟩
theorem next_last {d : BitVec 64} {p q : List Int} {n m : Int} (hn : 0 ≤ n) (hm : 0 ≤ m) (hd : n / 10 = m / 10) (hr : n % 10 ≠ m % 10) :
    next d (p ++ n :: q) ≠ next d (p ++ m :: q) := by
  obtain ⟨r, b, c, h1, h2, h3⟩ := itoa_last hn hm hd hr
  unfold next text
  rw [texts_append, texts_append, texts_cons, texts_cons, h1, h2]
  have e : ∀ x : UInt8, bytes8 d ++ (texts p ++ (r ++ [x] ++ 32 :: texts q)) = (bytes8 d ++ (texts p ++ r)) ++ x :: (32 :: texts q) := by intro x; simp
  rw [e, e]
  exact run_one' h3
/-- The digits of a number, the last one first. -/
def rdig (u : Nat) : List UInt8 := if h : u = 0 then [] else UInt8.ofNat (48 + u % 10) :: rdig (u / 10)
termination_by u
decreasing_by omega
theorem rdig_zero : rdig 0 = [] := by rw [rdig, dif_pos rfl]
theorem rdig_pos {u : Nat} (h : u ≠ 0) : rdig u = UInt8.ofNat (48 + u % 10) :: rdig (u / 10) := by rw [rdig, dif_neg h]
theorem decDigits_rdig : ∀ (u : Nat), u ≠ 0 → Go.Lib.decDigits u = (rdig u).reverse := by
  intro u
  induction u using Nat.strongRecOn with
  | _ u ih =>
    intro h
    rw [rdig_pos h, Go.Lib.decDigits]
    by_cases hs : u < 10
    · rw [dif_pos hs, show u / 10 = 0 by omega, rdig_zero, Nat.mod_eq_of_lt hs]; rfl
    · rw [dif_neg hs, ih (u / 10) (by omega) (by omega), List.reverse_cons]
theorem decDigits_ascii : ∀ (u : Nat), ∀ c ∈ Go.Lib.decDigits u, c.toNat < 128 := by
  intro u
  induction u using Nat.strongRecOn with
  | _ u ih =>
    intro c hc
    rw [Go.Lib.decDigits] at hc
    by_cases hs : u < 10
    · rw [dif_pos hs] at hc
      simp only [List.mem_singleton] at hc
      subst hc
      simp only [UInt8.toNat_ofNat']; omega
    · rw [dif_neg hs] at hc
      rcases List.mem_append.1 hc with hc | hc
      · exact ih (u / 10) (by omega) c hc
      · simp only [List.mem_singleton] at hc
        subst hc
        simp only [UInt8.toNat_ofNat']; omega
theorem itoa_ascii (n : Int) : ∀ c ∈ Go.Lib.itoa n, c.toNat < 128 := by
  intro c hc
  unfold Go.Lib.itoa at hc
  split at hc
  · rcases List.mem_cons.1 hc with rfl | hc
    · decide
    · exact decDigits_ascii _ c hc
  · exact decDigits_ascii _ c hc
theorem itoa_rdig {n : Int} (h : n ≠ 0) : Go.Lib.itoa n = (rdig n.natAbs ++ if n < 0 then [45] else []).reverse := by
  unfold Go.Lib.itoa
  by_cases hn : n < 0
  · rw [if_pos hn, if_pos hn, decDigits_rdig _ (by omega)]; simp
  · rw [if_neg hn, if_neg hn, decDigits_rdig _ (by omega), List.append_nil, show n.toNat = n.natAbs by omega]
theorem rdig_length : ∀ (k u : Nat), u < 10 ^ k → (rdig u).length ≤ k := by
  intro k
  induction k with
  | zero => intro u hu; have : u = 0 := by simpa using hu
            subst this; rw [rdig_zero]; simp
  | succ k ih =>
    intro u hu
    by_cases h : u = 0
    · subst h; rw [rdig_zero]; simp
    · rw [rdig_pos h, List.length_cons]
      have := ih (u / 10) (by rw [Nat.div_lt_iff_lt_mul (by omega)]; rw [Nat.pow_succ] at hu; exact hu)
      omega
theorem texts_nil : texts [] = [] := rfl
theorem texts_one (l : List Int) (n : Int) : texts (l ++ [n]) = texts l ++ (Go.Lib.itoa n ++ [32]) := by rw [texts_append]; simp [texts]
/-- A digest that is another one in one byte at most. -/
theorem next_inj {d e : BitVec 64} {l : List Int} (h : next d l = next e l) : bytes8 d = bytes8 e ∨ ∃ i j : Nat, i < j ∧ j < 8 ∧ (bytes8 d)[i]? ≠ (bytes8 e)[i]? ∧ (bytes8 d)[j]? ≠ (bytes8 e)[j]? := by
  by_cases hb : bytes8 d = bytes8 e
  · exact .inl hb
  · refine .inr ?_
    have hd : (bytes8 d).length = 8 := by simp [bytes8]
    have he : (bytes8 e).length = 8 := by simp [bytes8]
    have hex : ∃ i : Nat, (bytes8 d)[i]? ≠ (bytes8 e)[i]? := by
      refine Classical.byContradiction fun hn => hb (List.ext_getElem? fun i => ?_)
      exact Classical.byContradiction fun hi => hn ⟨i, hi⟩
    refine Classical.byContradiction fun hn => ?_
    obtain ⟨i, hi⟩ := hex
    have hi8 : i < 8 := by
      refine Nat.lt_of_not_le fun hge => hi ?_
      rw [List.getElem?_eq_none (by omega), List.getElem?_eq_none (by omega)]
    have hoth : ∀ j : Nat, j ≠ i → (bytes8 d)[j]? = (bytes8 e)[j]? := fun j hj => by
      refine Classical.byContradiction fun hne => hn ?_
      have hj8 : j < 8 := by
        refine Nat.lt_of_not_le fun hge => hne ?_
        rw [List.getElem?_eq_none (by omega), List.getElem?_eq_none (by omega)]
      by_cases hlt : i < j
      · exact ⟨i, j, hlt, hj8, hi, hne⟩
      · exact ⟨j, i, by omega, hi8, hne, hi⟩
    have sp : ∀ x : List UInt8, (hx : i < x.length) → x = x.take i ++ x[i] :: x.drop (i + 1) := fun x hx => by rw [← List.drop_eq_getElem_cons hx, List.take_append_drop]
    have e1 := sp (bytes8 d) (by omega)
    have e2 := sp (bytes8 e) (by omega)
    have t1 : (bytes8 d).take i = (bytes8 e).take i := List.ext_getElem? fun j => by
      rw [List.getElem?_take, List.getElem?_take]
      by_cases hj : j < i
      · rw [if_pos hj, if_pos hj]; exact hoth j (by omega)
      · rw [if_neg hj, if_neg hj]
    have t2 : (bytes8 d).drop (i + 1) = (bytes8 e).drop (i + 1) := List.ext_getElem? fun j => by
      rw [List.getElem?_drop, List.getElem?_drop]; exact hoth _ (by omega)
    unfold next text at h
    rw [e1, e2, t1, t2, List.append_assoc, List.append_assoc, List.cons_append, List.cons_append] at h
    have h3 := run_one.1 h
    exact hi (by rw [List.getElem?_eq_getElem (by omega), List.getElem?_eq_getElem (by omega), h3])
end Dig
end Go.Proofs.YtjinhojlnaplaaaDoor
