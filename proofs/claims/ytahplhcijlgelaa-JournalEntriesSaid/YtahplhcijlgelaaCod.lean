/- The plain law of the codec: numbers of integers, their bytes, lists, frames. No program in sight. -/
import Derived.Test.YtahplhcijlgelaaDig
namespace Go.Proofs.Ytahplhcijlgelaa
set_option maxRecDepth 100000
namespace Cod
def zig (n : Int) : Nat := if 0 ≤ n then (2 * n).toNat else (-2 * n - 1).toNat
def zag (u : Nat) : Int := if u % 2 = 0 then (u / 2 : Nat) else -((u / 2 : Nat) : Int) - 1
theorem zag_zig (n : Int) : zag (zig n) = n := by
  unfold zag zig
  split <;> split <;> omega
theorem zig_zag (u : Nat) : zig (zag u) = u := by
  unfold zag zig
  split <;> split <;> omega
theorem zig_lt {n : Int} (h : I64 n) : zig n < 18446744073709551616 := by unfold I64 at h; unfold zig; split <;> omega
theorem zag_in {u : Nat} (h : u < 18446744073709551616) : I64 (zag u) := by unfold I64 zag; split <;> omega
def vi (u : Nat) : List UInt8 := if h : u < 128 then [UInt8.ofNat u] else UInt8.ofNat (u % 128 + 128) :: vi (u / 128)
termination_by u
theorem vi_small {u : Nat} (h : u < 128) : vi u = [UInt8.ofNat u] := by rw [vi, dif_pos h]
theorem vi_big {u : Nat} (h : ¬ u < 128) : vi u = UInt8.ofNat (u % 128 + 128) :: vi (u / 128) := by rw [vi, dif_neg h]
def num (n : Int) : List UInt8 := vi (zig n)
def nums (l : List Int) : List UInt8 := l.flatMap num
def put (l : List Int) : List UInt8 := num l.length ++ nums l
theorem nums_nil : nums [] = [] := rfl
theorem nums_cons (n : Int) (l : List Int) : nums (n :: l) = num n ++ nums l := by simp [nums]
theorem nums_append (a b : List Int) : nums (a ++ b) = nums a ++ nums b := by simp [nums]

/-- Of bytes, from the i-th one on, with u read so far: the number, and how many bytes it has. -/
def rd : Nat → Nat → List UInt8 → Option (Nat × Nat)
  | _, _, [] => none
  | i, u, c :: b =>
    if (i = 9 ∧ 1 < c.toNat) ∨ 9 < i then none
    else if 127 < c.toNat then rd (i + 1) (u + c.toNat % 128 * 2 ^ (7 * i)) b
    else if c.toNat = 0 ∧ 0 < i then none
    else some (u + c.toNat % 128 * 2 ^ (7 * i), i + 1)
def next (b : List UInt8) : Option (Int × Nat) := (rd 0 0 b).map fun p => (zag p.1, p.2)
/-- n integers, and what is left. -/
def more : Nat → List UInt8 → Option (List Int × List UInt8)
  | 0, b => some ([], b)
  | n + 1, b => (next b).bind fun p => (more n (b.drop p.2)).map fun q => (p.1 :: q.1, q.2)
def get (b : List UInt8) : Option (List Int) :=
  (next b).bind fun p => if p.1 < 0 ∨ 4000 < p.1 then none else (more p.1.toNat (b.drop p.2)).bind fun q => if q.2 = [] then some q.1 else none

/-! ### bytes and numbers -/
theorem vi_ne (u : Nat) : vi u ≠ [] := by rw [vi]; split <;> simp
theorem vi_length {k : Nat} : ∀ {u : Nat}, u < 2 ^ (7 * (k + 1)) → (vi u).length ≤ k + 1 := by
  induction k with
  | zero => intro u h; rw [vi_small (by simpa using h)]; simp
  | succ k ih =>
    intro u h
    by_cases hs : u < 128
    · rw [vi_small hs]; simp
    · rw [vi_big hs]
      have : u / 128 < 2 ^ (7 * (k + 1)) := by
        rw [Nat.div_lt_iff_lt_mul (by omega)]
        calc u < 2 ^ (7 * (k + 1 + 1)) := h
          _ = 2 ^ (7 * (k + 1)) * 128 := by rw [show 7 * (k + 1 + 1) = 7 * (k + 1) + 7 by omega, Nat.pow_add]
      have := ih this
      simp; omega
theorem num_length {n : Int} (h : I64 n) : (num n).length ≤ 10 := vi_length (k := 9) (Nat.lt_of_lt_of_le (zig_lt h) (by decide))
theorem num_length_small {n : Nat} (h : n ≤ 4000) : (num n).length ≤ 2 := vi_length (k := 1) (by unfold zig; split <;> omega)
theorem num_pos (n : Int) : 0 < (num n).length := List.length_pos_iff.2 (vi_ne _)
theorem nums_length {l : List Int} (h : ∀ n ∈ l, I64 n) : (nums l).length ≤ 10 * l.length := by
  induction l with
  | nil => simp [nums]
  | cons n l ih =>
    rw [nums_cons, List.length_append, List.length_cons]
    have := num_length (h n (by simp))
    have := ih fun m hm => h m (by simp [hm])
    omega
theorem put_length {l : List Int} (h : ∀ n ∈ l, I64 n) (hl : l.length ≤ 4000) : (put l).length ≤ 10 * l.length + 2 := by
  unfold put
  rw [List.length_append]
  have := nums_length h
  have := num_length_small hl
  omega
theorem put_pos (l : List Int) : 0 < (put l).length := by
  unfold put
  rw [List.length_append]
  have := num_pos (l.length : Int)
  omega

/-- Reading what was written. -/
theorem rd_vi : ∀ (u i : Nat) (acc : Nat) (rest : List UInt8), u * 2 ^ (7 * i) < 18446744073709551616 → (0 < i → u ≠ 0) → rd i acc (vi u ++ rest) = some (acc + u * 2 ^ (7 * i), i + (vi u).length) := by
  intro u
  induction u using Nat.strongRecOn with
  | _ u ih =>
    intro i acc rest hu h0
    have hi : u = 0 ∨ i ≤ 9 := by
      by_cases hz : u = 0
      · exact .inl hz
      · refine .inr (Nat.le_of_not_lt fun hi => ?_)
        have : 2 ^ 70 ≤ 2 ^ (7 * i) := Nat.pow_le_pow_right (by omega) (by omega)
        have : 1 * 2 ^ 70 ≤ u * 2 ^ (7 * i) := Nat.mul_le_mul (by omega) this
        omega
    have hi9 : i ≤ 9 := by
      rcases hi with h | h
      · rcases Nat.eq_zero_or_pos i with h2 | h2
        · omega
        · exact absurd h (h0 h2)
      · exact h
    have h9 : i = 9 → u ≤ 1 := fun h => by subst h; omega
    by_cases hs : u < 128
    · rw [vi_small hs]
      have hc : (UInt8.ofNat u).toNat = u := by simp [UInt8.toNat_ofNat']; omega
      simp only [List.cons_append, List.nil_append, rd, hc, List.length_singleton]
      rw [if_neg (by rintro (⟨h1, h2⟩ | h1); have := h9 h1; omega; omega), if_neg (by omega), if_neg (by rintro ⟨h1, h2⟩; exact h0 h2 h1), Nat.mod_eq_of_lt hs]
    · have h99 : i ≠ 9 := fun h => by have := h9 h; omega
      rw [vi_big hs]
      have hc : (UInt8.ofNat (u % 128 + 128)).toNat = u % 128 + 128 := by simp [UInt8.toNat_ofNat']; omega
      simp only [List.cons_append, rd, hc, List.length_cons]
      rw [if_neg (by omega), if_pos (by omega)]
      have hp : 2 ^ (7 * (i + 1)) = 128 * 2 ^ (7 * i) := by rw [show 7 * (i + 1) = 7 * i + 7 by omega, Nat.pow_add]; omega
      have hd : u = 128 * (u / 128) + u % 128 := (Nat.div_add_mod u 128).symm
      have hm : u * 2 ^ (7 * i) = u / 128 * 2 ^ (7 * (i + 1)) + u % 128 * 2 ^ (7 * i) := by
        rw [hp]
        conv => lhs; rw [hd]
        rw [Nat.add_mul, Nat.mul_comm 128, Nat.mul_assoc]
      rw [ih (u / 128) (by omega) (i + 1) _ rest (by omega) (fun _ => by omega), hm, show (u % 128 + 128) % 128 = u % 128 by omega]
      refine congrArg some (Prod.ext ?_ ?_) <;> simp only <;> omega
theorem next_num {n : Int} (h : I64 n) (rest : List UInt8) : next (num n ++ rest) = some (n, (num n).length) := by
  unfold next num
  rw [rd_vi _ 0 0 rest (by simpa using zig_lt h) (by omega)]
  simp [zag_zig]
theorem more_nums {l : List Int} (h : ∀ n ∈ l, I64 n) (rest : List UInt8) : more l.length (nums l ++ rest) = some (l, rest) := by
  induction l with
  | nil => simp [more, nums]
  | cons n l ih =>
    rw [nums_cons, List.length_cons, more, List.append_assoc, next_num (h n (by simp))]
    simp [ih fun m hm => h m (by simp [hm])]
theorem get_put_append {l : List Int} (h : ∀ n ∈ l, I64 n) (hl : l.length ≤ 4000) (rest : List UInt8) : get (put l ++ rest) = if rest = [] then some l else none := by
  unfold get put
  rw [List.append_assoc, next_num (by unfold I64; omega)]
  simp only [Option.bind_some]
  rw [if_neg (by omega)]
  simp [more_nums h]
theorem get_put {l : List Int} (h : ∀ n ∈ l, I64 n) (hl : l.length ≤ 4000) : get (put l) = some l := by
  have := get_put_append h hl []
  simpa using this

/-- What was read as a number has the bytes that the number has. -/
theorem rd_inv : ∀ (b : List UInt8) (i acc u k : Nat), rd i acc b = some (u, k) → acc < 2 ^ (7 * i) → i ≤ 9 →
    ∃ x, u = acc + x * 2 ^ (7 * i) ∧ u < 18446744073709551616 ∧ i < k ∧ k ≤ i + b.length ∧ b.take (k - i) = vi x ∧ (0 < i → x ≠ 0)
  | [], i, acc, u, k, h, _, _ => by simp [rd] at h
  | c :: b, i, acc, u, k, h, ha, hi => by
    simp only [rd] at h
    split at h
    · cases h
    · rename_i hn
      have hc : c.toNat < 256 := c.toBitVec.isLt
      have hcc : UInt8.ofNat c.toNat = c := UInt8.ofNat_toNat
      have hp : 2 ^ (7 * (i + 1)) = 128 * 2 ^ (7 * i) := by rw [show 7 * (i + 1) = 7 * i + 7 by omega, Nat.pow_add]; omega
      have h9 : i = 9 → c.toNat ≤ 1 := fun h => by omega
      split at h
      · rename_i hb
        have hi8 : i ≤ 8 := by omega
        have hlt : acc + c.toNat % 128 * 2 ^ (7 * i) < 2 ^ (7 * (i + 1)) := by
          have : c.toNat % 128 * 2 ^ (7 * i) ≤ 127 * 2 ^ (7 * i) := Nat.mul_le_mul (by omega) (Nat.le_refl _)
          rw [hp]; omega
        obtain ⟨x, h1, h2, h3, h4, h5, h6⟩ := rd_inv b (i + 1) _ u k h hlt (by omega)
        refine ⟨c.toNat % 128 + x * 128, ?_, h2, by omega, by simp; omega, ?_, fun _ => by have := h6 (by omega); omega⟩
        · rw [h1, hp, Nat.add_mul, Nat.mul_assoc]; omega
        · rw [show k - i = (k - (i + 1)) + 1 by omega, List.take_succ_cons, h5]
          have hx := h6 (by omega)
          have e : vi (c.toNat % 128 + x * 128) = c :: vi x := by
            rw [vi_big (by omega), show (c.toNat % 128 + x * 128) % 128 + 128 = c.toNat by omega, show (c.toNat % 128 + x * 128) / 128 = x by omega, hcc]
          rw [e]
      · rename_i hb
        split at h
        · cases h
        · rename_i hz
          simp only [Option.some.injEq, Prod.mk.injEq] at h
          obtain ⟨rfl, rfl⟩ := h
          have hm : c.toNat % 128 = c.toNat := by omega
          refine ⟨c.toNat, by rw [hm], ?_, by omega, by simp, ?_, fun h => by omega⟩
          · rw [hm]
            have h63 : 2 ^ (7 * i) ≤ 2 ^ 63 := Nat.pow_le_pow_right (by omega) (by omega)
            by_cases h : i = 9
            · have := h9 h
              have : c.toNat * 2 ^ (7 * i) ≤ 1 * 2 ^ (7 * i) := Nat.mul_le_mul this (Nat.le_refl _)
              omega
            · have h56 : 2 ^ (7 * i) ≤ 2 ^ 56 := Nat.pow_le_pow_right (by omega) (by omega)
              have : c.toNat * 2 ^ (7 * i) ≤ 127 * 2 ^ (7 * i) := Nat.mul_le_mul (by omega) (Nat.le_refl _)
              omega
          · rw [show i + 1 - i = 1 by omega, vi_small (by omega), hcc]; rfl
theorem next_inv {b : List UInt8} {n : Int} {k : Nat} (h : next b = some (n, k)) : I64 n ∧ 0 < k ∧ k ≤ b.length ∧ b.take k = num n := by
  unfold next at h
  cases hr : rd 0 0 b with
  | none => rw [hr] at h; cases h
  | some p =>
    rw [hr] at h
    obtain ⟨u, k'⟩ := p
    simp only [Option.map_some, Option.some.injEq, Prod.mk.injEq] at h
    obtain ⟨rfl, rfl⟩ := h
    obtain ⟨x, h1, h2, h3, h4, h5, _⟩ := rd_inv b 0 0 u k' hr (by simp) (by omega)
    have hx : u = x := by simpa using h1
    subst hx
    exact ⟨zag_in h2, h3, by omega, by unfold num; rw [zig_zag]; simpa using h5⟩
theorem more_inv : ∀ {n : Nat} {b : List UInt8} {l : List Int} {r : List UInt8}, more n b = some (l, r) → l.length = n ∧ b = nums l ++ r ∧ ∀ m ∈ l, I64 m
  | 0, b, l, r, h => by simp only [more, Option.some.injEq, Prod.mk.injEq] at h; obtain ⟨rfl, rfl⟩ := h; simp [nums]
  | n + 1, b, l, r, h => by
    simp only [more] at h
    cases hn : next b with
    | none => rw [hn] at h; cases h
    | some p =>
      obtain ⟨v, k⟩ := p
      rw [hn, Option.bind_some] at h
      simp only at h
      cases hm : more n (b.drop k) with
      | none => rw [hm] at h; cases h
      | some q =>
        obtain ⟨l', r'⟩ := q
        rw [hm] at h
        simp only [Option.map_some, Option.some.injEq, Prod.mk.injEq] at h
        obtain ⟨rfl, rfl⟩ := h
        obtain ⟨h1, h2, h3⟩ := more_inv hm
        obtain ⟨g1, _, _, g4⟩ := next_inv hn
        refine ⟨by simp [h1], ?_, fun m hm => ?_⟩
        · rw [nums_cons, ← g4, List.append_assoc, ← h2, List.take_append_drop]
        · rcases List.mem_cons.1 hm with rfl | hm
          · exact g1
          · exact h3 m hm
theorem get_inv {b : List UInt8} {l : List Int} (h : get b = some l) : b = put l ∧ l.length ≤ 4000 ∧ ∀ m ∈ l, I64 m := by
  unfold get at h
  cases hn : next b with
  | none => rw [hn] at h; cases h
  | some p =>
    obtain ⟨v, k⟩ := p
    rw [hn, Option.bind_some] at h
    simp only at h
    split at h
    · cases h
    · rename_i hv
      cases hm : more v.toNat (b.drop k) with
      | none => rw [hm] at h; cases h
      | some q =>
        obtain ⟨l', r⟩ := q
        rw [hm, Option.bind_some] at h
        simp only at h
        split at h
        · rename_i hr
          subst hr
          cases h
          obtain ⟨h1, h2, h3⟩ := more_inv hm
          obtain ⟨_, _, _, g4⟩ := next_inv hn
          have hlv : (l.length : Int) = v := by omega
          refine ⟨?_, by omega, h3⟩
          unfold put
          rw [hlv, ← g4]
          simp only [List.append_nil] at h2
          rw [← h2, List.take_append_drop]
        · cases h
/-! ### frames -/
def hdr (n : Nat) : List UInt8 := [UInt8.ofNat (n / 65536), UInt8.ofNat (n / 256), UInt8.ofNat n]
def body (l : List Int) : List UInt8 := hdr (put l).length ++ put l
def frame (l : List Int) : List UInt8 := body l ++ Dig.bytes8 (Dig.text (body l))
def long (b : List UInt8) : Nat := (b.getD 0 0).toNat * 65536 + (b.getD 1 0).toNat * 256 + (b.getD 2 0).toNat
/-- The list of the frame with which bytes begin, and how long it is. -/
def whole (b : List UInt8) : Option (List Int × Nat) :=
  if b.length < 11 ∨ b.length < long b + 11 then none
  else if (b.drop (3 + long b)).take 8 ≠ Dig.bytes8 (Dig.text (b.take (3 + long b))) then none
  else (get ((b.take (3 + long b)).drop 3)).map fun l => (l, long b + 11)
theorem long_lt (b : List UInt8) : long b < 16777216 := by
  unfold long
  have h1 := (b.getD 0 0).toBitVec.isLt
  have h2 := (b.getD 1 0).toBitVec.isLt
  have h3 := (b.getD 2 0).toBitVec.isLt
  simp only [UInt8.toNat] at *
  omega
theorem whole_size {b : List UInt8} {l : List Int} {n : Nat} (h : whole b = some (l, n)) : 11 ≤ n ∧ n ≤ b.length ∧ n = long b + 11 := by
  unfold whole at h
  split at h
  · cases h
  · split at h
    · cases h
    · cases hg : get ((b.take (3 + long b)).drop 3) with
      | none => rw [hg] at h; cases h
      | some l' => rw [hg] at h; simp only [Option.map_some, Option.some.injEq, Prod.mk.injEq] at h; omega
/-- The lists of the whole frames with which bytes begin, and how many bytes these take. -/
def frames (b : List UInt8) : List (List Int) × Nat :=
  match h : whole b with
  | none => ([], 0)
  | some (l, n) => (l :: (frames (b.drop n)).1, n + (frames (b.drop n)).2)
termination_by b.length
decreasing_by all_goals (have := whole_size h; simp only [List.length_drop]; omega)
theorem frames_none {b : List UInt8} (h : whole b = none) : frames b = ([], 0) := by
  rw [frames]; split
  · rfl
  · rename_i h2; rw [h] at h2; cases h2
theorem frames_some {b : List UInt8} {l : List Int} {n : Nat} (h : whole b = some (l, n)) : frames b = (l :: (frames (b.drop n)).1, n + (frames (b.drop n)).2) := by
  rw [frames]; split
  · rename_i h2; rw [h] at h2; cases h2
  · rename_i l' n' h2; rw [h] at h2; cases h2; rfl
theorem hdr_length (n : Nat) : (hdr n).length = 3 := rfl
theorem bytes8_length (d : BitVec 64) : (Dig.bytes8 d).length = 8 := by simp [Dig.bytes8]
theorem frame_length (l : List Int) : (frame l).length = (put l).length + 11 := by simp [frame, body, hdr_length, bytes8_length]; omega
theorem long_hdr {n : Nat} (hn : n < 16777216) (rest : List UInt8) : long (hdr n ++ rest) = n := by
  simp [long, hdr, UInt8.toNat_ofNat']; omega
theorem put_small {l : List Int} (h : ∀ n ∈ l, I64 n) (hl : l.length ≤ 4000) : (put l).length < 16777216 := by have := put_length h hl; omega
theorem whole_frame {l : List Int} (h : ∀ n ∈ l, I64 n) (hl : l.length ≤ 4000) (rest : List UInt8) : whole (frame l ++ rest) = some (l, (frame l).length) := by
  have hs := put_small h hl
  have hlong : long (frame l ++ rest) = (put l).length := by
    unfold frame body
    simp only [List.append_assoc]
    exact long_hdr hs _
  have hbl : (body l).length = 3 + (put l).length := by simp [body, hdr_length]
  unfold whole
  rw [hlong, if_neg (by rw [List.length_append, frame_length]; omega)]
  have e1 : (frame l ++ rest).take (3 + (put l).length) = body l := by
    unfold frame
    rw [List.append_assoc, ← hbl, List.take_left']
    rfl
  have e2 : ((frame l ++ rest).drop (3 + (put l).length)).take 8 = Dig.bytes8 (Dig.text (body l)) := by
    unfold frame
    rw [List.append_assoc, ← hbl, List.drop_left' rfl, List.take_left' (bytes8_length _)]
  rw [e1, e2, if_neg (by simp)]
  have e3 : (body l).drop 3 = put l := by unfold body; rw [List.drop_left' (hdr_length _)]
  rw [e3, get_put h hl, frame_length]; rfl
/-- A frame that is cut. -/
theorem whole_cut {l : List Int} (h : ∀ n ∈ l, I64 n) (hl : l.length ≤ 4000) {k : Nat} (hk : k < (frame l).length) : whole ((frame l).take k) = none := by
  have hs := put_small h hl
  unfold whole
  rw [if_pos]
  have hlen : ((frame l).take k).length = k := by rw [List.length_take]; omega
  rw [hlen]
  by_cases hk3 : k < 11
  · exact .inl hk3
  · refine .inr ?_
    have hlong : long ((frame l).take k) = (put l).length := by
      unfold frame body
      rw [List.append_assoc, List.take_append, hdr_length, List.take_of_length_le (by rw [hdr_length]; omega)]
      exact long_hdr hs _
    rw [hlong]
    rw [frame_length] at hk
    omega
def all (ls : List (List Int)) : List UInt8 := ls.flatMap frame
def Fits (ls : List (List Int)) : Prop := ∀ l ∈ ls, (∀ n ∈ l, I64 n) ∧ l.length ≤ 4000
theorem frames_all {ls : List (List Int)} (h : Fits ls) (rest : List UInt8) : frames (all ls ++ rest) = (ls ++ (frames rest).1, (all ls).length + (frames rest).2) := by
  induction ls with
  | nil => simp [all]
  | cons l ls ih =>
    obtain ⟨h1, h2⟩ := h l (by simp)
    have e : all (l :: ls) ++ rest = frame l ++ (all ls ++ rest) := by simp [all]
    rw [e, frames_some (whole_frame h1 h2 _), List.drop_left' rfl, ih fun m hm => h m (by simp [hm])]
    simp [all]; omega
theorem bytes8_inj {d e : BitVec 64} (h : Dig.bytes8 d = Dig.bytes8 e) : d = e := by
  have hb : ∀ i, i < 8 → (d >>> (56 - 8 * i)).setWidth 8 = (e >>> (56 - 8 * i)).setWidth 8 := fun i hi => by
    have h2 : (Dig.bytes8 d)[i]? = (Dig.bytes8 e)[i]? := by rw [h]
    simp only [Dig.bytes8, List.getElem?_map, List.getElem?_range hi, Option.map_some, Option.some.injEq] at h2
    have h3 := congrArg UInt8.toBitVec h2
    exact h3
  apply BitVec.eq_of_getLsbD_eq
  intro j hj
  have h1 := hb (7 - j / 8) (by omega)
  have h2 := congrArg (fun x => x.getLsbD (j % 8)) h1
  simp only [BitVec.getLsbD_setWidth, BitVec.getLsbD_ushiftRight] at h2
  have e1 : 56 - 8 * (7 - j / 8) + j % 8 = j := by omega
  rw [e1, decide_eq_true (by omega : j % 8 < 8), Bool.true_and, Bool.true_and] at h2
  exact h2
/-- A frame of which one byte behind its first three has turned. -/
theorem whole_changed {l : List Int} (h : ∀ n ∈ l, I64 n) (hl : l.length ≤ 4000) {i : Nat} {c : UInt8} (hi3 : 3 ≤ i) (hi : i < (frame l).length) (hc : c ≠ (frame l)[i]) : whole ((frame l).set i c) = none := by
  have hs := put_small h hl
  have hbl : (body l).length = 3 + (put l).length := by simp [body, hdr_length]
  have hlong : long ((frame l).set i c) = (put l).length := by
    unfold frame body
    rw [List.append_assoc, List.set_append_right _ _ (by rw [hdr_length]; exact hi3)]
    exact long_hdr hs _
  unfold whole
  rw [hlong]
  split
  · rfl
  · rw [if_pos]
    have hfl := frame_length l
    have hf : frame l = body l ++ Dig.bytes8 (Dig.text (body l)) := rfl
    by_cases hin : i < (body l).length
    · have e : (frame l).set i c = (body l).set i c ++ Dig.bytes8 (Dig.text (body l)) := by rw [hf, List.set_append_left _ _ hin]
      rw [e, List.drop_left' (by rw [List.length_set]; omega), List.take_left' (by rw [List.length_set]; omega), List.take_of_length_le (by rw [bytes8_length]; omega)]
      intro he
      have he2 := bytes8_inj he
      have hsplit : body l = (body l).take i ++ (body l)[i] :: (body l).drop (i + 1) := by
        rw [← List.drop_eq_getElem_cons hin, List.take_append_drop]
      have hset : (body l).set i c = (body l).take i ++ c :: (body l).drop (i + 1) := by rw [List.set_eq_take_append_cons_drop, if_pos hin]
      rw [hset] at he2
      have : Dig.text ((body l).take i ++ (body l)[i] :: (body l).drop (i + 1)) = Dig.text ((body l).take i ++ c :: (body l).drop (i + 1)) := by rw [← hsplit]; exact he2
      have h3 := Dig.run_one.1 this
      exact hc (by rw [← h3]; simp [hf, List.getElem_append_left hin])
    · have e : (frame l).set i c = body l ++ (Dig.bytes8 (Dig.text (body l))).set (i - (body l).length) c := by rw [hf, List.set_append_right _ _ (by omega)]
      rw [e, List.drop_left' (by omega), List.take_left' (by omega), List.take_of_length_le (by rw [List.length_set, bytes8_length]; omega)]
      intro he
      have hj : i - (body l).length < (Dig.bytes8 (Dig.text (body l))).length := by rw [bytes8_length]; omega
      have h2 : ((Dig.bytes8 (Dig.text (body l))).set (i - (body l).length) c)[i - (body l).length]? = (Dig.bytes8 (Dig.text (body l)))[i - (body l).length]? := by rw [he]
      rw [List.getElem?_set_self hj, List.getElem?_eq_getElem hj] at h2
      simp only [Option.some.injEq] at h2
      exact hc (by rw [h2]; simp [hf, List.getElem_append_right (show (body l).length ≤ i by omega)])
end Cod
end Go.Proofs.Ytahplhcijlgelaa
