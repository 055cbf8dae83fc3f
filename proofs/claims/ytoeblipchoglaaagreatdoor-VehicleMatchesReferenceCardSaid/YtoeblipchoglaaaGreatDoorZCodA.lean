/- The types of this program, as far as they are wanted: closed facts. -/
import Derived.Test.YtoeblipchoglaaaGreatDoorZBaseB
import Derived.KernelRfl
import Derived.Test.YtoeblipchoglaaaGreatDoorZBaseC
import Derived.Test.YtoeblipchoglaaaGreatDoorZDigW
import Derived.Defers
import Derived.Recover
namespace Go.Proofs.YtoeblipchoglaaaGreatDoor
set_option maxRecDepth 100000
namespace Ty
theorem reader_b (w : World) (b : Nat) : (Instr.fieldAt 174 (.pointer (some ⟨b, 0, none⟩)) 0).run Tryz.prog w = .ok (.pointer (some ⟨b, 0, none⟩)) w := by kernel_rfl
theorem bytes_agg (w : World) : (isAgg 26).run Tryz.prog w = .ok false w := by kernel_rfl
theorem bytes_size (w : World) : (sizeOf 26).run Tryz.prog w = .ok 1 w := by kernel_rfl
theorem broken_new : Tryz.prog.built 177 [] = some #[] := by kernel_rfl
theorem broken_con : Tryz.prog.concrete 177 = true := by kernel_rfl
theorem uint : Tryz.prog.underlying 121 = some (.int .u64) := by kernel_rfl
theorem ints_agg (w : World) : (isAgg 91).run Tryz.prog w = .ok false w := by kernel_rfl
theorem ints_size (w : World) : (sizeOf 91).run Tryz.prog w = .ok 1 w := by kernel_rfl
theorem ints_zero (w : World) : (zeroValue 91).run Tryz.prog w = .ok (.slice none 0 0) w := by kernel_rfl
theorem errno_agg (w : World) : (isAgg 32).run Tryz.prog w = .ok false w := by kernel_rfl
theorem errno_size (w : World) : (sizeOf 32).run Tryz.prog w = .ok 1 w := by kernel_rfl
theorem errno_zero (w : World) : (zeroValue 32).run Tryz.prog w = .ok (.int .i64 0) w := by kernel_rfl
theorem reader_zero (w : World) : (zeroValue 174).run Tryz.prog w = .ok (.agg #[.slice none 0 0]) w := by kernel_rfl
theorem reader_size (w : World) : (sizeOf 174).run Tryz.prog w = .ok 1 w := by kernel_rfl
theorem reader_new (v : Value) (h : v.cells = #[v]) : Tryz.prog.built 174 [(0, v)] = some #[v] := by
  have e : Tryz.prog.built 174 [(0, v)] = Instr.fill (fun i => (#[(0, 1)] : Array (Nat × Nat))[i]?) #[.slice none 0 0] [(0, v)] := by kernel_rfl
  rw [e]
  simp [Instr.fill, h]
theorem broken_zero (w : World) : (zeroValue 177).run Tryz.prog w = .ok (.agg #[]) w := by kernel_rfl
theorem arr8 : Tryz.prog.underlying 122 = some (.array 8 5) := by kernel_rfl
theorem arr8_agg (w : World) : (isAgg 122).run Tryz.prog w = .ok true w := by kernel_rfl
theorem arr8_size (w : World) : (sizeOf 122).run Tryz.prog w = .ok 8 w := by kernel_rfl
theorem arr8_zero (w : World) : (zeroValue 122).run Tryz.prog w = .ok (.agg (Array.replicate 8 (.int .u8 0))) w := by kernel_rfl
theorem arr8_eq (w : World) (ox oy : Operand) (x y : Array Value) : (eqGuard .neq 122 ox oy (.agg x) (.agg y)).run Tryz.prog w = .ok () w := by kernel_rfl
end Ty
end Go.Proofs.YtoeblipchoglaaaGreatDoor
namespace Go.Proofs.YtoeblipchoglaaaGreatDoor
set_option maxRecDepth 100000
namespace Ty
theorem lists : Tryz.prog.underlying 86 = some (.slice 91) := by kernel_rfl
theorem ints_info : (Tryz.prog.info? 91).map (fun i => (i.zero, i.size, i.bytes)) = some (some (.slice none 0 0), 1, 24) := by kernel_rfl
end Ty
end Go.Proofs.YtoeblipchoglaaaGreatDoor
namespace Go.Proofs.YtoeblipchoglaaaGreatDoor
set_option maxRecDepth 100000
namespace Cod
def zig (n : Int) : Nat := if 0 ≤ n then (2 * n).toNat else (-2 * n - 1).toNat
def zag (u : Nat) : Int := if u % 2 = 0 then (u / 2 : Nat) else -((u / 2 : Nat) : Int) - 1
theorem zag_zig (n : Int) : zag (zig n) = n := by
  unfold zag zig
  split <;> split <;> omega
theorem zig_zag (u : Nat) : zig (zag u) = u := by
  unfold zag zig
  split <;> split <;> omega
theorem zig_lt {n : Int} (h : I64 n) : zig n < 18446744073709551616 := by unfold I64 at h; unfold zig; split <;> omega
theorem zag_in {u : Nat} (h : u < 18446744073709551616) : I64 (zag u) := by unfold I64 zag; split <;> omega
def vi (u : Nat) : List UInt8 := if h : u < 128 then [UInt8.ofNat u] else UInt8.ofNat (u % 128 + 128) :: vi (u / 128)
termination_by u
theorem vi_small {u : Nat} (h : u < 128) : vi u = [UInt8.ofNat u] := by rw [vi, dif_pos h]
theorem vi_big {u : Nat} (h : ¬ u < 128) : vi u = UInt8.ofNat (u % 128 + 128) :: vi (u / 128) := by rw [vi, dif_neg h]
def num (n : Int) : List UInt8 := vi (zig n)
def nums (l : List Int) : List UInt8 := l.flatMap num
def put (l : List Int) : List UInt8 := num l.length ++ nums l
theorem nums_cons (n : Int) (l : List Int) : nums (n :: l) = num n ++ nums l := by simp [nums]
theorem nums_append (a b : List Int) : nums (a ++ b) = nums a ++ nums b := by simp [nums]

def rd : Nat → Nat → List UInt8 → Option (Nat × Nat)
  | _, _, [] => none
  | i, u, c :: b =>
    if (i = 9 ∧ 1 < c.toNat) ∨ 9 < i then none
    else if 127 < c.toNat then rd (i + 1) (u + c.toNat % 128 * 2 ^ (7 * i)) b
    else if c.toNat = 0 ∧ 0 < i then none
    else some (u + c.toNat % 128 * 2 ^ (7 * i), i + 1)
def next (b : List UInt8) : Option (Int × Nat) := (rd 0 0 b).map fun p => (zag p.1, p.2)
def more : Nat → List UInt8 → Option (List Int × List UInt8)
  | 0, b => some ([], b)
  | n + 1, b => (next b).bind fun p => (more n (b.drop p.2)).map fun q => (p.1 :: q.1, q.2)
def get (b : List UInt8) : Option (List Int) :=
  (next b).bind fun p => if p.1 < 0 ∨ 4000 < p.1 then none else (more p.1.toNat (b.drop p.2)).bind fun q => if q.2 = [] then some q.1 else none

theorem vi_ne (u : Nat) : vi u ≠ [] := by rw [vi]; split <;> simp
theorem vi_length {k : Nat} : ∀ {u : Nat}, u < 2 ^ (7 * (k + 1)) → (vi u).length ≤ k + 1 := by
  induction k with
  | zero => intro u h; rw [vi_small (by simpa using h)]; simp
  | succ k ih =>
    intro u h
    by_cases hs : u < 128
    · rw [vi_small hs]; simp
    · rw [vi_big hs]
      have : u / 128 < 2 ^ (7 * (k + 1)) := by
        rw [Nat.div_lt_iff_lt_mul (by omega)]
        calc u < 2 ^ (7 * (k + 1 + 1)) := h
          _ = 2 ^ (7 * (k + 1)) * 128 := by rw [show 7 * (k + 1 + 1) = 7 * (k + 1) + 7 by omega, Nat.pow_add]
      have := ih this
      simp; omega
theorem num_length {n : Int} (h : I64 n) : (num n).length ≤ 10 := vi_length (k := 9) (Nat.lt_of_lt_of_le (zig_lt h) (by decide))
theorem num_length_small {n : Nat} (h : n ≤ 4000) : (num n).length ≤ 2 := vi_length (k := 1) (by unfold zig; split <;> omega)
theorem num_pos (n : Int) : 0 < (num n).length := List.length_pos_iff.2 (vi_ne _)
theorem nums_length {l : List Int} (h : ∀ n ∈ l, I64 n) : (nums l).length ≤ 10 * l.length := by
  induction l with
  | nil => simp [nums]
  | cons n l ih =>
    rw [nums_cons, List.length_append, List.length_cons]
    have := num_length (h n (by simp))
    have := ih fun m hm => h m (by simp [hm])
    omega
theorem put_length {l : List Int} (h : ∀ n ∈ l, I64 n) (hl : l.length ≤ 4000) : (put l).length ≤ 10 * l.length + 2 := by
  unfold put
  rw [List.length_append]
  have := nums_length h
  have := num_length_small hl
  omega
theorem put_pos (l : List Int) : 0 < (put l).length := by
  unfold put
  rw [List.length_append]
  have := num_pos (l.length : Int)
  omega

theorem rd_vi : ∀ (u i : Nat) (acc : Nat) (rest : List UInt8), u * 2 ^ (7 * i) < 18446744073709551616 → (0 < i → u ≠ 0) → rd i acc (vi u ++ rest) = some (acc + u * 2 ^ (7 * i), i + (vi u).length) := by
  intro u
  induction u using Nat.strongRecOn with
  | _ u ih =>
    intro i acc rest hu h0
    have hi : u = 0 ∨ i ≤ 9 := by
      by_cases hz : u = 0
      · exact .inl hz
      · refine .inr (Nat.le_of_not_lt fun hi => ?_)
        have : 2 ^ 70 ≤ 2 ^ (7 * i) := Nat.pow_le_pow_right (by omega) (by omega)
        have : 1 * 2 ^ 70 ≤ u * 2 ^ (7 * i) := Nat.mul_le_mul (by omega) this
        omega
    have hi9 : i ≤ 9 := by
      rcases hi with h | h
      · rcases Nat.eq_zero_or_pos i with h2 | h2
        · omega
        · exact absurd h (h0 h2)
      · exact h
    have h9 : i = 9 → u ≤ 1 := fun h => by subst h; omega
    by_cases hs : u < 128
    · rw [vi_small hs]
      have hc : (UInt8.ofNat u).toNat = u := by simp [UInt8.toNat_ofNat']; omega
      simp only [List.cons_append, List.nil_append, rd, hc, List.length_singleton]
      rw [if_neg (by rintro (⟨h1, h2⟩ | h1); have := h9 h1; omega; omega), if_neg (by omega), if_neg (by rintro ⟨h1, h2⟩; exact h0 h2 h1), Nat.mod_eq_of_lt hs]
    · have h99 : i ≠ 9 := fun h => by have := h9 h; omega
      rw [vi_big hs]
      have hc : (UInt8.ofNat (u % 128 + 128)).toNat = u % 128 + 128 := by simp [UInt8.toNat_ofNat']; omega
      simp only [List.cons_append, rd, hc, List.length_cons]
      rw [if_neg (by omega), if_pos (by omega)]
      have hp : 2 ^ (7 * (i + 1)) = 128 * 2 ^ (7 * i) := by rw [show 7 * (i + 1) = 7 * i + 7 by omega, Nat.pow_add]; omega
      have hd : u = 128 * (u / 128) + u % 128 := (Nat.div_add_mod u 128).symm
      have hm : u * 2 ^ (7 * i) = u / 128 * 2 ^ (7 * (i + 1)) + u % 128 * 2 ^ (7 * i) := by
        rw [hp]
        conv => lhs; rw [hd]
        rw [Nat.add_mul, Nat.mul_comm 128, Nat.mul_assoc]
      rw [ih (u / 128) (by omega) (i + 1) _ rest (by omega) (fun _ => by omega), hm, show (u % 128 + 128) % 128 = u % 128 by omega]
      refine congrArg some (Prod.ext ?_ ?_) <;> simp only <;> omega
theorem next_num {n : Int} (h : I64 n) (rest : List UInt8) : next (num n ++ rest) = some (n, (num n).length) := by
  unfold next num
  rw [rd_vi _ 0 0 rest (by simpa using zig_lt h) (by omega)]
  simp [zag_zig]
theorem more_nums {l : List Int} (h : ∀ n ∈ l, I64 n) (rest : List UInt8) : more l.length (nums l ++ rest) = some (l, rest) := by
  induction l with
  | nil => simp [more, nums]
  | cons n l ih =>
    rw [nums_cons, List.length_cons, more, List.append_assoc, next_num (h n (by simp))]
    simp [ih fun m hm => h m (by simp [hm])]
theorem get_put_append {l : List Int} (h : ∀ n ∈ l, I64 n) (hl : l.length ≤ 4000) (rest : List UInt8) : get (put l ++ rest) = if rest = [] then some l else none := by
  unfold get put
  rw [List.append_assoc, next_num (by unfold I64; omega)]
  simp only [Option.bind_some]
  rw [if_neg (by omega)]
  simp [more_nums h]
theorem get_put {l : List Int} (h : ∀ n ∈ l, I64 n) (hl : l.length ≤ 4000) : get (put l) = some l := by
  have := get_put_append h hl []
  simpa using this

theorem rd_inv : ∀ (b : List UInt8) (i acc u k : Nat), rd i acc b = some (u, k) → acc < 2 ^ (7 * i) → i ≤ 9 →
    ∃ x, u = acc + x * 2 ^ (7 * i) ∧ u < 18446744073709551616 ∧ i < k ∧ k ≤ i + b.length ∧ b.take (k - i) = vi x ∧ (0 < i → x ≠ 0)
  | [], i, acc, u, k, h, _, _ => by simp [rd] at h
  | c :: b, i, acc, u, k, h, ha, hi => by
    simp only [rd] at h
    split at h
    · cases h
    · rename_i hn
      have hc : c.toNat < 256 := c.toBitVec.isLt
      have hcc : UInt8.ofNat c.toNat = c := UInt8.ofNat_toNat
      have hp : 2 ^ (7 * (i + 1)) = 128 * 2 ^ (7 * i) := by rw [show 7 * (i + 1) = 7 * i + 7 by omega, Nat.pow_add]; omega
      have h9 : i = 9 → c.toNat ≤ 1 := fun h => by omega
      split at h
      · rename_i hb
        have hi8 : i ≤ 8 := by omega
        have hlt : acc + c.toNat % 128 * 2 ^ (7 * i) < 2 ^ (7 * (i + 1)) := by
          have : c.toNat % 128 * 2 ^ (7 * i) ≤ 127 * 2 ^ (7 * i) := Nat.mul_le_mul (by omega) (Nat.le_refl _)
          rw [hp]; omega
        obtain ⟨x, h1, h2, h3, h4, h5, h6⟩ := rd_inv b (i + 1) _ u k h hlt (by omega)
        refine ⟨c.toNat % 128 + x * 128, ?_, h2, by omega, by simp; omega, ?_, fun _ => by have := h6 (by omega); omega⟩
        · rw [h1, hp, Nat.add_mul, Nat.mul_assoc]; omega
        · rw [show k - i = (k - (i + 1)) + 1 by omega, List.take_succ_cons, h5]
          have hx := h6 (by omega)
          have e : vi (c.toNat % 128 + x * 128) = c :: vi x := by
            rw [vi_big (by omega), show (c.toNat % 128 + x * 128) % 128 + 128 = c.toNat by omega, show (c.toNat % 128 + x * 128) / 128 = x by omega, hcc]
          rw [e]
      · rename_i hb
        split at h
        · cases h
        · rename_i hz
          simp only [Option.some.injEq, Prod.mk.injEq] at h
          obtain ⟨rfl, rfl⟩ := h
          have hm : c.toNat % 128 = c.toNat := by omega
          refine ⟨c.toNat, by rw [hm], ?_, by omega, by simp, ?_, fun h => by omega⟩
          · rw [hm]
            have h63 : 2 ^ (7 * i) ≤ 2 ^ 63 := Nat.pow_le_pow_right (by omega) (by omega)
            by_cases h : i = 9
            · have := h9 h
              have : c.toNat * 2 ^ (7 * i) ≤ 1 * 2 ^ (7 * i) := Nat.mul_le_mul this (Nat.le_refl _)
              omega
            · have h56 : 2 ^ (7 * i) ≤ 2 ^ 56 := Nat.pow_le_pow_right (by omega) (by omega)
              have : c.toNat * 2 ^ (7 * i) ≤ 127 * 2 ^ (7 * i) := Nat.mul_le_mul (by omega) (Nat.le_refl _)
              omega
          · rw [show i + 1 - i = 1 by omega, vi_small (by omega), hcc]; rfl
theorem next_inv {b : List UInt8} {n : Int} {k : Nat} (h : next b = some (n, k)) : I64 n ∧ 0 < k ∧ k ≤ b.length ∧ b.take k = num n := by
  unfold next at h
  cases hr : rd 0 0 b with
  | none => rw [hr] at h; cases h
  | some p =>
    rw [hr] at h
    obtain ⟨u, k'⟩ := p
    simp only [Option.map_some, Option.some.injEq, Prod.mk.injEq] at h
    obtain ⟨rfl, rfl⟩ := h
    obtain ⟨x, h1, h2, h3, h4, h5, _⟩ := rd_inv b 0 0 u k' hr (by simp) (by omega)
    have hx : u = x := by simpa using h1
    subst hx
    exact ⟨zag_in h2, h3, by omega, by unfold num; rw [zig_zag]; simpa using h5⟩
theorem more_inv : ∀ {n : Nat} {b : List UInt8} {l : List Int} {r : List UInt8}, more n b = some (l, r) → l.length = n ∧ b = nums l ++ r ∧ ∀ m ∈ l, I64 m
  | 0, b, l, r, h => by simp only [more, Option.some.injEq, Prod.mk.injEq] at h; obtain ⟨rfl, rfl⟩ := h; simp [nums]
  | n + 1, b, l, r, h => by
    simp only [more] at h
    cases hn : next b with
    | none => rw [hn] at h; cases h
    | some p =>
      obtain ⟨v, k⟩ := p
      rw [hn, Option.bind_some] at h
      simp only at h
      cases hm : more n (b.drop k) with
      | none => rw [hm] at h; cases h
      | some q =>
        obtain ⟨l', r'⟩ := q
        rw [hm] at h
        simp only [Option.map_some, Option.some.injEq, Prod.mk.injEq] at h
        obtain ⟨rfl, rfl⟩ := h
        obtain ⟨h1, h2, h3⟩ := more_inv hm
        obtain ⟨g1, _, _, g4⟩ := next_inv hn
        refine ⟨by simp [h1], ?_, fun m hm => ?_⟩
        · rw [nums_cons, ← g4, List.append_assoc, ← h2, List.take_append_drop]
        · rcases List.mem_cons.1 hm with rfl | hm
          · exact g1
          · exact h3 m hm
theorem get_inv {b : List UInt8} {l : List Int} (h : get b = some l) : b = put l ∧ l.length ≤ 4000 ∧ ∀ m ∈ l, I64 m := by
  unfold get at h
  cases hn : next b with
  | none => rw [hn] at h; cases h
  | some p =>
    obtain ⟨v, k⟩ := p
    rw [hn, Option.bind_some] at h
    simp only at h
    split at h
    · cases h
    · rename_i hv
      cases hm : more v.toNat (b.drop k) with
      | none => rw [hm] at h; cases h
      | some q =>
        obtain ⟨l', r⟩ := q
        rw [hm, Option.bind_some] at h
        simp only at h
        split at h
        · rename_i hr
          subst hr
          cases h
          obtain ⟨h1, h2, h3⟩ := more_inv hm
          obtain ⟨_, _, _, g4⟩ := next_inv hn
          have hlv : (l.length : Int) = v := by omega
          refine ⟨?_, by omega, h3⟩
          unfold put
          rw [hlv, ← g4]
          simp only [List.append_nil] at h2
          rw [← h2, List.take_append_drop]
        · cases h
def hdr (n : Nat) : List UInt8 := [UInt8.ofNat (n / 65536), UInt8.ofNat (n / 256), UInt8.ofNat n]
def body (l : List Int) : List UInt8 := hdr (put l).length ++ put l
def frame (l : List Int) : List UInt8 := body l ++ Dig.bytes8 (Dig.text (body l))
def long (b : List UInt8) : Nat := (b.getD 0 0).toNat * 65536 + (b.getD 1 0).toNat * 256 + (b.getD 2 0).toNat
def whole (b : List UInt8) : Option (List Int × Nat) :=
  if b.length < 11 ∨ b.length < long b + 11 then none
  else if (b.drop (3 + long b)).take 8 ≠ Dig.bytes8 (Dig.text (b.take (3 + long b))) then none
  else (get ((b.take (3 + long b)).drop 3)).map fun l => (l, long b + 11)
theorem long_lt (b : List UInt8) : long b < 16777216 := by
  unfold long
  have h1 := (b.getD 0 0).toBitVec.isLt
  have h2 := (b.getD 1 0).toBitVec.isLt
  have h3 := (b.getD 2 0).toBitVec.isLt
  simp only [UInt8.toNat] at *
  omega
theorem whole_size {b : List UInt8} {l : List Int} {n : Nat} (h : whole b = some (l, n)) : 11 ≤ n ∧ n ≤ b.length ∧ n = long b + 11 := by
  unfold whole at h
  split at h
  · cases h
  · split at h
    · cases h
    · cases hg : get ((b.take (3 + long b)).drop 3) with
      | none => rw [hg] at h; cases h
      | some l' => rw [hg] at h; simp only [Option.map_some, Option.some.injEq, Prod.mk.injEq] at h; omega
def frames (b : List UInt8) : List (List Int) × Nat :=
  match h : whole b with
  | none => ([], 0)
  | some (l, n) => (l :: (frames (b.drop n)).1, n + (frames (b.drop n)).2)
termination_by b.length
decreasing_by all_goals (have := whole_size h; simp only [List.length_drop]; omega)
theorem frames_none {b : List UInt8} (h : whole b = none) : frames b = ([], 0) := by
  rw [frames]; split
  · rfl
  · rename_i h2; rw [h] at h2; cases h2
theorem frames_some {b : List UInt8} {l : List Int} {n : Nat} (h : whole b = some (l, n)) : frames b = (l :: (frames (b.drop n)).1, n + (frames (b.drop n)).2) := by
  rw [frames]; split
  · rename_i h2; rw [h] at h2; cases h2
  · rename_i l' n' h2; rw [h] at h2; cases h2; rfl
theorem hdr_length (n : Nat) : (hdr n).length = 3 := rfl
theorem bytes8_length (d : BitVec 64) : (Dig.bytes8 d).length = 8 := by simp [Dig.bytes8]
theorem frame_length (l : List Int) : (frame l).length = (put l).length + 11 := by simp [frame, body, hdr_length, bytes8_length]; omega
theorem long_hdr {n : Nat} (hn : n < 16777216) (rest : List UInt8) : long (hdr n ++ rest) = n := by
  simp [long, hdr, UInt8.toNat_ofNat']; omega
theorem put_small {l : List Int} (h : ∀ n ∈ l, I64 n) (hl : l.length ≤ 4000) : (put l).length < 16777216 := by have := put_length h hl; omega
theorem whole_frame {l : List Int} (h : ∀ n ∈ l, I64 n) (hl : l.length ≤ 4000) (rest : List UInt8) : whole (frame l ++ rest) = some (l, (frame l).length) := by
  have hs := put_small h hl
  have hlong : long (frame l ++ rest) = (put l).length := by
    unfold frame body
    simp only [List.append_assoc]
    exact long_hdr hs _
  have hbl : (body l).length = 3 + (put l).length := by simp [body, hdr_length]
  unfold whole
  rw [hlong, if_neg (by rw [List.length_append, frame_length]; omega)]
  have e1 : (frame l ++ rest).take (3 + (put l).length) = body l := by
    unfold frame
    rw [List.append_assoc, ← hbl, List.take_left']
    rfl
  have e2 : ((frame l ++ rest).drop (3 + (put l).length)).take 8 = Dig.bytes8 (Dig.text (body l)) := by
    unfold frame
    rw [List.append_assoc, ← hbl, List.drop_left' rfl, List.take_left' (bytes8_length _)]
  rw [e1, e2, if_neg (by simp)]
  have e3 : (body l).drop 3 = put l := by unfold body; rw [List.drop_left' (hdr_length _)]
  rw [e3, get_put h hl, frame_length]; rfl
theorem whole_cut {l : List Int} (h : ∀ n ∈ l, I64 n) (hl : l.length ≤ 4000) {k : Nat} (hk : k < (frame l).length) : whole ((frame l).take k) = none := by
  have hs := put_small h hl
  unfold whole
  rw [if_pos]
  have hlen : ((frame l).take k).length = k := by rw [List.length_take]; omega
  rw [hlen]
  by_cases hk3 : k < 11
  · exact .inl hk3
  · refine .inr ?_
    have hlong : long ((frame l).take k) = (put l).length := by
      unfold frame body
      rw [List.append_assoc, List.take_append, hdr_length, List.take_of_length_le (by rw [hdr_length]; omega)]
      exact long_hdr hs _
    rw [hlong]
    rw [frame_length] at hk
    omega
def all (ls : List (List Int)) : List UInt8 := ls.flatMap frame
def Fits (ls : List (List Int)) : Prop := ∀ l ∈ ls, (∀ n ∈ l, I64 n) ∧ l.length ≤ 4000
theorem frames_all {ls : List (List Int)} (h : Fits ls) (rest : List UInt8) : frames (all ls ++ rest) = (ls ++ (frames rest).1, (all ls).length + (frames rest).2) := by
  induction ls with
  | nil => simp [all]
  | cons l ls ih =>
    obtain ⟨h1, h2⟩ := h l (by simp)
    have e : all (l :: ls) ++ rest = frame l ++ (all ls ++ rest) := by simp [all]
    rw [e, frames_some (whole_frame h1 h2 _), List.drop_left' rfl, ih fun m hm => h m (by simp [hm])]
    simp [all]; omega
end Cod
end Go.Proofs.YtoeblipchoglaaaGreatDoor
namespace Go.Proofs.YtoeblipchoglaaaGreatDoor
set_option maxRecDepth 100000
namespace Cod
theorem whole_nil : whole [] = none := by unfold whole; rw [if_pos (.inl (by simp))]
theorem all_nil : all [] = [] := rfl
theorem all_cons (l : List Int) (ls : List (List Int)) : all (l :: ls) = frame l ++ all ls := by simp [all]
theorem all_append (a b : List (List Int)) : all (a ++ b) = all a ++ all b := by simp [all]
theorem all_take_succ {ls : List (List Int)} {k : Nat} (h : k < ls.length) : all (ls.take (k + 1)) = all (ls.take k) ++ frame ls[k] := by
  rw [List.take_succ_eq_append_getElem h, all_append]; simp [all]
theorem Fits.take {ls : List (List Int)} (h : Fits ls) (k : Nat) : Fits (ls.take k) := fun l hl => h l (List.mem_of_mem_take hl)
theorem frames_torn {ls : List (List Int)} (h : Fits ls) {k at_ : Nat} (h1 : (all (ls.take k)).length ≤ at_) (h2 : k < ls.length → at_ < (all (ls.take (k + 1))).length) :
    frames ((all ls).take at_) = (ls.take k, (all (ls.take k)).length) := by
  have e : all ls = all (ls.take k) ++ all (ls.drop k) := by rw [← all_append, List.take_append_drop]
  have hz : ∀ r, whole r = none → frames (all (ls.take k) ++ r) = (ls.take k, (all (ls.take k)).length) := fun r hr => by
    rw [frames_all (h.take k), frames_none hr]; simp
  rw [e, List.take_append, List.take_of_length_le h1]
  by_cases hk : k < ls.length
  · have hd : ls.drop k = ls[k] :: ls.drop (k + 1) := List.drop_eq_getElem_cons hk
    have h3 := h2 hk
    rw [all_take_succ hk, List.length_append] at h3
    rw [hd, all_cons, List.take_append_of_le_length (by omega)]
    obtain ⟨g1, g2⟩ := h ls[k] (List.getElem_mem _)
    exact hz _ (whole_cut g1 g2 (by omega))
  · rw [List.drop_eq_nil_of_le (by omega), all_nil, List.take_nil]
    exact hz _ whole_nil
theorem frames_len : ∀ (b : List UInt8), (frames b).2 ≤ b.length := by
  intro b
  obtain ⟨n, hn⟩ : ∃ n, n = b.length := ⟨_, rfl⟩
  revert b
  induction n using Nat.strongRecOn with
  | _ n ih =>
    intro b hn
    cases hw : whole b with
    | none => rw [frames_none hw]; simp
    | some p =>
      obtain ⟨l, k⟩ := p
      have hs := whole_size hw
      rw [frames_some hw]
      have := ih (b.drop k).length (by rw [List.length_drop]; omega) (b.drop k) rfl
      rw [List.length_drop] at this
      simp only; omega
end Cod
end Go.Proofs.YtoeblipchoglaaaGreatDoor
namespace Go.Proofs.YtoeblipchoglaaaGreatDoor
set_option maxRecDepth 100000
namespace Cod
theorem hdr_long {b : List UInt8} (h : 3 ≤ b.length) : hdr (long b) = b.take 3 := by
  match b, h with
  | x :: y :: z :: r, _ =>
    have h1 := x.toBitVec.isLt
    have h2 := y.toBitVec.isLt
    have h3 := z.toBitVec.isLt
    have e1 : x.toNat < 256 := h1
    have e2 : y.toNat < 256 := h2
    have e3 : z.toNat < 256 := h3
    have e : ∀ (u : UInt8) (n : Nat), n % 256 = u.toNat → UInt8.ofNat n = u := fun u n hn => by
      apply UInt8.toNat_inj.1
      rw [UInt8.toNat_ofNat', ← hn]
    simp only [hdr, long, List.getD_cons_zero, List.getD_cons_succ, List.take_succ_cons, List.take_zero]
    rw [e x _ (by omega), e y _ (by omega), e z _ (by omega)]
theorem whole_inv {b : List UInt8} {l : List Int} {n : Nat} (h : whole b = some (l, n)) : b.take n = frame l ∧ l.length ≤ 4000 ∧ ∀ m ∈ l, I64 m := by
  have hs := whole_size h
  unfold whole at h
  split at h
  · cases h
  · rename_i hlen
    split at h
    · cases h
    · rename_i hsum
      have hsum : (b.drop (3 + long b)).take 8 = Dig.bytes8 (Dig.text (b.take (3 + long b))) := by
        exact Classical.byContradiction hsum
      cases hg : get ((b.take (3 + long b)).drop 3) with
      | none => rw [hg] at h; cases h
      | some l' =>
        rw [hg] at h
        simp only [Option.map_some, Option.some.injEq, Prod.mk.injEq] at h
        obtain ⟨rfl, rfl⟩ := h
        obtain ⟨h1, h2, h3⟩ := get_inv hg
        have hk : (put l').length = long b := by
          rw [← h1, List.length_drop, List.length_take]; omega
        have hb : b.take (3 + long b) = body l' := by
          unfold body
          rw [hk, hdr_long (by omega), ← h1]
          have := List.take_append_drop 3 (b.take (3 + long b))
          rw [List.take_take, Nat.min_eq_left (by omega)] at this
          exact this.symm
        refine ⟨?_, h2, h3⟩
        rw [show long b + 11 = (3 + long b) + 8 by omega, List.take_add, hsum, hb]
        rfl
theorem frames_inv : ∀ (b : List UInt8), b.take (frames b).2 = all (frames b).1 ∧ Fits (frames b).1 := by
  intro b
  obtain ⟨n, hn⟩ : ∃ n, n = b.length := ⟨_, rfl⟩
  revert b
  induction n using Nat.strongRecOn with
  | _ n ih =>
    intro b hn
    cases hw : whole b with
    | none =>
      rw [frames_none hw]
      exact ⟨rfl, fun l hl => by cases hl⟩
    | some p =>
      obtain ⟨l, k⟩ := p
      have hs := whole_size hw
      obtain ⟨h1, h2, h3⟩ := whole_inv hw
      obtain ⟨h4, h5⟩ := ih (b.drop k).length (by rw [List.length_drop]; omega) (b.drop k) rfl
      rw [frames_some hw]
      refine ⟨?_, fun l' hl' => ?_⟩
      · simp only
        rw [List.take_add, h1, h4, all_cons]
      · rcases List.mem_cons.1 hl' with rfl | hl'
        · exact ⟨h3, h2⟩
        · exact h5 l' hl'
theorem all_length_ge : ∀ (ls : List (List Int)), 11 * ls.length ≤ (all ls).length
  | [] => by simp
  | l :: ls => by
    have := all_length_ge ls
    rw [all_cons, List.length_append, frame_length, List.length_cons]; omega
theorem frames_count (b : List UInt8) : (all (frames b).1).length = (frames b).2 ∧ 11 * (frames b).1.length ≤ b.length := by
  have h1 := (frames_inv b).1
  have h2 := frames_len b
  have h3 := all_length_ge (frames b).1
  rw [← h1, List.length_take] at h3 ⊢
  omega
end Cod
namespace Jou
end Jou
end Go.Proofs.YtoeblipchoglaaaGreatDoor
namespace Go.Proofs.YtoeblipchoglaaaGreatDoor
set_option maxRecDepth 100000
open Sh Go.RowKit
theorem number_val {n : Int} (h : I64 n) : IntKind.u64.wrap (BitVec.ofInt IntKind.u64.bits (IntKind.u64.wrap (IntKind.u64.wrap n * 2 ^ min (1 : Int).toNat IntKind.u64.bits)) ^^^ BitVec.ofInt IntKind.u64.bits (IntKind.u64.wrap (n.fdiv (2 ^ min (63 : Int).toNat IntKind.i64.bits)))).toNat = (Cod.zig n : Int) := by
  unfold I64 at h
  have e1 : (2 : Int) ^ min (1 : Int).toNat IntKind.u64.bits = 2 := rfl
  have e2 : (2 : Int) ^ min (63 : Int).toNat IntKind.i64.bits = 9223372036854775808 := rfl
  rw [e1, e2]
  show IntKind.u64.wrap ((BitVec.ofInt 64 _ ^^^ BitVec.ofInt 64 _ : BitVec 64).toNat : Int) = _
  by_cases hn : 0 ≤ n
  · have h1 : n.fdiv 9223372036854775808 = 0 := by rw [Int.fdiv_eq_ediv_of_nonneg _ (by omega)]; omega
    rw [h1, u64w 0, u64w n, u64w (n % 18446744073709551616 * 2)]
    have h2 : n % 18446744073709551616 * 2 % 18446744073709551616 = ((2 * n).toNat : Int) := by omega
    rw [h2, Int.zero_emod, ofInt64]
    have h3 : BitVec.ofInt 64 0 = 0#64 := rfl
    rw [h3, BitVec.xor_zero, BitVec.toNat_ofNat, u64w]
    unfold Cod.zig
    rw [if_pos hn]; omega
  · have h1 : n.fdiv 9223372036854775808 = -1 := by rw [Int.fdiv_eq_ediv_of_nonneg _ (by omega)]; omega
    rw [h1, u64w n, u64w (-1), u64w (n % 18446744073709551616 * 2)]
    have h2 : n % 18446744073709551616 * 2 % 18446744073709551616 = ((2 * n + 18446744073709551616).toNat : Int) := by omega
    rw [h2, ofInt64]
    have h3 : BitVec.ofInt 64 (-1 % 18446744073709551616) = BitVec.allOnes 64 := by decide
    rw [h3, BitVec.xor_allOnes, BitVec.toNat_not, BitVec.toNat_ofNat, u64w]
    unfold Cod.zig
    rw [if_neg hn]; omega
theorem number_ret {n : Int} (h : I64 n) (w : World) : Ret Tryz.prog 135 #[.int .i64 n] w fun r w' => r = .int .u64 (Cod.zig n) ∧ w' = w := by
  refine ret_of (fun _ _ => sh_codec_number_ok _) fun R hR => ?_
  unfold sh_codec_number
  rw [conv_int Ty.int Ty.u64, bin_shl (by decide), bin_shr (by decide), conv_int Ty.int Ty.u64, bin_xor, number_val h]
  exact hR _ _ ⟨rfl, rfl⟩
theorem shr7 (u : Nat) : ((u : Int).fdiv (2 ^ min (7 : Int).toNat IntKind.u64.bits)) = ((u / 128 : Nat) : Int) := by
  have e1 : (2 : Int) ^ min (7 : Int).toNat IntKind.u64.bits = 128 := rfl
  rw [e1, Int.fdiv_eq_ediv_of_nonneg _ (by omega)]; rfl
theorem put_ret {base : Nat} {v : Value} {l : List UInt8} {n : Int} (h : I64 n) (w : World) (hown : w.ownsRow base 5 1 v l.length (bv l)) (hl : l.length < 10000000000000) (hb : base ≤ w.heap.size) :
    Ret Tryz.prog 121 #[v, .int .i64 n] w fun r w' => w'.ownsRow base 5 1 r (l ++ Cod.num n).length (bv (l ++ Cod.num n)) ∧ Mod (base ≤ ·) w w' := by
  refine ret_of (fun _ _ => sh_codec_put_ok _ _) fun R hR => ?_
  unfold sh_codec_put
  refine callF_same (number_ret h w) ?_
  refine loop2 (fun x y w1 => ∃ (p : List UInt8) (u : Nat), y = .int .u64 u ∧ l ++ Cod.num n = p ++ Cod.vi u ∧ p.length + (Cod.vi u).length < 100000000000000 ∧ w1.ownsRow base 5 1 x p.length (bv p) ∧ Mod (base ≤ ·) w w1) (fun _ y _ => (intOf y).toNat)
    ⟨l, _, rfl, rfl, by have := Cod.num_length h; unfold Cod.num at this; omega, hown, Mod.refl _ _⟩ ?_
  rintro hh x _ w1 h0 h5 ⟨p, u, rfl, hp, hlen, hx, hm⟩ K hK
  have hsz := hm.size
  rw [h5, h0, bin_gtr]
  by_cases hu : 127 < u
  · rw [decide_eq_true (by omega), Br_bool, if_pos rfl, conv_int Ty.u64 Ty.u8, bin_or, byte_hi]
    rw [Cod.vi_big (by omega)] at hlen hp
    simp only [List.length_cons] at hlen
    refine app_byte hx (by omega) (by omega) fun v' w2 h1 hm2 => ?_
    rw [bin_shr (by decide), shr7]
    exact hK _ _ _ ⟨p ++ [UInt8.ofNat (u % 128 + 128)], u / 128, rfl, by rw [hp]; simp, by simp; omega, h1, hm.trans hm2⟩ (by simp [intOf]; omega)
  · rw [decide_eq_false (by omega), Br_bool, if_neg (by decide), conv_int Ty.u64 Ty.u8, u8_nat]
    rw [Cod.vi_small (by omega)] at hlen hp
    simp only [List.length_singleton] at hlen
    refine app_byte hx (by omega) (by omega) fun v' w2 h1 hm2 => ?_
    exact hR _ _ ⟨by rw [hp]; exact h1, hm.trans hm2⟩
def okE : Value := .int .i64 0
def limitE : Value := .int .i64 2
def formE : Value := .int .i64 7
def PutQ (l : List Int) (w : World) (r : Value) (w' : World) : Prop :=
  Ext w w' ∧ if 4000 < l.length then r = .tuple #[.slice none 0 0, limitE] else ∃ v, r = .tuple #[v, okE] ∧ w'.ownsRow w.heap.size 5 1 v (Cod.put l).length (bv (Cod.put l))
theorem Put_ret {l : List Int} (hi : ∀ n ∈ l, I64 n) {v : Value} (w : World) (hv : Sl w 1 v l.length (iv l)) : Ret Tryz.prog 96 #[v] w (PutQ l w) := by
  refine ret_of (fun _ _ => sh_codec_Put_ok _) fun R hR => ?_
  unfold sh_codec_Put
  obtain ⟨i, hi1, _, hs, _⟩ := Ty.info_parts Ty.int_info
  rw [hv.len Ty.ints, bin_gtr]
  by_cases hl : 4000 < l.length
  · rw [decide_eq_true (by omega), Br_bool, if_pos rfl]
    exact hR _ _ ⟨Ext.refl _, by rw [if_pos hl]; rfl⟩
  · rw [decide_eq_false (by omega), Br_bool, if_neg (by decide), hv.len Ty.ints]
    refine callF_ret (put_ret (base := w.heap.size) (l := []) (by unfold I64; omega) w (Own.nil _ _ _ _) (by simp) (Nat.le_refl _)) ?_
    rintro r w1 ⟨hr, hm1⟩
    rw [(hv.ext hm1.new).len Ty.ints]
    refine loop2 (fun x y w2 => ∃ k : Nat, k ≤ l.length ∧ y = .int .i64 k ∧ w2.ownsRow w.heap.size 5 1 x (Cod.num l.length ++ Cod.nums (l.take k)).length (bv (Cod.num l.length ++ Cod.nums (l.take k))) ∧ Mod (w.heap.size ≤ ·) w w2) (fun _ y _ => l.length - (intOf y).toNat)
      ⟨0, by omega, rfl, by simpa [Cod.nums] using hr, hm1⟩ ?_
    rintro hh x _ w2 h4 h15 ⟨k, hk, rfl, hx, hm⟩ K hK
    have hsz := hm.size
    rw [h15, h4, bin_lss]
    by_cases hlt : k < l.length
    · rw [decide_eq_true (by omega), Br_bool, if_pos rfl]
      obtain ⟨b, o, hc, _, hix⟩ := (hv.ext hm.new).index Ty.ints hi1 hs (k := .i64) hlt (by decide)
      rw [hix, load_cell Ty.int_agg (u := .int .i64 l[k]) (by rw [Nat.mul_one]; exact hc k _ (iv_get hlt))]
      have hn : I64 l[k] := hi _ (List.getElem_mem _)
      have hlen := Cod.num_length_small (n := l.length) (by omega)
      have hlen2 := Cod.nums_length (l := l.take k) fun n hn => hi n (List.mem_of_mem_take hn)
      rw [List.length_take] at hlen2
      refine callF_ret (put_ret hn w2 hx (by rw [List.length_append]; omega) (by omega)) ?_
      rintro r2 w3 ⟨hr2, hm2⟩
      rw [bin_add, i64_wrap (by omega) (by omega)]
      refine hK _ _ _ ⟨k + 1, by omega, by simp, ?_, hm.trans hm2⟩ (by simp [intOf]; omega)
      have e : Cod.nums (l.take (k + 1)) = Cod.nums (l.take k) ++ Cod.num l[k] := by rw [List.take_succ_eq_append_getElem hlt, Cod.nums_append]; simp [Cod.nums]
      rw [e, ← List.append_assoc]; exact hr2
    · rw [decide_eq_false (by omega), Br_bool, if_neg (by decide)]
      refine hR _ _ ⟨hm.new, ?_⟩
      rw [if_neg hl]
      rw [List.take_of_length_le (by omega)] at hx
      exact ⟨x, rfl, hx⟩

theorem one_start {n : Int} (h : I64 n) (hn : 0 ≤ n) : IntKind.u64.wrap (2 * IntKind.u64.wrap n) = (Cod.zig n : Int) := by
  unfold I64 at h
  rw [u64w, u64w]; unfold Cod.zig; rw [if_pos hn]; omega
theorem one_ret {n : Int} (h : I64 n) (w : World) : Ret Tryz.prog 103 #[.int .i64 n] w fun r w' => Ext w w' ∧ w'.ownsRow w.heap.size 5 1 r (Cod.num n).length (bv (Cod.num n)) := by
  refine ret_of (fun _ _ => sh_landfallref08_one_ok _) fun R hR => ?_
  unfold sh_landfallref08_one
  have h' := h
  unfold I64 at h'
  rw [conv_int Ty.int Ty.u64, bin_mul]
  refine join1 (fun x w1 => x = .int .u64 (Cod.zig n) ∧ w1 = w) ?_ fun K hK => ?_
  · rintro h10 _ w1 h3 ⟨rfl, hw⟩
    subst w1
    rw [h3]
    refine loop2 (fun y x w1 => ∃ (p : List UInt8) (u : Nat), y = .int .u64 u ∧ u < 18446744073709551616 ∧ Cod.num n = p ++ Cod.vi u ∧ p.length + (Cod.vi u).length < 100000000000000 ∧ w1.ownsRow w.heap.size 5 1 x p.length (bv p) ∧ Mod (w.heap.size ≤ ·) w w1) (fun y _ _ => (intOf y).toNat)
      ⟨[], _, rfl, Cod.zig_lt h, rfl, by have := Cod.num_length h; unfold Cod.num at this; simp; omega, Own.nil _ _ _ _, Mod.refl _ _⟩ ?_
    rintro hh _ x w1 h3 h4 ⟨p, u, rfl, hul, hp, hlen, hx, hm⟩ K hK
    have hsz := hm.size
    rw [h4, h3, bin_geq]
    by_cases hu : 128 ≤ u
    · rw [decide_eq_true (by omega), Br_bool, if_pos rfl, bin_rem (by decide), conv_int Ty.u64 Ty.u8, bin_add, byte_128]
      rw [Cod.vi_big (by omega)] at hlen hp
      simp only [List.length_cons] at hlen
      refine app_byte hx (by omega) (by omega) fun v' w2 h1 hm2 => ?_
      rw [bin_quo (by decide), show ((u : Int).tdiv 128) = ((u / 128 : Nat) : Int) from rfl, u64w, show (((u / 128 : Nat) : Int) % 18446744073709551616) = ((u / 128 : Nat) : Int) by omega]
      exact hK _ _ _ ⟨p ++ [UInt8.ofNat (u % 128 + 128)], u / 128, rfl, by omega, by rw [hp]; simp, by simp; omega, h1, hm.trans hm2⟩ (by simp [intOf]; omega)
    · rw [decide_eq_false (by omega), Br_bool, if_neg (by decide), conv_int Ty.u64 Ty.u8, u8_nat]
      rw [Cod.vi_small (by omega)] at hlen hp
      simp only [List.length_singleton] at hlen
      refine app_byte hx (by omega) (by omega) fun v' w2 h1 hm2 => ?_
      exact hR _ _ ⟨(hm.trans hm2).new, by rw [hp]; exact h1⟩
  · rw [bin_lss]
    by_cases hn : n < 0
    · rw [decide_eq_true hn, Br_bool, if_pos rfl, bin_add, un_neg, conv_int Ty.int Ty.u64, bin_mul, bin_add]
      refine hK _ _ ⟨?_, rfl⟩
      congr 1
      rw [i64_wrap (x := n + 1) (by omega) (by omega), i64_wrap (by omega) (by omega), u64w, u64w, u64w]
      unfold Cod.zig; rw [if_neg (by omega)]; omega
    · rw [decide_eq_false hn, Br_bool, if_neg (by decide)]
      exact hK _ _ ⟨by rw [one_start h (by omega)], rfl⟩
theorem refPut_ret {l : List Int} (hi : ∀ n ∈ l, I64 n) {v : Value} (w : World) (hv : Sl w 1 v l.length (iv l)) : Ret Tryz.prog 81 #[v] w (PutQ l w) := by
  refine ret_of (fun _ _ => sh_landfallref08_Put_ok _) fun R hR => ?_
  unfold sh_landfallref08_Put
  obtain ⟨i, hi1, _, hs, _⟩ := Ty.info_parts Ty.int_info
  rw [hv.len Ty.ints, bin_gtr]
  by_cases hl : 4000 < l.length
  · rw [decide_eq_true (by omega), Br_bool, if_pos rfl]
    exact hR _ _ ⟨Ext.refl _, by rw [if_pos hl]; rfl⟩
  · rw [decide_eq_false (by omega), Br_bool, if_neg (by decide), hv.len Ty.ints]
    refine callF_ret (one_ret (by unfold I64; omega) w) ?_
    rintro r w1 ⟨he1, hr⟩
    refine loop2 (fun x y w2 => ∃ k : Nat, k ≤ l.length ∧ y = .int .i64 k ∧ w2.ownsRow w.heap.size 5 1 x (Cod.num l.length ++ Cod.nums (l.take k)).length (bv (Cod.num l.length ++ Cod.nums (l.take k))) ∧ Ext w w2) (fun _ y _ => l.length - (intOf y).toNat)
      ⟨0, by omega, rfl, by simpa [Cod.nums] using hr, he1⟩ ?_
    rintro hh x _ w2 h4 h5 ⟨k, hk, rfl, hx, hm⟩ K hK
    have hsz := hm.size
    rw [(hv.ext hm).len Ty.ints, h5, h4, bin_lss]
    by_cases hlt : k < l.length
    · rw [decide_eq_true (by omega), Br_bool, if_pos rfl]
      obtain ⟨b, o, hc, _, hix⟩ := (hv.ext hm).index Ty.ints hi1 hs (k := .i64) hlt (by decide)
      rw [hix, load_cell Ty.int_agg (u := .int .i64 l[k]) (by rw [Nat.mul_one]; exact hc k _ (iv_get hlt))]
      have hn : I64 l[k] := hi _ (List.getElem_mem _)
      have hlen := Cod.num_length_small (n := l.length) (by omega)
      have hlen2 := Cod.nums_length (l := l.take k) fun n hn => hi n (List.mem_of_mem_take hn)
      have hlen3 := Cod.num_length hn
      rw [List.length_take] at hlen2
      refine callF_ret (one_ret hn w2) ?_
      rintro r2 w3 ⟨he2, hr2⟩
      have hs2 := he2.size
      refine app_bytes (Own.ext hx he2) (Sl.of_owns hr2) (by rw [List.length_append]; omega) (by omega) fun v' w4 h1 hm4 => ?_
      rw [bin_add, i64_wrap (by omega) (by omega)]
      refine hK _ _ _ ⟨k + 1, by omega, by simp, ?_, ?_⟩ (by simp [intOf]; omega)
      · have e : Cod.nums (l.take (k + 1)) = Cod.nums (l.take k) ++ Cod.num l[k] := by rw [List.take_succ_eq_append_getElem hlt, Cod.nums_append]; simp [Cod.nums]
        rw [e, ← List.append_assoc]; exact h1
      · refine (((Mod.of_ext hm).comp (.of_ext he2) (fun _ _ h => h) fun _ _ h => h : Mod (fun _ => False) w w3).comp hm4 (fun _ _ h => h) fun k hk h => ?_).ext fun _ _ h => h
        have := (Own.block hx h).1
        omega
    · rw [decide_eq_false (by omega), Br_bool, if_neg (by decide)]
      refine hR _ _ ⟨hm, ?_⟩
      rw [if_neg hl]
      rw [List.take_of_length_le (by omega)] at hx
      exact ⟨x, rfl, hx⟩
end Go.Proofs.YtoeblipchoglaaaGreatDoor
namespace Go.Proofs.YtoeblipchoglaaaGreatDoor
set_option maxRecDepth 100000
open Sh Go.RowKit
def brokenV : Value := .iface 177 (.agg #[])
def At1 (w : World) (b : Nat) (v : Value) (t : TypeId) : Prop := At w b (.cells #[v] t (0, 0))
theorem and127 : ∀ x : Fin 256, IntKind.u8.wrap (BitVec.ofInt IntKind.u8.bits (x.val : Int) &&& BitVec.ofInt IntKind.u8.bits 127).toNat = ((x.val % 128 : Nat) : Int) := by decide +kernel
theorem byte_and (c : UInt8) : IntKind.u8.wrap (BitVec.ofInt IntKind.u8.bits (c.toNat : Int) &&& BitVec.ofInt IntKind.u8.bits 127).toNat = ((c.toNat % 128 : Nat) : Int) := and127 ⟨c.toNat, c.toBitVec.isLt⟩
theorem shift_val {c i : Nat} (hi : i ≤ 9) (hc : c < 128) (h9 : i = 9 → c ≤ 1) : IntKind.u64.wrap (IntKind.u64.wrap (c : Int) * 2 ^ min (7 * (i : Int)).toNat IntKind.u64.bits) = ((c * 2 ^ (7 * i) : Nat) : Int) := by
  have e : min (7 * (i : Int)).toNat IntKind.u64.bits = 7 * i := by
    show min (7 * (i : Int)).toNat 64 = 7 * i
    omega
  have hlt : c * 2 ^ (7 * i) < 18446744073709551616 := by
    by_cases h : i = 9
    · have := h9 h
      subst h
      have : c * 2 ^ (7 * 9) ≤ 1 * 2 ^ (7 * 9) := Nat.mul_le_mul this (Nat.le_refl _)
      omega
    · have h56 : 2 ^ (7 * i) ≤ 2 ^ 56 := Nat.pow_le_pow_right (by omega) (by omega)
      have : c * 2 ^ (7 * i) ≤ 127 * 2 ^ 56 := Nat.mul_le_mul (by omega) h56
      omega
  have hc' : (c : Int) % 18446744073709551616 = c := by omega
  have this : (c : Int) * 2 ^ (7 * i) = ((c * 2 ^ (7 * i) : Nat) : Int) := by simp
  rw [e, u64w c, hc', this, u64w, Int.emod_eq_of_lt (by omega) (by omega)]
theorem or_val {u c i : Nat} (hu : u < 2 ^ (7 * i)) (hlt : u + c * 2 ^ (7 * i) < 18446744073709551616) : IntKind.u64.wrap (BitVec.ofInt IntKind.u64.bits (u : Int) ||| BitVec.ofInt IntKind.u64.bits ((c * 2 ^ (7 * i) : Nat) : Int)).toNat = ((u + c * 2 ^ (7 * i) : Nat) : Int) := by
  show IntKind.u64.wrap ((BitVec.ofInt 64 (u : Int) ||| BitVec.ofInt 64 ((c * 2 ^ (7 * i) : Nat) : Int) : BitVec 64).toNat : Int) = _
  rw [ofInt64, ofInt64, BitVec.toNat_or, BitVec.toNat_ofNat, BitVec.toNat_ofNat, Nat.mod_eq_of_lt (by omega), Nat.mod_eq_of_lt (by omega), u64w, Nat.or_comm, Nat.mul_comm c, ← Nat.two_pow_add_eq_or_of_lt hu]
  rw [Nat.mul_comm c] at hlt
  omega
theorem i64_wrap_bv {x : BitVec 64} {n : Int} (h : (x.toNat : Int) = n % 18446744073709551616) (hn : I64 n) : IntKind.i64.wrap (x.toNat : Int) = n := by
  unfold I64 at hn
  have hx := x.isLt
  simp only [IntKind.wrap, IntKind.signed, IntKind.bits, Bool.true_and]
  rw [h]
  simp only [ge_iff_le, decide_eq_true_eq, show (2 : Int) ^ 64 = 18446744073709551616 from rfl, show (2 : Int) ^ (64 - 1) = 9223372036854775808 from rfl]
  split <;> omega
theorem zag_val {u : Nat} (h : u < 18446744073709551616) :
    IntKind.i64.wrap (BitVec.ofInt IntKind.i64.bits (IntKind.i64.wrap ((u : Int).fdiv (2 ^ min (1 : Int).toNat IntKind.u64.bits))) ^^^
      BitVec.ofInt IntKind.i64.bits (IntKind.i64.wrap (-IntKind.i64.wrap (IntKind.u64.wrap (BitVec.ofInt IntKind.u64.bits (u : Int) &&& BitVec.ofInt IntKind.u64.bits 1).toNat)))).toNat = Cod.zag u := by
  have e1 : (2 : Int) ^ min (1 : Int).toNat IntKind.u64.bits = 2 := rfl
  have e2 : IntKind.u64.wrap (BitVec.ofInt IntKind.u64.bits (u : Int) &&& BitVec.ofInt IntKind.u64.bits 1).toNat = ((u % 2 : Nat) : Int) := by
    show IntKind.u64.wrap ((BitVec.ofInt 64 (u : Int) &&& 1#64 : BitVec 64).toNat : Int) = _
    rw [ofInt64, BitVec.toNat_and, BitVec.toNat_ofNat, Nat.mod_eq_of_lt (by omega)]
    rw [show (1#64).toNat = 1 from rfl, Nat.and_one_is_mod, u64w]; omega
  rw [e1, e2, Int.fdiv_eq_ediv_of_nonneg _ (by omega)]
  have e3 : IntKind.i64.wrap ((u : Int) / 2) = ((u / 2 : Nat) : Int) := by rw [i64_wrap (by omega) (by omega)]; omega
  rw [e3, i64_wrap (x := ((u % 2 : Nat) : Int)) (by omega) (by omega)]
  have hin := Cod.zag_in h
  show IntKind.i64.wrap ((BitVec.ofInt 64 ((u / 2 : Nat) : Int) ^^^ BitVec.ofInt 64 (IntKind.i64.wrap (-((u % 2 : Nat) : Int))) : BitVec 64).toNat : Int) = _
  refine i64_wrap_bv ?_ hin
  rw [ofInt64]
  by_cases h2 : u % 2 = 0
  · rw [h2]
    rw [show BitVec.ofInt 64 (IntKind.i64.wrap (-((0 : Nat) : Int))) = 0#64 from by decide, BitVec.xor_zero, BitVec.toNat_ofNat]
    unfold Cod.zag; rw [if_pos h2]; omega
  · rw [show u % 2 = 1 by omega]
    rw [show BitVec.ofInt 64 (IntKind.i64.wrap (-((1 : Nat) : Int))) = BitVec.allOnes 64 from by decide, BitVec.xor_allOnes, BitVec.toNat_not, BitVec.toNat_ofNat]
    unfold Cod.zag; rw [if_neg h2]; omega

def NextQ (b : Nat) (v : Value) (l : List UInt8) (w : World) (e : Ending) (w' : World) : Prop :=
  match Cod.next l with
  | none => e = .panicked [{ v := brokenV, recovered := false }] ∧ w' = w
  | some (n, k) => e = .returned (.int .i64 n) ∧ Mod (· = b) w w' ∧ w'.heap.size = w.heap.size ∧ ∃ v', At1 w' b v' 174 ∧ Sl w' 1 v' (l.drop k).length (bv (l.drop k)) ∧ ∀ g, v'.ownBlock = some g → v.ownBlock = some g
theorem rd_cons {i u : Nat} {c : UInt8} {b : List UInt8} : Cod.rd i u (c :: b) = if (i = 9 ∧ 1 < c.toNat) ∨ 9 < i then none
    else if 127 < c.toNat then Cod.rd (i + 1) (u + c.toNat % 128 * 2 ^ (7 * i)) b
    else if c.toNat = 0 ∧ 0 < i then none
    else some (u + c.toNat % 128 * 2 ^ (7 * i), i + 1) := rfl
theorem acc_lt {u c i : Nat} (hu : u < 2 ^ (7 * i)) (hi : i ≤ 9) (hc : c < 128) (h9 : i = 9 → c ≤ 1) : u + c * 2 ^ (7 * i) < 18446744073709551616 := by
  by_cases h : i = 9
  · have := h9 h
    subst h
    have : c * 2 ^ (7 * 9) ≤ 1 * 2 ^ (7 * 9) := Nat.mul_le_mul this (Nat.le_refl _)
    omega
  · have h56 : 2 ^ (7 * i) ≤ 2 ^ 56 := Nat.pow_le_pow_right (by omega) (by omega)
    have : c * 2 ^ (7 * i) ≤ 127 * 2 ^ 56 := Nat.mul_le_mul (by omega) h56
    omega
theorem acc_lt' {u c i : Nat} (hu : u < 2 ^ (7 * i)) (hc : c < 128) : u + c * 2 ^ (7 * i) < 2 ^ (7 * (i + 1)) := by
  have hp : 2 ^ (7 * (i + 1)) = 128 * 2 ^ (7 * i) := by rw [show 7 * (i + 1) = 7 * i + 7 by omega, Nat.pow_add]; omega
  have : c * 2 ^ (7 * i) ≤ 127 * 2 ^ (7 * i) := Nat.mul_le_mul (by omega) (Nat.le_refl _)
  omega
theorem cnext_ret {b : Nat} {v : Value} {l : List UInt8} (w : World) (hb : At1 w b v 174) (hv : Sl w 1 v l.length (bv l)) (hoff : l ≠ [] → Off (· = b) v) :
    Calls Tryz.prog 141 #[.pointer (some ⟨b, 0, none⟩)] w (NextQ b v l w) := by
  refine sh_codec_reader_next_ok _ ?_
  unfold sh_codec_reader_next
  unfold At1 at hb
  obtain ⟨i8, hi8, _, hs8, _⟩ := Ty.info_parts Ty.u8_info
  have hle := hv.le
  rw [nil_ptr, DoV_ok (Ty.reader_b w b)]
  refine load_i Ty.bytes_agg hb (u := v) rfl ?_
  rw [hv.len Ty.bytes]
  refine loop3 (fun x y z w1 => ∃ (u i : Nat), y = .int .u64 u ∧ z = .int .i64 i ∧ i ≤ l.length ∧ i ≤ 9 ∧ u < 2 ^ (7 * i) ∧ w1 = w ∧ Cod.rd i u (l.drop i) = Cod.rd 0 0 l) (fun _ _ z _ => l.length - (intOf z).toNat)
    ⟨0, 0, rfl, rfl, by omega, by omega, by simp, rfl, by simp⟩ ?_
  rintro h x _ _ w1 _ h3 h11 ⟨u, i, rfl, rfl, hil, hi9, hu, hw, hrd⟩ K hK
  subst hw
  rw [h11, bin_lss]
  by_cases hlt : i < l.length
  · rw [decide_eq_true (by omega), Br_bool, if_pos rfl]
    obtain ⟨g, o, hc, _, hix⟩ := hv.index Ty.bytes hi8 hs8 (k := .i64) hlt (by decide)
    rw [hix, load_cell Ty.u8_agg (u := .int .u8 l[i].toNat) (by rw [Nat.mul_one]; exact hc i _ (bv_get hlt))]
    rw [List.drop_eq_getElem_cons hlt, rd_cons] at hrd
    generalize l[i] = c at hrd
    have hc256 : c.toNat < 256 := c.toBitVec.isLt
    refine join0 (fun w' => w' = w1 ∧ ¬ ((i = 9 ∧ 1 < c.toNat) ∨ 9 < i)) ?_ fun K9 hK9 => ?_
    · rintro _ w2 ⟨hw2, hcn⟩
      subst w2
      rw [if_neg hcn] at hrd
      have hcn9 : i = 9 → c.toNat ≤ 1 := fun h => by omega
      have hcm9 : i = 9 → c.toNat % 128 ≤ 1 := fun h => by have := hcn9 h; omega
      rw [bin_and, byte_and, conv_int Ty.u8 Ty.u64, bin_mul, i64_wrap (by omega) (by omega), bin_shl (by omega), shift_val hi9 (by omega) hcm9, h3, bin_or, or_val hu (acc_lt hu hi9 (by omega) hcm9), bin_gtr]
      by_cases hbig : 127 < c.toNat
      · rw [if_pos hbig] at hrd
        rw [decide_eq_true (by omega), Br_bool, if_pos rfl, bin_add, i64_wrap (by omega) (by omega)]
        exact hK _ _ _ _ ⟨_, i + 1, rfl, by simp, by omega, by omega, acc_lt' hu (by omega), rfl, hrd⟩ (by simp [intOf]; omega)
      · rw [if_neg hbig] at hrd
        rw [decide_eq_false (by omega), Br_bool, if_neg (by decide)]
        refine join0 (fun w'' => w'' = w1 ∧ ¬ (c.toNat = 0 ∧ 0 < i)) ?_ fun K27 hK27 => ?_
        · rintro _ w2 ⟨hw2, hz⟩
          subst w2
          rw [if_neg hz] at hrd
          have hnx : Cod.next l = some (Cod.zag (u + c.toNat % 128 * 2 ^ (7 * i)), i + 1) := by unfold Cod.next; rw [← hrd]; rfl
          rw [nil_ptr, DoV_ok (Ty.reader_b w1 b)]
          refine load_i Ty.bytes_agg hb (u := v) rfl ?_
          rw [bin_add, i64_wrap (by omega) (by omega)]
          have hcast : ((i : Int) + 1) = ((i + 1 : Nat) : Int) := by omega
          rw [hcast]
          refine slice_from Ty.bytes hi8 hs8 (by decide) hv (l := i + 1) (by omega) fun v' hv' hown => ?_
          rw [nil_ptr, DoV_ok (Ty.reader_b w1 b)]
          have hone : v'.cells = #[v'] ∧ v'.oneCell' = true := by obtain ⟨a, cap, rfl, _⟩ := hv'; exact ⟨rfl, rfl⟩
          refine store_x Ty.bytes_size hb (by simp) hone.1 hone.2 fun w2 hm hat hsz => ?_
          rw [bin_shr (by decide), conv_int Ty.u64 Ty.int, bin_and, conv_int Ty.u64 Ty.int, un_neg, bin_xor, zag_val (acc_lt hu hi9 (by omega) hcm9)]
          refine (?_ : NextQ b v l w1 _ _)
          unfold NextQ
          rw [hnx]
          refine ⟨rfl, hm, hsz, v', hat, ?_, hown⟩
          have h1 : Sl w1 1 v' (l.drop (i + 1)).length (bv (l.drop (i + 1))) := by
            have e : (bv l).drop ((i + 1) * 1) = bv (l.drop (i + 1)) := by simp [bv, List.map_drop]
            rw [e] at hv'
            simpa using hv'
          exact h1.mod_ne hm fun hne g hg => hoff (fun e => hne (by rw [e]; simp [bv])) g (hown g hg)
        · refine join1 (fun x w' => x = .bool (decide (c.toNat = 0 ∧ 0 < i)) ∧ w' = w1) ?_ fun K hK => ?_
          · rintro h31 _ w3 h43 ⟨rfl, rfl⟩
            rw [h43, Br_bool]
            by_cases hz : c.toNat = 0 ∧ 0 < i
            · rw [decide_eq_true hz, if_pos rfl, build_i Ty.broken_new, iface_i Ty.broken_con, panic_i]
              rw [if_pos hz] at hrd
              refine (?_ : NextQ b v l w3 _ _)
              have hnx : Cod.next l = none := by unfold Cod.next; rw [← hrd]; rfl
              unfold NextQ
              rw [hnx]
              exact ⟨rfl, rfl⟩
            · rw [decide_eq_false hz, if_neg (by decide)]
              exact hK27 _ ⟨rfl, hz⟩
          · rw [bin_eql]
            by_cases hz : c.toNat = 0
            · rw [decide_eq_true (by omega), Gd_bool, if_pos rfl, bin_gtr]
              refine hK _ _ ⟨?_, rfl⟩
              congr 1; simp [hz]; try omega
            · rw [decide_eq_false (by omega), Gd_bool, if_neg (by decide)]
              exact hK _ _ ⟨by simp [hz], rfl⟩
    · refine join1 (fun x w' => x = .bool (decide ((i = 9 ∧ 1 < c.toNat) ∨ 9 < i)) ∧ w' = w1) ?_ fun K hK => ?_
      · rintro h15 _ w3 h25 ⟨rfl, rfl⟩
        rw [h25, Br_bool]
        by_cases hz : (i = 9 ∧ 1 < c.toNat) ∨ 9 < i
        · rw [decide_eq_true hz, if_pos rfl, build_i Ty.broken_new, iface_i Ty.broken_con, panic_i]
          rw [if_pos hz] at hrd
          refine (?_ : NextQ b v l w3 _ _)
          have hnx : Cod.next l = none := by unfold Cod.next; rw [← hrd]; rfl
          unfold NextQ
          rw [hnx]
          exact ⟨rfl, rfl⟩
        · rw [decide_eq_false hz, if_neg (by decide)]
          exact hK9 _ ⟨rfl, hz⟩
      · rw [bin_eql]
        by_cases h9 : i = 9
        · rw [decide_eq_true (by omega), Gd_bool, if_pos rfl, bin_gtr, Gd_bool]
          by_cases h1 : 1 < c.toNat
          · rw [decide_eq_true (by omega), if_neg (by decide)]
            exact hK _ _ ⟨by simp [h9, h1], rfl⟩
          · rw [decide_eq_false (by omega), if_pos rfl, bin_gtr]
            refine hK _ _ ⟨?_, rfl⟩
            congr 1; simp only [decide_eq_decide]; omega
        · rw [decide_eq_false (by omega), Gd_bool, if_neg (by decide), bin_gtr]
          refine hK _ _ ⟨?_, rfl⟩
          congr 1; simp only [decide_eq_decide]; omega
  · rw [decide_eq_false (by omega), Br_bool, if_neg (by decide), build_i Ty.broken_new, iface_i Ty.broken_con, panic_i]
    refine (?_ : NextQ b v l w1 _ _)
    have hnx : Cod.next l = none := by
      unfold Cod.next
      rw [← hrd, List.drop_of_length_le (by omega)]; rfl
    unfold NextQ
    rw [hnx]
    exact ⟨rfl, rfl⟩

def i64v (n : Int) : Value := .int .i64 n
def readV (l : List UInt8) : Value := match Cod.next l with
  | none => .tuple #[i64v 0, i64v 0]
  | some (n, k) => .tuple #[i64v n, i64v k]
theorem byte_rem (c : UInt8) : ((c.toNat : Int).tmod 128) = ((c.toNat % 128 : Nat) : Int) := by rw [Int.tmod_eq_emod_of_nonneg (by omega)]; omega
theorem shift_val' {c i : Nat} (hi : i ≤ 9) (hc : c < 128) (h9 : i = 9 → c ≤ 1) : IntKind.u64.wrap (IntKind.u64.wrap (c : Int) * 2 ^ min (IntKind.u64.wrap (7 * IntKind.u64.wrap (i : Int))).toNat IntKind.u64.bits) = ((c * 2 ^ (7 * i) : Nat) : Int) := by
  rw [u64w (i : Int), u64w (7 * _), show 7 * ((i : Int) % 18446744073709551616) % 18446744073709551616 = 7 * (i : Int) by omega]
  exact shift_val hi hc h9
theorem zag_ref {u : Nat} (h : u < 18446744073709551616) : Cod.zag u = if u % 2 = 1 then IntKind.i64.wrap (IntKind.i64.wrap (-IntKind.i64.wrap ((u / 2 : Nat) : Int)) - 1) else IntKind.i64.wrap ((u / 2 : Nat) : Int) := by
  unfold Cod.zag
  rw [i64_wrap (x := ((u / 2 : Nat) : Int)) (by omega) (by omega)]
  by_cases h2 : u % 2 = 0
  · rw [if_pos h2, if_neg (by omega)]
  · rw [if_neg h2, if_pos (by omega), i64_wrap (x := -_) (by omega) (by omega), i64_wrap (by omega) (by omega)]
theorem read_ret {v : Value} {l : List UInt8} (w : World) (hv : Sl w 1 v l.length (bv l)) : Ret Tryz.prog 125 #[v] w fun r w' => r = readV l ∧ w' = w := by
  refine ret_of (fun _ _ => sh_landfallref08_read_ok _) fun R hR => ?_
  unfold sh_landfallref08_read
  obtain ⟨i8, hi8, _, hs8, _⟩ := Ty.info_parts Ty.u8_info
  have hle := hv.le
  have hnone : Cod.next l = none → R (.returned (.tuple #[.int .i64 0, .int .i64 0])) w := fun hn => hR _ _ ⟨by unfold readV; rw [hn]; rfl, rfl⟩
  refine loop2 (fun y z w1 => ∃ (u i : Nat), y = .int .u64 u ∧ z = .int .i64 i ∧ i ≤ l.length ∧ i ≤ 9 ∧ u < 2 ^ (7 * i) ∧ w1 = w ∧ Cod.rd i u (l.drop i) = Cod.rd 0 0 l) (fun _ z _ => l.length - (intOf z).toNat)
    ⟨0, 0, rfl, rfl, by omega, by omega, by simp, rfl, by simp⟩ ?_
  rintro h _ _ w1 h4 h5 ⟨u, i, rfl, rfl, hil, hi9, hu, hw, hrd⟩ K hK
  subst hw
  refine join0 (fun w' => w' = w1 ∧ i < l.length) ?_ fun K2 hK2 => ?_
  · rintro _ w2 ⟨hw, hlt⟩
    subst w2
    obtain ⟨g, o, hc, _, hix⟩ := hv.index Ty.bytes hi8 hs8 (k := .i64) hlt (by decide)
    have hld : ∀ (w1' : World) (K : Value → World → Prop) (X : List PanicEntry → World → Prop), w1' = w1 → DoV Tryz.prog (Instr.loadAt 5 (.pointer (some ⟨g, o + i * 1, none⟩))) w1' K X = K (.int .u8 l[i].toNat) w1' := fun w1' K X hw => by
      subst w1'
      rw [load_cell Ty.u8_agg (u := .int .u8 l[i].toNat) (by rw [Nat.mul_one]; exact hc i _ (bv_get hlt))]
    rw [List.drop_eq_getElem_cons hlt, rd_cons] at hrd
    generalize l[i] = c at hrd hld
    have hc256 : c.toNat < 256 := c.toBitVec.isLt
    refine join0 (fun w' => w' = w1 ∧ ¬ ((i = 9 ∧ 1 < c.toNat) ∨ 9 < i)) ?_ fun K9 hK9 => ?_
    · rintro _ w2 ⟨hw2, hcn⟩
      subst w2
      rw [if_neg hcn] at hrd
      have hcn9 : i = 9 → c.toNat ≤ 1 := fun h => by omega
      have hcm9 : i = 9 → c.toNat % 128 ≤ 1 := fun h => by have := hcn9 h; omega
      rw [h5, hix, hld _ _ _ rfl, bin_rem (by decide), byte_rem, conv_int Ty.u8 Ty.u64, conv_int Ty.int Ty.uint, bin_mul, bin_shl (by rw [u64w]; omega), shift_val' hi9 (by omega) hcm9, h4, bin_or, or_val hu (acc_lt hu hi9 (by omega) hcm9), hix, hld _ _ _ rfl, bin_geq]
      by_cases hbig : 127 < c.toNat
      · rw [if_pos hbig] at hrd
        rw [decide_eq_true (by omega), Br_bool, if_pos rfl, bin_add, i64_wrap (by omega) (by omega)]
        exact hK _ _ _ ⟨_, i + 1, rfl, by simp, by omega, by omega, acc_lt' hu (by omega), rfl, hrd⟩ (by simp [intOf]; omega)
      · rw [if_neg hbig] at hrd
        rw [decide_eq_false (by omega), Br_bool, if_neg (by decide)]
        refine join0 (fun w'' => w'' = w1 ∧ ¬ (c.toNat = 0 ∧ 0 < i)) ?_ fun K27 hK27 => ?_
        · rintro _ w2 ⟨hw2, hz⟩
          subst w2
          rw [if_neg hz] at hrd
          have hnx : Cod.next l = some (Cod.zag (u + c.toNat % 128 * 2 ^ (7 * i)), i + 1) := by unfold Cod.next; rw [← hrd]; rfl
          have hlt64 := acc_lt hu hi9 (show c.toNat % 128 < 128 by omega) hcm9
          rw [zag_ref hlt64] at hnx
          generalize u + c.toNat % 128 * 2 ^ (7 * i) = x at hnx hlt64
          rw [bin_rem (by decide), Int.tmod_eq_emod_of_nonneg (by omega), bin_eql]
          have hq : ((x : Int).tdiv 2) = ((x / 2 : Nat) : Int) := rfl
          have hcast : IntKind.i64.wrap ((i : Int) + 1) = ((i + 1 : Nat) : Int) := by rw [i64_wrap (by omega) (by omega)]; omega
          have hu64 : IntKind.u64.wrap ((x / 2 : Nat) : Int) = ((x / 2 : Nat) : Int) := by rw [u64w]; omega
          by_cases h2 : x % 2 = 1
          · rw [decide_eq_true (by omega), Br_bool, if_pos rfl, bin_quo (by decide), hq, conv_int Ty.u64 Ty.int, un_neg, bin_sub, bin_add, hcast, hu64]
            rw [if_pos h2] at hnx
            exact hR _ _ ⟨by unfold readV; rw [hnx]; rfl, rfl⟩
          · rw [decide_eq_false (by omega), Br_bool, if_neg (by decide), bin_quo (by decide), hq, conv_int Ty.u64 Ty.int, bin_add, hcast, hu64]
            rw [if_neg h2] at hnx
            exact hR _ _ ⟨by unfold readV; rw [hnx]; rfl, rfl⟩
        · refine join1 (fun x w' => x = .bool (decide (c.toNat = 0 ∧ 0 < i)) ∧ w' = w1) ?_ fun K hK => ?_
          · rintro h31 _ w3 h43 ⟨rfl, rfl⟩
            rw [h43, Br_bool]
            by_cases hz : c.toNat = 0 ∧ 0 < i
            · rw [decide_eq_true hz, if_pos rfl]
              rw [if_pos hz] at hrd
              exact hnone (by unfold Cod.next; rw [← hrd]; rfl)
            · rw [decide_eq_false hz, if_neg (by decide)]
              exact hK27 _ ⟨rfl, hz⟩
          · rw [bin_gtr]
            by_cases hz : 0 < i
            · rw [decide_eq_true (by omega), Gd_bool, if_pos rfl, hix, hld _ _ _ rfl, bin_eql]
              refine hK _ _ ⟨?_, rfl⟩
              congr 1; simp only [decide_eq_decide]; omega
            · rw [decide_eq_false (by omega), Gd_bool, if_neg (by decide)]
              exact hK _ _ ⟨by simp [hz], rfl⟩
    · refine join1 (fun x w' => x = .bool (decide ((i = 9 ∧ 1 < c.toNat) ∨ 9 < i)) ∧ w' = w1) ?_ fun K hK => ?_
      · rintro h15 _ w3 h25 ⟨rfl, rfl⟩
        rw [h25, Br_bool]
        by_cases hz : (i = 9 ∧ 1 < c.toNat) ∨ 9 < i
        · rw [decide_eq_true hz, if_pos rfl]
          rw [if_pos hz] at hrd
          exact hnone (by unfold Cod.next; rw [← hrd]; rfl)
        · rw [decide_eq_false hz, if_neg (by decide)]
          exact hK9 _ ⟨rfl, hz⟩
      · rw [h5, bin_eql]
        by_cases h9 : i = 9
        · rw [decide_eq_true (by omega), Gd_bool, if_pos rfl, hix, hld _ _ _ rfl, bin_gtr]
          refine hK _ _ ⟨?_, rfl⟩
          congr 1; simp only [decide_eq_decide]; omega
        · rw [decide_eq_false (by omega), Gd_bool, if_neg (by decide)]
          refine hK _ _ ⟨?_, rfl⟩
          congr 1; symm; simp only [decide_eq_false_iff_not]; omega
  · have hend : ¬ i < l.length → Cod.next l = none := fun hn => by
      unfold Cod.next
      rw [← hrd, List.drop_of_length_le (by omega)]; rfl
    rw [hv.len Ty.bytes, h5, bin_lss]
    by_cases hlt : i < l.length
    · rw [decide_eq_true (by omega), Gd_bool, if_pos rfl, bin_lss, decide_eq_true (by omega), Br_bool, if_pos rfl]
      exact hK2 _ ⟨rfl, hlt⟩
    · rw [decide_eq_false (by omega), Gd_bool, if_neg (by decide)]
      exact hnone (hend hlt)
end Go.Proofs.YtoeblipchoglaaaGreatDoor
namespace Go.Proofs.YtoeblipchoglaaaGreatDoor
open Sh Go.RowKit
set_option maxRecDepth 100000
theorem caught_panicking {bl be : Nat} {vl : Value} {ve : Value} (older : List PanicEntry) (w : World) (hl : At1 w bl vl 91) (he : At1 w be ve 32) (hne : bl ≠ be) :
    CallsD Tryz.prog 140 #[.pointer (some ⟨bl, 0, none⟩), .pointer (some ⟨be, 0, none⟩)] (.panicking ({ v := brokenV, recovered := false } :: older)) w fun e u' w' =>
      u' = .panicking ({ v := brokenV, recovered := true } :: older) ∧ e = .returned (.tuple #[]) ∧ At1 w' bl (.slice none 0 0) 91 ∧ At1 w' be formE 32 ∧ Mod (fun k => k = bl ∨ k = be) w w' := by
  refine sh_codec_caught_ok _ _ ?_
  unfold sh_codec_caught
  have e1 : recV (.panicking ({ v := brokenV, recovered := false } :: older)) = brokenV := rfl
  rw [e1]
  have e2 : ∀ w, (binS BinOp.eql 20 (Operand.tmp 7) (Operand.const Value.nilIface) brokenV Value.nilIface).run Tryz.prog w = .ok (.bool false) w := by intro w; kernel_rfl
  have e3 : ∀ w, (Instr.typeAssert brokenV 20 177 true).run Tryz.prog w = .ok (.tuple #[.agg #[], .bool true]) w := by intro w; kernel_rfl
  rw [DoV_ok (e2 w), Br_bool, if_neg (by decide), DoV_ok (e3 w), ext2_1, ext2_0, Br_bool, if_pos rfl]
  refine alloc_i Ty.broken_zero fun b w1 hx hat hb _ => ?_
  have e4 : (Instr.storeAt 177 (.pointer (some ⟨b, 0, none⟩)) (.agg #[])).run Tryz.prog w1 = .ok () w1 := by
    simp [Instr.storeAt, Instr.sureAddr, storeVar, Value.cells, storeCells]
  rw [DoU_ok e4, nil_ptr]
  have hl1 := At.ext hl hx
  have he1 := At.ext he hx
  refine store_x Ty.ints_size hl1 (by simp) rfl rfl fun w2 hm2 hat2 hs2 => ?_
  rw [nil_ptr]
  have he2 := he1.mod hm2 (fun e => hne e.symm)
  refine store_x Ty.errno_size he2 (by simp) rfl rfl fun w3 hm3 hat3 hs3 => ?_
  refine ⟨rfl, hat2.mod hm3 hne, hat3, ?_⟩
  exact ((Mod.of_ext hx).comp hm2 (fun _ _ h => h) (fun _ _ h => .inl h)).comp hm3 (fun _ _ h => h) (fun _ _ h => .inr h)
theorem caught_idle {bl be : Nat} (w : World) :
    CallsD Tryz.prog 140 #[.pointer (some ⟨bl, 0, none⟩), .pointer (some ⟨be, 0, none⟩)] .returning w fun e u' w' => u' = .returning ∧ e = .returned (.tuple #[]) ∧ w' = w := by
  refine sh_codec_caught_ok _ _ ?_
  unfold sh_codec_caught
  have e1 : recV .returning = .nilIface := rfl
  have e2 : ∀ w, (binS BinOp.eql 20 (Operand.tmp 7) (Operand.const Value.nilIface) .nilIface Value.nilIface).run Tryz.prog w = .ok (.bool true) w := by intro w; kernel_rfl
  rw [e1, DoV_ok (e2 w), Br_bool, if_pos rfl]
  exact ⟨rfl, rfl⟩

theorem go28 : goes Tryz.prog 140 = true := by kernel_rfl
theorem get_results (tmps : Array Value) (bl be : Nat) (vl ve : Value) (w : World) (h2 : tmps.getD 2 undef = .pointer (some ⟨bl, 0, none⟩)) (h3 : tmps.getD 3 undef = .pointer (some ⟨be, 0, none⟩)) (hl : At1 w bl vl 91) (he : At1 w be ve 32) :
    (results Tryz.f132 tmps).run Tryz.prog w = .ok (.tuple #[vl, ve]) w := by
  have hr : Tryz.f132.results = #[.cell 2 91, .cell 3 32] := rfl
  have l1 : (loadVar 91 ⟨bl, 0, none⟩).run Tryz.prog w = .ok vl w := loadVar_at Ty.ints_agg hl rfl
  have l2 : (loadVar 32 ⟨be, 0, none⟩).run Tryz.prog w = .ok ve w := loadVar_at Ty.errno_agg he rfl
  rw [Array.getD_eq_getD_getElem?] at h2 h3
  simp [results, h2, h3, asAddr, l1, l2]
def getVs (bl be : Nat) : List (Nat × Value) := [(2, .pointer (some ⟨bl, 0, none⟩)), (3, .pointer (some ⟨be, 0, none⟩))]
def getDs (bl be : Nat) : List Deferred := [{ target := .fn (.func 140) #[], args := #[.pointer (some ⟨bl, 0, none⟩), .pointer (some ⟨be, 0, none⟩)] }]
theorem get_leaves {bl be : Nat} {vl ve : Value} {w : World} {R : Ending → World → Prop} (hl : At1 w bl vl 91) (he : At1 w be ve 32) (h : R (.returned (.tuple #[vl, ve])) w) :
    LeavesE Tryz.prog Tryz.f132 (getVs bl be) R (getDs bl be) .returning w := by
  intro tmps ht
  have h2 := ht (2, _) (by simp [getVs]; rfl)
  have h3 := ht (3, _) (by simp [getVs]; rfl)
  refine leaves_cons (f := 140) (args := #[.pointer (some ⟨bl, 0, none⟩), .pointer (some ⟨be, 0, none⟩)]) (by simp) (by simp [invoke, run_goes go28]) ?_
  refine (caught_idle w).mono ?_
  rintro e u' w' ⟨rfl, rfl, rfl⟩
  exact ⟨_, get_results tmps bl be vl ve w' h2 h3 hl he, h⟩
theorem get_breaks {bl be : Nat} {vl ve : Value} {w : World} {R : Ending → World → Prop} (hl : At1 w bl vl 91) (he : At1 w be ve 32) (hne : bl ≠ be)
    (h : ∀ w', Mod (fun k => k = bl ∨ k = be) w w' → R (.returned (.tuple #[.slice none 0 0, formE])) w') :
    LeavesE Tryz.prog Tryz.f132 (getVs bl be) R (getDs bl be) (.panicking [{ v := brokenV, recovered := false }]) w := by
  intro tmps ht
  have h2 := ht (2, _) (by simp [getVs]; rfl)
  have h3 := ht (3, _) (by simp [getVs]; rfl)
  refine leaves_cons (f := 140) (args := #[.pointer (some ⟨bl, 0, none⟩), .pointer (some ⟨be, 0, none⟩)]) (by simp) (by simp [invoke, run_goes go28]) ?_
  refine (caught_panicking [] w hl he hne).mono ?_
  rintro e u' w' ⟨rfl, rfl, hl', he', hm⟩
  exact ⟨_, get_results tmps bl be _ _ w' h2 h3 hl' he', h w' hm⟩
def GetQ (l : List UInt8) (w : World) (r : Value) (w' : World) : Prop :=
  Ext w w' ∧ match Cod.get l with
    | none => r = .tuple #[.slice none 0 0, formE]
    | some ns => ∃ v, r = .tuple #[v, okE] ∧ w'.ownsRow w.heap.size 3 1 v ns.length (iv ns)
theorem Get_ret {v : Value} {l : List UInt8} (w : World) (hv : Sl w 1 v l.length (bv l)) : Ret Tryz.prog 132 #[v] w (GetQ l w) := by
  refine ret_of (fun _ _ => sh_codec_Get_ok _) fun R hR => ?_
  unfold sh_codec_Get
  have hcell : v.cells = #[v] ∧ v.oneCell' = true := by obtain ⟨a, cap, rfl, _⟩ := hv; exact ⟨rfl, rfl⟩
  refine alloc_i Ty.ints_zero fun bl w1 x1 hbl e1 s1 => ?_
  refine alloc_i Ty.errno_zero fun be w2 x2 hbe e2 s2 => ?_
  rw [build_i (Ty.reader_new v hcell.1)]
  refine alloc_i Ty.reader_zero fun br w3 x3 hbr e3 s3 => ?_
  refine store_x Ty.reader_size hbr (by simp [Value.cells]) (x := v) (by simp [Value.cells]) hcell.2 fun w4 m4 hbr4 s4 => ?_
  rw [Array.setIfInBounds] at hbr4
  have hbr4 : At1 w4 br v 174 := by simpa [At1, Value.cells] using hbr4
  have hbl4 : At1 w4 bl (.slice none 0 0) 91 := ((hbl.ext x2).ext x3).mod m4 (by omega)
  have hbe4 : At1 w4 be (.int .i64 0) 32 := (hbe.ext x3).mod m4 (by omega)
  have z1 := x1.size
  have z2 := x2.size
  have z3 := x3.size
  have m04 : Mod (w.heap.size ≤ ·) w w4 := ((((Mod.of_ext x1 : Mod (w.heap.size ≤ ·) w w1).trans (.of_ext x2)).trans (.of_ext x3)).trans (m4.mono fun k _ h => by omega))
  have hv4 := hv.ext m04.new
  have hoff : l ≠ [] → Off (· = br) v := fun hne k hk e => by
    have := hv.old (by simp [bv, hne]) hk
    omega
  have hbroken : ∀ (w5 : World) vl ve, Mod (w.heap.size ≤ ·) w w5 → At1 w5 bl vl 91 → At1 w5 be ve 32 → Cod.get l = none →
      LeavesE Tryz.prog Tryz.f132 (getVs bl be) R (getDs bl be) (.panicking [{ v := brokenV, recovered := false }]) w5 := fun w5 vl ve hm hl he hn =>
    get_breaks hl he (by omega) fun w' hm' => hR _ _ ⟨(hm.trans (hm'.mono fun k _ h => by omega)).new, by rw [hn]⟩
  have hform : ∀ (w5 : World) vl ve, Mod (w.heap.size ≤ ·) w w5 → At1 w5 bl vl 91 → At1 w5 be ve 32 → Cod.get l = none →
      DoU Tryz.prog (Instr.storeAt 91 (.pointer (some ⟨bl, 0, none⟩)) (.slice none 0 0)) w5 (fun _ w12 =>
        DoU Tryz.prog (Instr.storeAt 32 (.pointer (some ⟨be, 0, none⟩)) (.int .i64 7)) w12 (fun _ w13 => LeavesE Tryz.prog Tryz.f132 (getVs bl be) R (getDs bl be) .returning w13) (PanD Tryz.prog Tryz.f132 (getVs bl be) R (getDs bl be))) (PanD Tryz.prog Tryz.f132 (getVs bl be) R (getDs bl be)) := fun w5 vl ve hm hl he hn => by
    refine store_x Ty.ints_size hl (by simp) rfl rfl fun w6 m6 hl6 s6 => ?_
    refine store_x Ty.errno_size (he.mod m6 (by omega)) (by simp) rfl rfl fun w7 m7 he7 s7 => ?_
    exact get_leaves (hl6.mod m7 (by omega)) he7 (hR _ _ ⟨((hm.trans (m6.mono fun k _ h => by omega)).trans (m7.mono fun k _ h => by omega)).new, by rw [hn]; rfl⟩)
  have hnext := cnext_ret w4 hbr4 hv4 hoff
  refine callF_of hnext ?_ ?_ ?_
  rotate_left
  · intro ch w5 hq
    unfold NextQ at hq
    cases hn : Cod.next l with
    | none =>
      rw [hn] at hq
      obtain ⟨e, rfl⟩ := hq
      cases e
      exact hbroken _ _ _ m04 hbl4 hbe4 (by unfold Cod.get; rw [hn]; rfl)
    | some p => rw [hn] at hq; exact absurd hq.1 (by simp)
  · intro w5 hq
    unfold NextQ at hq
    cases hn : Cod.next l with
    | none => rw [hn] at hq; exact absurd hq.1 (by simp)
    | some p => rw [hn] at hq; exact absurd hq.1 (by simp)
  intro n0 w5 hq
  unfold NextQ at hq
  cases hn : Cod.next l with
  | none => rw [hn] at hq; exact absurd hq.1 (by simp)
  | some p =>
    obtain ⟨n, k0⟩ := p
    rw [hn] at hq
    obtain ⟨e, m5, s5, vr, hbr5, hvr5, hown⟩ := hq
    cases e
    have hget : Cod.get l = if n < 0 ∨ 4000 < n then none else (Cod.more n.toNat (l.drop k0)).bind fun q => if q.2 = [] then some q.1 else none := by unfold Cod.get; rw [hn]; rfl
    have hbl5 := At.mod hbl4 m5 (by omega : ¬ bl = br)
    have hbe5 := At.mod hbe4 m5 (by omega : ¬ be = br)
    have m05 : Mod (w.heap.size ≤ ·) w w5 := m04.trans (m5.mono fun k _ h => by omega)
    refine join0 (fun w' => w' = w5 ∧ ¬ (n < 0 ∨ 4000 < n)) ?_ fun K7 hK7 => ?_
    · rintro _ w6 ⟨hw, hnn⟩
      subst w6
      rw [if_neg hnn] at hget
      obtain ⟨iN, hiN, hiz, his, hib⟩ := Ty.info_parts Ty.int_info
      have hmap : Cod.more n.toNat (l.drop k0) = (Cod.more (n.toNat - 0) (l.drop k0)).map (fun q => ([] ++ q.1, q.2)) := by simp
      have hrest0 : l.drop k0 ≠ [] → l ≠ [] := fun h e => h (by rw [e]; simp)
      refine loop1 (fun x w1 => ∃ (k : Nat) (vl : Value) (ns : List Int) (vr : Value) (rest : List UInt8), x = .int .i64 k ∧ k ≤ n.toNat ∧ ns.length = k ∧ w1.ownsRow w.heap.size 3 1 vl k (iv ns) ∧ At1 w1 bl vl 91 ∧ At1 w1 be (.int .i64 0) 32 ∧
          At1 w1 br vr 174 ∧ Sl w1 1 vr rest.length (bv rest) ∧ (∀ g, vr.ownBlock = some g → v.ownBlock = some g) ∧ (rest ≠ [] → l ≠ []) ∧ Mod (w.heap.size ≤ ·) w w1 ∧ Cod.more n.toNat (l.drop k0) = (Cod.more (n.toNat - k) rest).map (fun q => (ns ++ q.1, q.2))) (fun x _ => n.toNat - (intOf x).toNat)
        ⟨0, _, [], vr, _, rfl, by omega, rfl, Own.nil _ _ _ _, hbl5, hbe5, hbr5, hvr5, hown, hrest0, m05, hmap⟩ ?_
      rintro h _ w6 h16 ⟨k, vl, ns, vr, rest, rfl, hkN, hns, hvl, hbl6, hbe6, hbr6, hvr6, hown6, hne6, m06, hmore⟩ K hK
      have z6 := m06.size
      rw [h16, bin_lss]
      by_cases hlt : k < n.toNat
      · rw [decide_eq_true (by omega), Br_bool, if_pos rfl]
        have hm1 : Cod.more (n.toNat - k) rest = (Cod.next rest).bind fun p => (Cod.more (n.toNat - (k + 1)) (rest.drop p.2)).map fun q => (p.1 :: q.1, q.2) := by
          rw [show n.toNat - k = (n.toNat - (k + 1)) + 1 by omega]; rfl
        rw [hm1] at hmore
        have hd : Ext w6 w6.drew := Ext.drew w6
        have hoff6 : rest ≠ [] → Off (· = br) vr := fun h g hg => hoff (hne6 h) g (hown6 g hg)
        refine ⟨fun a b => Ext a b, fun a b => Mod (· = br) a b, ⟨Ext.refl, fun _ _ _ => Ext.trans, fun _ _ h => .of_ext h, fun _ _ _ => Mod.trans⟩, ?_⟩
        generalize hw7 : w6.drew = w7 at hd
        have z7 := hd.size
        have hbl7 := At.ext hbl6 hd
        have hbe7 := At.ext hbe6 hd
        have hbr7 := At.ext hbr6 hd
        have hvr7 := hvr6.ext hd
        have hvl7 := Own.ext hvl hd
        have m07 : Mod (w.heap.size ≤ ·) w w7 := m06.trans (.of_ext hd)
        have hbrlt := hbr7.lt
        refine ⟨vl, fun _ => True, fun _ _ _ _ => trivial, fun w8 h8 => ?_, ?_⟩
        · refine load_i Ty.ints_agg (At.mod hbl7 h8 (by omega)) (u := vl) rfl ?_
          exact ⟨rfl, Ext.refl _, trivial⟩
        cases hnx : Cod.next rest with
        | none =>
          rw [hnx] at hmore
          refine ⟨.int .i64 0, fun _ => False, fun _ _ h _ => h, fun w8 h8 => ?_, ⟨fun _ _ => True, fun _ _ _ _ _ => trivial, fun w8 h8 => ?_, fun v w8 h8 hf => hf.1.2.elim⟩⟩
          · refine callF_of (cnext_ret w8 (At.ext hbr7 h8) (hvr7.ext h8) hoff6) ?_ ?_ ?_
            · intro r w9 hq; unfold NextQ at hq; rw [hnx] at hq; exact absurd hq.1 (by simp)
            · intro ch w9 hq
              unfold NextQ at hq; rw [hnx] at hq
              obtain ⟨e, rfl⟩ := hq
              cases e
              exact hbroken _ _ _ (m07.trans (.of_ext h8)) (At.ext hbl7 h8) (At.ext hbe7 h8) (by rw [hget, hmore]; rfl)
            · intro w9 hq; unfold NextQ at hq; rw [hnx] at hq; exact absurd hq.1 (by simp)
          · refine lit1_i Ty.ints hiN his hiz rfl rfl fun g w9 h9 _ _ _ => ⟨h9, trivial⟩
        | some p =>
          obtain ⟨m, j⟩ := p
          rw [hnx, Option.bind_some] at hmore
          simp only at hmore
          refine ⟨.int .i64 m, fun w9 => ∃ vr', At1 w9 br vr' 174 ∧ Sl w9 1 vr' (rest.drop j).length (bv (rest.drop j)) ∧ ∀ g, vr'.ownBlock = some g → vr.ownBlock = some g, fun a b ⟨vr', h1, h2, h3⟩ hab => ⟨vr', At.ext h1 hab, h2.ext hab, h3⟩, fun w8 h8 => ?_, ?_⟩
          · refine callF_of (cnext_ret w8 (At.ext hbr7 h8) (hvr7.ext h8) hoff6) ?_ ?_ ?_
            · intro r w9 hq; unfold NextQ at hq; rw [hnx] at hq
              obtain ⟨e, h1, h2, vr', h3, h4, h5⟩ := hq
              cases e
              exact ⟨rfl, h1, vr', h3, h4, h5⟩
            · intro ch w9 hq; unfold NextQ at hq; rw [hnx] at hq; exact absurd hq.1 (by simp)
            · intro w9 hq; unfold NextQ at hq; rw [hnx] at hq; exact absurd hq.1 (by simp)
          refine ⟨fun u w9 => ∃ g, u = .slice (some ⟨g, 0, none⟩) 1 1 ∧ w7.heap.size ≤ g ∧ At w9 g (.cells #[.int .i64 m] 3 (0, 0)), fun u a b ⟨g, h1, h2, h3⟩ hab => ⟨g, h1, h2, At.mod h3 hab (by omega)⟩, fun w8 h8 => ?_, ?_⟩
          · refine lit1_i Ty.ints hiN his hiz rfl rfl fun g w9 h9 hat hg _ => ?_
            have := h8.size
            exact ⟨h9, g, rfl, by omega, hat⟩
          rintro u w9 h9 ⟨⟨_, vr', hbr9, hvr9, hown9⟩, g, rfl, hgge, hg9⟩
          have z9 := h9.size
          have hbl9 := At.mod hbl7 h9 (by omega : ¬ bl = br)
          have hbe9 := At.mod hbe7 h9 (by omega : ¬ be = br)
          have hvl9 := Own.mod hvl7 h9 (Own.off_at hvl7 hbr7 (by decide))
          have m09 : Mod (w.heap.size ≤ ·) w w9 := m07.trans (h9.mono fun k _ h => by omega)
          refine app_own Ty.ints hiN hiz his hib rfl (by omega) hvl9 (Sl.of_lit hg9) (by simp [Value.oneCell']) (by omega) (by omega) (by omega) fun vl' w10 hvl10 m10 _ => ?_
          have hbl10 := At.mod hbl9 m10 (fun h => Own.off_at hvl9 hbl9 (by decide) _ h rfl)
          have hbe10 := At.mod hbe9 m10 (fun h => Own.off_at hvl9 hbe9 (by decide) _ h rfl)
          have hbr10 := At.mod hbr9 m10 (fun h => Own.off_at hvl9 hbr9 (by decide) _ h rfl)
          have hone : vl'.cells = #[vl'] ∧ vl'.oneCell' = true := by
            rcases hvl10.2 with ⟨rfl, _⟩ | ⟨_, _, _, rfl, _⟩ <;> exact ⟨rfl, rfl⟩
          have m010 : Mod (w.heap.size ≤ ·) w w10 := m09.trans (m10.mono fun k _ h => (Own.block hvl9 h).1)
          refine store_x Ty.ints_size hbl10 (by simp) hone.1 hone.2 fun w11 m11 hbl11 s11 => ?_
          rw [bin_add, i64_wrap (by omega) (by omega)]
          have hvr10 : Sl w10 1 vr' (rest.drop j).length (bv (rest.drop j)) := hvr9.mod_ne m10 fun hne gg hgg hgg2 => by
            have h1 := (Own.block hvl9 hgg2).1
            have h2 := hv.old (k := gg) (by
              have hr : rest ≠ [] := fun e => hne (by rw [e]; simp [bv])
              simpa [bv] using hne6 hr) (hown6 gg (hown9 gg hgg))
            omega
          have hvr11 : Sl w11 1 vr' (rest.drop j).length (bv (rest.drop j)) := hvr10.mod_ne m11 fun hne gg hgg hgg2 => by
            have h2 := hv.old (k := gg) (by
              have hr : rest ≠ [] := fun e => hne (by rw [e]; simp [bv])
              simpa [bv] using hne6 hr) (hown6 gg (hown9 gg hgg))
            omega
          refine hK _ _ ⟨k + 1, vl', ns ++ [m], vr', rest.drop j, by simp, by omega, by simp [hns], ?_, ?_, hbe10.mod m11 (by omega), hbr10.mod m11 (by omega), hvr11, fun gg hgg => hown6 gg (hown9 gg hgg), fun hne => hne6 fun e => hne (by rw [e]; simp), m010.trans (m11.mono fun k _ h => by omega), ?_⟩ (by simp [intOf]; omega)
          · have := Own.mod hvl10 m11 (Own.off_at hvl10 hbl10 (by decide))
            simpa [iv] using this
          · simpa [At1] using hbl11
          · rw [hmore, Option.map_map]
            congr 1
            funext q
            simp
      · have hkn : k = n.toNat := by omega
        subst hkn
        rw [Nat.sub_self] at hmore
        simp only [Cod.more, Option.map_some, List.append_nil] at hmore
        rw [hmore, Option.bind_some] at hget
        simp only at hget
        rw [decide_eq_false (by omega), Br_bool, if_neg (by decide), DoV_ok (Ty.reader_b w6 br)]
        refine load_i Ty.bytes_agg hbr6 (u := vr) rfl ?_
        rw [hvr6.len Ty.bytes, bin_gtr]
        by_cases hr : rest = []
        · rw [if_pos hr] at hget
          subst hr
          rw [decide_eq_false (by simp), Br_bool, if_neg (by decide)]
          refine load_i Ty.ints_agg hbl6 (u := vl) rfl ?_
          have hone : vl.cells = #[vl] ∧ vl.oneCell' = true := by
            rcases hvl.2 with ⟨rfl, _⟩ | ⟨_, _, _, rfl, _⟩ <;> exact ⟨rfl, rfl⟩
          refine store_x Ty.ints_size hbl6 (by simp) hone.1 hone.2 fun w7 m7 hbl7 s7 => ?_
          refine store_x Ty.errno_size (hbe6.mod m7 (by omega)) (by simp) rfl rfl fun w8 m8 hbe8 s8 => ?_
          have hvl7 := Own.mod hvl m7 (Own.off_at hvl hbl6 (by decide))
          have hvl8 := Own.mod hvl7 m8 (Own.off_at hvl7 (At.mod hbe6 m7 (by omega)) (by decide))
          refine get_leaves (vl := vl) (ve := okE) (by simpa [At1] using hbl7.mod m8 (by omega)) (by simpa [At1, okE] using hbe8) (hR _ _ ⟨((m06.trans (m7.mono fun k _ h => by omega)).trans (m8.mono fun k _ h => by omega)).new, ?_⟩)
          rw [hget]
          exact ⟨vl, rfl, by rw [hns]; exact hvl8⟩
        · rw [if_neg hr] at hget
          have := List.length_pos_iff.2 hr
          rw [decide_eq_true (by omega), Br_bool, if_pos rfl]
          exact hform _ _ _ m06 hbl6 hbe6 hget
    · refine join1 (fun x w' => x = .bool (decide (n < 0 ∨ 4000 < n)) ∧ w' = w5) ?_ fun K hK => ?_
      · rintro h11 _ w6 h14 ⟨rfl, rfl⟩
        rw [h14, Br_bool]
        by_cases hz : n < 0 ∨ 4000 < n
        · rw [decide_eq_true hz, if_pos rfl]
          rw [if_pos hz] at hget
          exact hform _ _ _ m05 hbl5 hbe5 hget
        · rw [decide_eq_false hz, if_neg (by decide)]
          exact hK7 _ ⟨rfl, hz⟩
      · rw [bin_lss]
        by_cases hz : n < 0
        · rw [decide_eq_true (by omega), Gd_bool, if_neg (by decide)]
          exact hK _ _ ⟨by simp [hz], rfl⟩
        · rw [decide_eq_false (by omega), Gd_bool, if_pos rfl, bin_gtr]
          refine hK _ _ ⟨?_, rfl⟩
          congr 1; simp only [decide_eq_decide]; omega
end Go.Proofs.YtoeblipchoglaaaGreatDoor
namespace Go.Proofs.YtoeblipchoglaaaGreatDoor
set_option maxRecDepth 100000
open Sh Go.RowKit
theorem app_int {base : Nat} {w : World} {K : Value → World → Prop} {X : List PanicEntry → World → Prop} {v : Value} {l : List Int} {n : Int} {cs : Array Bool} (hown : w.ownsRow base 3 1 v l.length (iv l)) (hl : l.length < 10000000000000) (hb : base ≤ w.heap.size)
    (hk : ∀ v' w1, w1.ownsRow base 3 1 v' (l ++ [n]).length (iv (l ++ [n])) → Mod (base ≤ ·) w w1 → K v' w1) :
    DoV Tryz.prog (Instr.buildSlice 91 1 #[(0, .int .i64 n)]) w (fun s w1 => CallB Tryz.prog .append #[91, 91] 91 cs #[v, s] w1 K X) X := by
  obtain ⟨i, hi, hz, hs, hby⟩ := Ty.info_parts Ty.int_info
  refine lit1_i Ty.ints hi hs hz rfl rfl fun g w1 he hat hg _ => ?_
  have hs1 := he.size
  refine app_own Ty.ints hi hz hs hby rfl (by omega) (Own.ext hown he) (Sl.of_lit hat) (by simp [Value.oneCell']) (by omega) (by omega) (by omega) fun v' w2 h1 hm _ => ?_
  exact hk v' w2 (by simpa [iv] using h1) ((Mod.of_ext (S := fun _ => False) he).comp hm (fun _ _ h => h.elim) fun k hk h => (Own.block hown h).1)
theorem refGet_ret {v : Value} {l : List UInt8} (w : World) (hv : Sl w 1 v l.length (bv l)) : Ret Tryz.prog 102 #[v] w (GetQ l w) := by
  refine ret_of (fun _ _ => sh_landfallref08_Get_ok _) fun R hR => ?_
  unfold sh_landfallref08_Get
  obtain ⟨i8, hi8, _, hs8, _⟩ := Ty.info_parts Ty.u8_info
  have hle := hv.le
  have hbad : ∀ w', Ext w w' → Cod.get l = none → R (.returned (.tuple #[.slice none 0 0, .int .i64 7])) w' := fun w' he hn => hR _ _ ⟨he, by rw [hn]; rfl⟩
  refine callF_same (read_ret w hv) ?_
  cases hn : Cod.next l with
  | none =>
    have hrv : readV l = .tuple #[.int .i64 0, .int .i64 0] := by unfold readV; rw [hn]; rfl
    rw [hrv, ext2_0, ext2_1]
    refine join0 (fun _ => False) (fun _ _ h => h.elim) fun K7 hK7 => ?_
    refine join1 (fun x w' => x = .bool true ∧ w' = w) ?_ fun K hK => ?_
    · rintro h11 _ w6 h24 ⟨rfl, rfl⟩
      rw [h24, Br_bool, if_pos rfl]
      exact hbad _ (Ext.refl _) (by unfold Cod.get; rw [hn]; rfl)
    · rw [bin_eql, decide_eq_true rfl, Gd_bool, if_neg (by decide)]
      exact hK _ _ ⟨rfl, rfl⟩
  | some p =>
    obtain ⟨n, k0⟩ := p
    obtain ⟨hnI, hk0, hk0l, _⟩ := Cod.next_inv hn
    have hrv : readV l = .tuple #[.int .i64 n, .int .i64 k0] := by unfold readV; rw [hn]; rfl
    have hget : Cod.get l = if n < 0 ∨ 4000 < n then none else (Cod.more n.toNat (l.drop k0)).bind fun q => if q.2 = [] then some q.1 else none := by unfold Cod.get; rw [hn]; rfl
    rw [hrv, ext2_0, ext2_1]
    refine join0 (fun w' => w' = w ∧ ¬ (n < 0 ∨ 4000 < n)) ?_ fun K7 hK7 => ?_
    · rintro _ w6 ⟨hw, hnn⟩
      subst w6
      rw [if_neg hnn] at hget
      refine loop3 (fun x y z w1 => ∃ (k at_ : Nat) (ns : List Int), x = .int .i64 at_ ∧ z = .int .i64 k ∧ k ≤ n.toNat ∧ at_ ≤ l.length ∧ ns.length = k ∧ w1.ownsRow w.heap.size 3 1 y ns.length (iv ns) ∧ Mod (w.heap.size ≤ ·) w w1 ∧
          Cod.more n.toNat (l.drop k0) = (Cod.more (n.toNat - k) (l.drop at_)).map (fun q => (ns ++ q.1, q.2))) (fun _ _ z _ => n.toNat - (intOf z).toNat)
        ⟨0, k0, [], rfl, rfl, by omega, hk0l, rfl, Own.nil _ _ _ _, Mod.refl _ _, by simp⟩ ?_
      rintro h _ vl _ w1 h5 h6 h7 ⟨k, at_, ns, rfl, rfl, hkN, hat, hns, hvl, hm, hmore⟩ K hK
      have hz := hm.size
      rw [h5, h6, h7, bin_lss]
      by_cases hlt : k < n.toNat
      · rw [decide_eq_true (by omega), Br_bool, if_pos rfl]
        refine slice_from Ty.bytes hi8 hs8 (by decide) (hv.ext hm.new) hat fun v' hv' _ => ?_
        have hv2 : Sl w1 1 v' (l.drop at_).length (bv (l.drop at_)) := by
          have e : (bv l).drop (at_ * 1) = bv (l.drop at_) := by simp [bv, List.map_drop]
          rw [e] at hv'
          simpa using hv'
        refine callF_same (read_ret w1 hv2) ?_
        have hm1 : Cod.more (n.toNat - k) (l.drop at_) = (Cod.next (l.drop at_)).bind fun p => (Cod.more (n.toNat - (k + 1)) ((l.drop at_).drop p.2)).map fun q => (p.1 :: q.1, q.2) := by
          rw [show n.toNat - k = (n.toNat - (k + 1)) + 1 by omega]; rfl
        rw [hm1] at hmore
        cases hnx : Cod.next (l.drop at_) with
        | none =>
          have hrv : readV (l.drop at_) = .tuple #[.int .i64 0, .int .i64 0] := by unfold readV; rw [hnx]; rfl
          rw [hnx] at hmore
          rw [hrv, ext2_0, ext2_1, bin_eql, decide_eq_true rfl, Br_bool, if_pos rfl]
          exact hbad _ hm.new (by rw [hget, hmore]; rfl)
        | some p =>
          obtain ⟨m, j⟩ := p
          obtain ⟨_, hj0, hjl, _⟩ := Cod.next_inv hnx
          rw [List.length_drop] at hjl
          have hrv : readV (l.drop at_) = .tuple #[.int .i64 m, .int .i64 j] := by unfold readV; rw [hnx]; rfl
          rw [hnx, Option.bind_some] at hmore
          simp only at hmore
          rw [hrv, ext2_0, ext2_1, bin_eql, decide_eq_false (by omega), Br_bool, if_neg (by decide)]
          refine app_int hvl (by omega) (by omega) fun vl' w2 hvl2 m2 => ?_
          rw [bin_add, bin_add, i64_wrap (by omega) (by omega), i64_wrap (by omega) (by omega)]
          refine hK _ _ _ _ ⟨k + 1, at_ + j, ns ++ [m], by simp, by simp, by omega, by omega, by simp [hns], hvl2, hm.trans m2, ?_⟩ (by simp [intOf]; omega)
          rw [hmore, Option.map_map, List.drop_drop]
          congr 1
          funext q
          simp
      · have hkn : k = n.toNat := by omega
        subst hkn
        rw [Nat.sub_self] at hmore
        simp only [Cod.more, Option.map_some, List.append_nil] at hmore
        rw [hmore, Option.bind_some] at hget
        simp only at hget
        rw [decide_eq_false (by omega), Br_bool, if_neg (by decide), (hv.ext hm.new).len Ty.bytes, bin_neq]
        by_cases hr : l.drop at_ = []
        · rw [if_pos hr] at hget
          have hle2 : l.length ≤ at_ := by simpa using hr
          rw [decide_eq_true (by omega), Br_bool, if_neg (by decide)]
          refine hR _ _ ⟨hm.new, ?_⟩
          rw [hget]
          exact ⟨vl, rfl, hvl⟩
        · rw [if_neg hr] at hget
          have hle2 : ¬ l.length ≤ at_ := by simpa using hr
          rw [decide_eq_false (by omega), Br_bool, if_pos (by decide)]
          exact hbad _ hm.new hget
    · refine join1 (fun x w' => x = .bool (decide (n < 0 ∨ 4000 < n)) ∧ w' = w) ?_ fun K hK => ?_
      · rintro h11 _ w6 h14 ⟨rfl, rfl⟩
        rw [h14, Br_bool]
        by_cases hz : n < 0 ∨ 4000 < n
        · rw [decide_eq_true hz, if_pos rfl]
          rw [if_pos hz] at hget
          exact hbad _ (Ext.refl _) hget
        · rw [decide_eq_false hz, if_neg (by decide)]
          exact hK7 _ ⟨rfl, hz⟩
      · rw [bin_eql, decide_eq_false (by omega), Gd_bool, if_pos rfl, bin_lss]
        by_cases hz : n < 0
        · rw [decide_eq_true (by omega), Gd_bool, if_neg (by decide)]
          exact hK _ _ ⟨by simp [hz], rfl⟩
        · rw [decide_eq_false (by omega), Gd_bool, if_pos rfl, bin_gtr]
          refine hK _ _ ⟨?_, rfl⟩
          congr 1; simp only [decide_eq_decide]; omega
end Go.Proofs.YtoeblipchoglaaaGreatDoor
