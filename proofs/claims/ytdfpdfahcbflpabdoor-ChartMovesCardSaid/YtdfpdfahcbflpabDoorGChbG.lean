/- Which cells a rectangle touches. -/
import Derived.Test.YtdfpdfahcbflpabDoorGChbF
set_option linter.unusedVariables false
set_option linter.unusedSimpArgs false
namespace Go.Proofs.YtdfpdfahcbflpabDoor
set_option maxRecDepth 100000
set_option maxHeartbeats 16000000
open Sh Go.RowKit
namespace Cha
theorem le_col {f z v c : Int} (hz : 1 ≤ z) (hc : 0 ≤ c) : c ≤ col f z v ↔ f + c * z ≤ v := by
  have h0 : 0 ≤ c * z := Int.mul_nonneg hc (by omega)
  unfold col
  split
  · omega
  · rw [Int.le_ediv_iff_mul_le (by omega)]; omega
theorem col_le {f z v c : Int} (hz : 1 ≤ z) (hc : 0 ≤ c) : col f z v ≤ c ↔ v ≤ f + c * z + z - 1 := by
  have h0 : 0 ≤ c * z := Int.mul_nonneg hc (by omega)
  unfold col
  split
  · omega
  · rw [← Int.lt_add_one_iff, Int.ediv_lt_iff_lt_mul (by omega), Int.add_mul, Int.one_mul]; omega
def meets (C : Cht) (lo hi : SPoint) (i : Int) : Prop := lo.x ≤ (highC C i).x ∧ (lowC C i).x ≤ hi.x ∧ lo.y ≤ (highC C i).y ∧ (lowC C i).y ≤ hi.y
theorem rc_div {r c w : Int} (hc : 0 ≤ c ∧ c < w) : (r * w + c) / w = r ∧ (r * w + c) % w = c := by
  constructor
  · rw [Int.add_comm, Int.add_mul_ediv_right _ _ (by omega), Int.ediv_eq_zero_of_lt hc.1 hc.2]; omega
  · rw [Int.add_comm, Int.add_mul_emod_self_right, Int.emod_eq_of_lt hc.1 hc.2]
theorem mem_under0 {C : Cht} {lo hi : SPoint} {n : Int} : n ∈ under C lo hi ↔ ∃ r c : Int, (loy C lo ≤ r ∧ r ≤ hiy C hi) ∧ (lox C lo ≤ c ∧ c ≤ hix C hi) ∧ n = r * C.w + c := by
  unfold under
  rw [List.mem_map]
  constructor
  · rintro ⟨k, hk, rfl⟩
    rw [List.mem_range] at hk
    have hx : 0 < nx C lo hi := by
      rcases Nat.eq_zero_or_pos (nx C lo hi) with h | h
      · rw [h, Nat.mul_zero] at hk; omega
      · exact h
    have h1 : k / nx C lo hi < ny C lo hi := Nat.div_lt_of_lt_mul (by rw [Nat.mul_comm]; exact hk)
    have h2 := Nat.mod_lt k hx
    unfold ucell
    generalize k / nx C lo hi = p at *
    generalize k % nx C lo hi = q at *
    refine ⟨_, _, ⟨?_, ?_⟩, ⟨?_, ?_⟩, rfl⟩
    · omega
    · unfold ny at h1; omega
    · omega
    · unfold nx at h2; omega
  · rintro ⟨r, c, ⟨r1, r2⟩, ⟨c1, c2⟩, rfl⟩
    obtain ⟨j, hj⟩ : ∃ j : Nat, (j : Int) = r - loy C lo := ⟨(r - loy C lo).toNat, by omega⟩
    obtain ⟨i, hi'⟩ : ∃ i : Nat, (i : Int) = c - lox C lo := ⟨(c - lox C lo).toNat, by omega⟩
    have hjlt : j < ny C lo hi := by unfold ny; omega
    have hilt : i < nx C lo hi := by unfold nx; omega
    refine ⟨j * nx C lo hi + i, ?_, ?_⟩
    · rw [List.mem_range]
      have h1 : (j + 1) * nx C lo hi ≤ ny C lo hi * nx C lo hi := Nat.mul_le_mul_right _ hjlt
      rw [Nat.add_mul, Nat.one_mul] at h1; omega
    · unfold ucell
      rw [Nat.mul_comm, Nat.mul_add_div (by omega), Nat.mul_add_mod, Nat.div_eq_of_lt hilt, Nat.mod_eq_of_lt hilt, Nat.add_zero]
      rw [hj, hi']
      congr 1
      · congr 1; omega
      · omega
theorem mem_under {C : Cht} {lo hi : SPoint} {n : Int} (hF : FrameP C) : n ∈ under C lo hi ↔ (0 ≤ n ∧ n < C.cells.length) ∧ meets C lo hi n := by
  obtain ⟨_, hw, hh, hz, hwh, _, _⟩ := hF
  have mx1 := @mx_le 0 (col C.x C.size lo.x)
  have mx2 := @mx_le 0 (col C.y C.size lo.y)
  have mn1 := @mn_le (C.w - 1) (col C.x C.size hi.x)
  have mn2 := @mn_le (C.h - 1) (col C.y C.size hi.y)
  have key : ∀ r c : Int, 0 ≤ r → 0 ≤ c → c < C.w → (meets C lo hi (r * C.w + c) ↔ col C.x C.size lo.x ≤ c ∧ c ≤ col C.x C.size hi.x ∧ col C.y C.size lo.y ≤ r ∧ r ≤ col C.y C.size hi.y) := by
    intro r c hr hc hcw
    obtain ⟨e1, e2⟩ := rc_div (r := r) ⟨hc, hcw⟩
    unfold meets highC lowC
    simp only
    rw [e1, e2, le_col hz.1 hc, le_col hz.1 hr, col_le hz.1 hc, col_le hz.1 hr]
  rw [mem_under0]
  constructor
  · rintro ⟨r, c, ⟨r1, r2⟩, ⟨c1, c2⟩, rfl⟩
    unfold loy at r1; unfold hiy at r2; unfold lox at c1; unfold hix at c2
    have hr0 : 0 ≤ r := by omega
    have hc0 : 0 ≤ c := by omega
    have m1 : 0 ≤ r * C.w := Int.mul_nonneg hr0 (by omega)
    have m2 : r * C.w ≤ (C.h - 1) * C.w := Int.mul_le_mul_of_nonneg_right (by omega) (by omega)
    have m3 : (C.h - 1) * C.w = C.w * C.h - C.w := by rw [Int.sub_mul, Int.one_mul, Int.mul_comm]
    refine ⟨⟨by omega, by omega⟩, (key r c hr0 hc0 (by omega)).2 ⟨by omega, by omega, by omega, by omega⟩⟩
  · rintro ⟨⟨h0, h1⟩, hm⟩
    have a1 := Int.emod_nonneg n (show C.w ≠ 0 by omega)
    have a2 := Int.emod_lt_of_pos n (show 0 < C.w by omega)
    have a3 : 0 ≤ n / C.w := Int.ediv_nonneg h0 (by omega)
    have a4 : n / C.w < C.h := Int.ediv_lt_of_lt_mul (by omega) (by rw [Int.mul_comm]; omega)
    have a5 : n = n / C.w * C.w + n % C.w := by have := Int.emod_add_mul_ediv n C.w; rw [Int.mul_comm] at this; omega
    have hm' := (key (n / C.w) (n % C.w) a3 a1 a2).1 (by rw [← a5]; exact hm)
    refine ⟨n / C.w, n % C.w, ⟨?_, ?_⟩, ⟨?_, ?_⟩, a5⟩
    · unfold loy; omega
    · unfold hiy; omega
    · unfold lox; omega
    · unfold hix; omega
theorem under_one {C : Cht} {x : SPoint} {a b : Int} (ha : a ∈ under C x x) (hb : b ∈ under C x x) : a = b := by
  have mx1 := @mx_le 0 (col C.x C.size x.x)
  have mx2 := @mx_le 0 (col C.y C.size x.y)
  have mn1 := @mn_le (C.w - 1) (col C.x C.size x.x)
  have mn2 := @mn_le (C.h - 1) (col C.y C.size x.y)
  obtain ⟨r, c, ⟨r1, r2⟩, ⟨c1, c2⟩, rfl⟩ := mem_under0.1 ha
  obtain ⟨r', c', ⟨r3, r4⟩, ⟨c3, c4⟩, rfl⟩ := mem_under0.1 hb
  unfold loy at r1 r3; unfold hiy at r2 r4; unfold lox at c1 c3; unfold hix at c2 c4
  have e1 : r = r' := by omega
  have e2 : c = c' := by omega
  rw [e1, e2]
theorem at_props {C : Cht} {x : SPoint} (hG : GoodC C) (hp : Hul.place x = true) : (atV C x).2.2 = 0 ∧ (∀ i : Int, 0 ≤ i → i < C.cells.length → meets C x x i → (atV C x).2.1 = true ∧ i = (atV C x).1) ∧ ((atV C x).2.1 = true → (0 ≤ (atV C x).1 ∧ (atV C x).1 < C.cells.length) ∧ meets C x x (atV C x).1) := by
  unfold atV
  rw [if_pos ⟨valid_iff.2 hG, hp⟩]
  cases hu : under C x x with
  | nil =>
    refine ⟨rfl, fun i h0 h1 hm => ?_, fun h => by cases h⟩
    have := (mem_under hG.1).2 ⟨⟨h0, h1⟩, hm⟩
    rw [hu] at this; cases this
  | cons a t =>
    have ha : a ∈ under C x x := by rw [hu]; exact List.mem_cons_self ..
    refine ⟨rfl, fun i h0 h1 hm => ⟨rfl, ?_⟩, fun _ => (mem_under hG.1).1 ha⟩
    exact under_one ((mem_under hG.1).2 ⟨⟨h0, h1⟩, hm⟩) ha
end Cha
end Go.Proofs.YtdfpdfahcbflpabDoor
