/- The reference's way to look through all cells. -/
import Derived.Test.YtnbcdaonkdffkaaGreatDoorFChbO
set_option linter.unusedVariables false
set_option linter.unusedSimpArgs false
namespace Go.Proofs.YtnbcdaonkdffkaaGreatDoor
set_option maxRecDepth 100000
set_option maxHeartbeats 16000000
open Sh Go.RowKit
namespace Cha
def below (l : List Int) (k : Int) : List Int := l.filter fun a => decide (a < k)
theorem below_pos {a k : Int} {t : List Int} (h : a < k) : below (a :: t) k = a :: below t k := by
  unfold below
  exact List.filter_cons_of_pos (p := fun a => decide (a < k)) (decide_eq_true h)
theorem below_neg {a k : Int} {t : List Int} (h : ¬ a < k) : below (a :: t) k = below t k := by
  unfold below
  exact List.filter_cons_of_neg (p := fun a => decide (a < k)) (by simpa using h)
theorem below_none {l : List Int} {k : Int} (h : ∀ a ∈ l, k ≤ a) : below l k = [] := by
  unfold below
  rw [List.filter_eq_nil_iff]
  intro a ha hh
  have := h a ha
  have := of_decide_eq_true hh
  omega
theorem below_succ {l : List Int} (hs : l.Pairwise (· < ·)) (k : Int) : below l (k + 1) = below l k ++ (if k ∈ l then [k] else []) := by
  induction l with
  | nil => rfl
  | cons a t ih =>
    have ht := ih (List.Pairwise.of_cons hs)
    have hr := fun b hb => List.rel_of_pairwise_cons hs (a' := b) hb
    by_cases h1 : a < k
    · rw [below_pos (by omega), below_pos h1, ht]
      have : (k ∈ a :: t) = (k ∈ t) := by
        rw [eq_iff_iff, List.mem_cons]
        exact ⟨fun h => h.resolve_left (by omega), .inr⟩
      simp only [this, List.cons_append]
    · by_cases h2 : a = k
      · subst h2
        rw [below_pos (by omega), below_neg (by omega), if_pos (List.mem_cons_self ..), below_none (k := a + 1) fun b hb => by have := hr b hb; omega, below_none (k := a) fun b hb => by have := hr b hb; omega]
        rfl
      · have hk : k ∉ a :: t := by
          rw [List.mem_cons]
          rintro (h | h)
          · exact h2 h.symm
          · have := hr k h; omega
        rw [below_neg (by omega), below_neg (by omega), if_neg hk, below_none (k := k + 1) fun b hb => by have := hr b hb; omega, below_none (k := k) fun b hb => by have := hr b hb; omega]
        rfl
theorem below_all {l : List Int} {k : Int} (h : ∀ a ∈ l, a < k) : below l k = l := by
  unfold below
  rw [List.filter_eq_self]
  exact fun a ha => decide_eq_true (h a ha)
end Cha
end Go.Proofs.YtnbcdaonkdffkaaGreatDoor
