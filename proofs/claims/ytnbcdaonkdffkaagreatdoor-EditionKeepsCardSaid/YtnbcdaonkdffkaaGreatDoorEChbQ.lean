/- Another digit of one number, also of a negative one; cells of one's own rows, written. -/
import Derived.Test.YtnbcdaonkdffkaaGreatDoorEChbO
set_option linter.unusedVariables false
set_option linter.unusedSimpArgs false
namespace Go.Proofs.YtnbcdaonkdffkaaGreatDoor
set_option maxRecDepth 100000
set_option maxHeartbeats 16000000
open Sh Go.RowKit
namespace Dig
def Turned (n m : Int) : Prop := (0 ≤ n ∧ 0 ≤ m ∧ n / 10 = m / 10 ∧ n % 10 ≠ m % 10) ∨ (n < 0 ∧ m < 0 ∧ (-n) / 10 = (-m) / 10 ∧ (-n) % 10 ≠ (-m) % 10)
end Dig
namespace Cha
def One (l m : List Int) : Prop := m = l ∨ ∃ (p q : List Int) (a b : Int), l = p ++ a :: q ∧ m = p ++ b :: q ∧ (Dig.Turned a b ∨ (a < 0 ∧ b = 0))
end Cha
theorem fl_set_cell {α : Type} {c : α → List Value} {sz j : Nat} {u : Value} (hc : ∀ a, (c a).length = sz) (hj : j < sz) : ∀ {l : List α} {k : Nat} (hk : k < l.length) {a' : α}, c a' = (c l[k]).set j u → (fl c l).set (k * sz + j) u = fl c (l.set k a')
  | [], k, hk, _, _ => by cases hk
  | a :: l, 0, hk, a', ha => by
    have h1 := hc a
    rw [fl_cons, List.set_cons_zero, fl_cons, ha, Nat.zero_mul, Nat.zero_add, List.set_append_left _ _ (by omega)]
    rfl
  | a :: l, k + 1, hk, a', ha => by
    have h1 := hc a
    have h2 : k < l.length := by simpa using hk
    rw [fl_cons, List.set_cons_succ, fl_cons, Nat.add_mul, Nat.one_mul, List.set_append_right _ _ (by omega), h1, show k * sz + sz + j - sz = k * sz + j by omega, fl_set_cell hc hj h2 (by simpa using ha)]
theorem own_idx {P : Program} {w : World} {K : Value → World → Prop} {X : List PanicEntry → World → Prop} {T e : TypeId} {i : TypeInfo} {sz : Nat} (hT : P.underlying T = some (.slice e)) (hi : P.info? e = some i) (hs : i.size = sz) {g o n c j : Nat} (hj : j < n) : DoV P (Instr.indexAt T (.slice (some ⟨g, o, none⟩) n c) (.int .i64 j)) w K X = K (.pointer (some ⟨g, o + j * sz, none⟩)) w := by
  exact DoV_ok (by simp [Instr.indexAt, asIntOf, run_underlying hT, sizeOf, typeInfo, hi, hs, hj, addr_add15])
theorem own_open {w : World} {base sz n : Nat} {e : TypeId} {v : Value} {xs : List Value} (h : w.ownsRow base e sz v n xs) (hn : 0 < n) : ∃ g cap, v = .slice (some ⟨g, 0, none⟩) n cap ∧ base ≤ g ∧ g < w.heap.size := by
  rcases h.2 with ⟨_, h0⟩ | ⟨g, cap, cur, rfl, hb, hg, _⟩
  · omega
  · exact ⟨g, cap, rfl, hb, (Array.getElem?_eq_some_iff.1 hg).1⟩
theorem own_cell {P : Program} {α : Type} {c : α → List Value} {w : World} {K : Value → World → Prop} {X : List PanicEntry → World → Prop} {base sz j k g n cap : Nat} {e t : TypeId} {l : List α} {a' : α} {u : Value} (hc : ∀ a, (c a).length = sz) (h : w.ownsRow base e sz (.slice (some ⟨g, 0, none⟩) n cap) l.length (fl c l)) (hk : k < l.length) (hj : j < sz) (hu : u.oneCell' = true) (ht : ∀ w, (sizeOf t).run P w = .ok 1 w) (ha : c a' = (c l[k]).set j u)
    (hK : ∀ W, Mod (· = g) w W → W.ownsRow base e sz (.slice (some ⟨g, 0, none⟩) n cap) (l.set k a').length (fl c (l.set k a')) → K undef W) : DoU P (Instr.storeAt t (.pointer (some ⟨g, k * sz + j, none⟩)) u) w K X := by
  obtain ⟨h1, h2⟩ := h
  rcases h2 with ⟨h, _⟩ | ⟨g', cap', cur, hv, hb, hg, hn, hcm, hcs, htk⟩
  · cases h
  · injection hv with hv1 hv2 hv3
    injection hv1 with hv1; injection hv1 with hv1
    subst hv1 hv2 hv3
    have hlt : k * sz + j < l.length * sz := by
      have : (k + 1) * sz ≤ l.length * sz := Nat.mul_le_mul_right _ hk
      rw [Nat.add_mul, Nat.one_mul] at this; omega
    have hle : l.length * sz ≤ cap * sz := Nat.mul_le_mul_right _ hn
    refine store_i ht (show At w g (.cells cur e (0, 0)) from hg) (by omega) hu fun w1 m1 hat hsz => hK w1 m1 ⟨?_, .inr ⟨g, cap, _, by rw [List.length_set], hb, hat, by rw [List.length_set]; exact hn, hcm, by simpa using hcs, ?_⟩⟩
    · rw [List.length_set, fl_length hc, List.length_set]
    · rw [List.length_set, Array.toList_setIfInBounds, List.take_set, htk, fl_set_cell hc hj hk ha]
end Go.Proofs.YtnbcdaonkdffkaaGreatDoor
