/- The plain law of the codec's statements: cut, changed and lengthened bytes. No program in sight. -/
import Derived.Test.YtahplhcijlgelaaCod
namespace Go.Proofs.Ytahplhcijlgelaa
set_option maxRecDepth 100000
namespace Cod
theorem whole_nil : whole [] = none := by unfold whole; rw [if_pos (.inl (by simp))]
theorem all_nil : all [] = [] := rfl
theorem all_cons (l : List Int) (ls : List (List Int)) : all (l :: ls) = frame l ++ all ls := by simp [all]
theorem all_append (a b : List (List Int)) : all (a ++ b) = all a ++ all b := by simp [all]
theorem all_take_succ {ls : List (List Int)} {k : Nat} (h : k < ls.length) : all (ls.take (k + 1)) = all (ls.take k) ++ frame ls[k] := by
  rw [List.take_succ_eq_append_getElem h, all_append]; simp [all]
theorem Fits.take {ls : List (List Int)} (h : Fits ls) (k : Nat) : Fits (ls.take k) := fun l hl => h l (List.mem_of_mem_take hl)
theorem frames_torn {ls : List (List Int)} (h : Fits ls) {k at_ : Nat} (h1 : (all (ls.take k)).length ≤ at_) (h2 : k < ls.length → at_ < (all (ls.take (k + 1))).length) :
    frames ((all ls).take at_) = (ls.take k, (all (ls.take k)).length) := by
  have e : all ls = all (ls.take k) ++ all (ls.drop k) := by rw [← all_append, List.take_append_drop]
  have hz : ∀ r, whole r = none → frames (all (ls.take k) ++ r) = (ls.take k, (all (ls.take k)).length) := fun r hr => by
    rw [frames_all (h.take k), frames_none hr]; simp
  rw [e, List.take_append, List.take_of_length_le h1]
  by_cases hk : k < ls.length
  · have hd : ls.drop k = ls[k] :: ls.drop (k + 1) := List.drop_eq_getElem_cons hk
    have h3 := h2 hk
    rw [all_take_succ hk, List.length_append] at h3
    rw [hd, all_cons, List.take_append_of_le_length (by omega)]
    obtain ⟨g1, g2⟩ := h ls[k] (List.getElem_mem _)
    exact hz _ (whole_cut g1 g2 (by omega))
  · rw [List.drop_eq_nil_of_le (by omega), all_nil, List.take_nil]
    exact hz _ whole_nil
theorem frames_changed {ls : List (List Int)} {l : List Int} (h : Fits ls) (hl : ∀ n ∈ l, I64 n) (hl2 : l.length ≤ 4000) {i : Nat} {c : UInt8} (h3 : 3 ≤ i) (hi : i < (frame l).length) (hc : c ≠ (frame l)[i]) :
    frames ((all ls ++ frame l).set ((all ls).length + i) c) = (ls, (all ls).length) := by
  rw [List.set_append_right _ _ (by omega), Nat.add_sub_cancel_left, frames_all h, frames_none (whole_changed hl hl2 h3 hi hc)]
  simp
theorem get_prefix {l : List Int} (h : ∀ n ∈ l, I64 n) (hl : l.length ≤ 4000) {k : Nat} (hk : k < (put l).length) : get ((put l).take k) = none := by
  cases hg : get ((put l).take k) with
  | none => rfl
  | some m =>
    obtain ⟨h1, h2, h3⟩ := get_inv hg
    have e : put l = put m ++ (put l).drop k := by rw [← h1, List.take_append_drop]
    have h4 := get_put h hl
    rw [e, get_put_append h3 h2, if_neg] at h4
    · cases h4
    · intro hd
      have := congrArg List.length hd
      rw [List.length_drop] at this
      simp at this; omega
theorem frames_len : ∀ (b : List UInt8), (frames b).2 ≤ b.length := by
  intro b
  obtain ⟨n, hn⟩ : ∃ n, n = b.length := ⟨_, rfl⟩
  revert b
  induction n using Nat.strongRecOn with
  | _ n ih =>
    intro b hn
    cases hw : whole b with
    | none => rw [frames_none hw]; simp
    | some p =>
      obtain ⟨l, k⟩ := p
      have hs := whole_size hw
      rw [frames_some hw]
      have := ih (b.drop k).length (by rw [List.length_drop]; omega) (b.drop k) rfl
      rw [List.length_drop] at this
      simp only; omega
end Cod
end Go.Proofs.Ytahplhcijlgelaa
