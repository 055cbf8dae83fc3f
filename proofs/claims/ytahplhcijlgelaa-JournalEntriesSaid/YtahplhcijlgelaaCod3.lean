/- The plain law of the codec, on: what is read as whole frames has the bytes of these. No program in sight. -/
import Derived.Test.YtahplhcijlgelaaCod2
namespace Go.Proofs.Ytahplhcijlgelaa
set_option maxRecDepth 100000
namespace Cod
theorem hdr_long {b : List UInt8} (h : 3 ≤ b.length) : hdr (long b) = b.take 3 := by
  match b, h with
  | x :: y :: z :: r, _ =>
    have h1 := x.toBitVec.isLt
    have h2 := y.toBitVec.isLt
    have h3 := z.toBitVec.isLt
    have e1 : x.toNat < 256 := h1
    have e2 : y.toNat < 256 := h2
    have e3 : z.toNat < 256 := h3
    have e : ∀ (u : UInt8) (n : Nat), n % 256 = u.toNat → UInt8.ofNat n = u := fun u n hn => by
      apply UInt8.toNat_inj.1
      rw [UInt8.toNat_ofNat', ← hn]
    simp only [hdr, long, List.getD_cons_zero, List.getD_cons_succ, List.take_succ_cons, List.take_zero]
    rw [e x _ (by omega), e y _ (by omega), e z _ (by omega)]
theorem whole_inv {b : List UInt8} {l : List Int} {n : Nat} (h : whole b = some (l, n)) : b.take n = frame l ∧ l.length ≤ 4000 ∧ ∀ m ∈ l, I64 m := by
  have hs := whole_size h
  unfold whole at h
  split at h
  · cases h
  · rename_i hlen
    split at h
    · cases h
    · rename_i hsum
      have hsum : (b.drop (3 + long b)).take 8 = Dig.bytes8 (Dig.text (b.take (3 + long b))) := by
        exact Classical.byContradiction hsum
      cases hg : get ((b.take (3 + long b)).drop 3) with
      | none => rw [hg] at h; cases h
      | some l' =>
        rw [hg] at h
        simp only [Option.map_some, Option.some.injEq, Prod.mk.injEq] at h
        obtain ⟨rfl, rfl⟩ := h
        obtain ⟨h1, h2, h3⟩ := get_inv hg
        have hk : (put l').length = long b := by
          rw [← h1, List.length_drop, List.length_take]; omega
        have hb : b.take (3 + long b) = body l' := by
          unfold body
          rw [hk, hdr_long (by omega), ← h1]
          have := List.take_append_drop 3 (b.take (3 + long b))
          rw [List.take_take, Nat.min_eq_left (by omega)] at this
          exact this.symm
        refine ⟨?_, h2, h3⟩
        rw [show long b + 11 = (3 + long b) + 8 by omega, List.take_add, hsum, hb]
        rfl
/-- What bytes are read as: their beginning is the frames of it. -/
theorem frames_inv : ∀ (b : List UInt8), b.take (frames b).2 = all (frames b).1 ∧ Fits (frames b).1 := by
  intro b
  obtain ⟨n, hn⟩ : ∃ n, n = b.length := ⟨_, rfl⟩
  revert b
  induction n using Nat.strongRecOn with
  | _ n ih =>
    intro b hn
    cases hw : whole b with
    | none =>
      rw [frames_none hw]
      exact ⟨rfl, fun l hl => by cases hl⟩
    | some p =>
      obtain ⟨l, k⟩ := p
      have hs := whole_size hw
      obtain ⟨h1, h2, h3⟩ := whole_inv hw
      obtain ⟨h4, h5⟩ := ih (b.drop k).length (by rw [List.length_drop]; omega) (b.drop k) rfl
      rw [frames_some hw]
      refine ⟨?_, fun l' hl' => ?_⟩
      · simp only
        rw [List.take_add, h1, h4, all_cons]
      · rcases List.mem_cons.1 hl' with rfl | hl'
        · exact ⟨h3, h2⟩
        · exact h5 l' hl'
theorem all_length_ge : ∀ (ls : List (List Int)), 11 * ls.length ≤ (all ls).length
  | [] => by simp
  | l :: ls => by
    have := all_length_ge ls
    rw [all_cons, List.length_append, frame_length, List.length_cons]; omega
theorem frames_count (b : List UInt8) : (all (frames b).1).length = (frames b).2 ∧ 11 * (frames b).1.length ≤ b.length := by
  have h1 := (frames_inv b).1
  have h2 := frames_len b
  have h3 := all_length_ge (frames b).1
  rw [← h1, List.length_take] at h3 ⊢
  omega
end Cod
namespace Jou
end Jou
end Go.Proofs.Ytahplhcijlgelaa
