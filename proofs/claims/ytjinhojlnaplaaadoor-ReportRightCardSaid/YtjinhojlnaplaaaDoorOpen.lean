/- What arguments that read as data are: slices of integers, of slices, of structs. No program in sight. -/
import Derived.Test.YtjinhojlnaplaaaDoorMem
import Derived.OpenShut
import Derived.Carry
import Derived.ChangeArms
import Derived.ChangeMaps5
namespace Go.Proofs.YtjinhojlnaplaaaDoor
set_option maxRecDepth 100000
namespace Sh
open Go.RowKit Go.WideShapes Go.ChangeShapes
section
variable {H : Type} {enc : TypeId × Value → H} {P : Program} {w : World}
theorem pick_list {α : Type} [Inhabited α] {n : Nat} {R : Nat → α → Prop} (h : ∀ i, i < n → ∃ a, R i a) : ∃ l : List α, l.length = n ∧ ∀ i a, l[i]? = some a → R i a := by
  have h2 : ∀ i, ∃ a, i < n → R i a := fun i => by
    by_cases hi : i < n
    · obtain ⟨a, ha⟩ := h i hi; exact ⟨a, fun _ => ha⟩
    · exact ⟨default, fun h => absurd h hi⟩
  refine ⟨(List.range n).map fun i => Classical.choose (h2 i), by simp, fun i a ha => ?_⟩
  rw [List.getElem?_map] at ha
  by_cases hi : i < n
  · rw [List.getElem?_range hi] at ha
    simp only [Option.map_some, Option.some.injEq] at ha
    subst ha
    exact Classical.choose_spec (h2 i) hi
  · rw [List.getElem?_eq_none (by simpa using hi)] at ha; cases ha
/-- A slice that reads as data: its cells, and that each element reads. -/
theorem trod_sl {t e : TypeId} {sz fuel : Nat} {v : Value} {x : DataW H × List MemPlace} (ht : P.underlying t = some (.slice e)) (hc : P.cellsOf e = sz) (hpos : 0 < sz)
    (h : DataW.trod enc P w 0 (fun _ => true) true fuel t [v] = some x) :
    ∃ n xs, Sl w sz v n xs ∧ ∀ i, i < n → ∃ m y, DataW.trod enc P w 0 (fun _ => true) true m e ((xs.drop (i * sz)).take sz) = some y := by
  rcases DataW.trod_slice ht h with ⟨h0, _⟩ | ⟨a, len, cap, elems, rest, n, _, hcs, _, _, hl, hm, hlen, hel, _, _⟩
  · simp only [List.cons.injEq, and_true] at h0
    subst h0
    exact ⟨0, [], Sl.nil _ _, fun i hi => by omega⟩
  · simp only [List.cons.injEq, and_true] at hcs
    subst hcs
    rw [hc] at hel
    have each : ∀ i, i < len → ∃ cs y, w.cells? 0 (a.add (i * sz)) sz = some cs ∧ DataW.trod enc P w 0 (fun _ => true) true n e cs = some y := fun i hi => by
      have h1 := hel i hi
      rw [List.getElem?_eq_getElem (by omega), Option.bind_eq_some_iff] at h1
      obtain ⟨cs, h2, h3⟩ := h1
      exact ⟨cs, _, h2, h3⟩
    obtain ⟨xs, hxs⟩ : ∃ xs : List Value, xs = (List.range (len * sz)).map fun j => (w.cell? (a.add j)).getD undef := ⟨_, rfl⟩
    have hxl : xs.length = len * sz := by rw [hxs]; simp
    have add2 : ∀ i j, (a.add i).add j = a.add (i + j) := fun i j => by
      unfold Addr.add
      by_cases hi : i = 0
      · subst hi; simp
      · rw [if_neg hi]
        by_cases hj : j = 0
        · subst hj; simp [hi]
        · rw [if_neg hj, if_neg (by omega)]; simp [Nat.add_assoc]
    have cellsAt : ∀ i, i < len → ∀ r, r < sz → ∃ u, w.cell? (a.add (i * sz + r)) = some u := fun i hi r hr => by
      obtain ⟨cs, y, h1, _⟩ := each i hi
      obtain ⟨_, h2, h3⟩ := World.cells?_some h1
      have h4 := h3 r hr
      rw [List.getElem?_eq_getElem (by omega), add2] at h4
      exact ⟨_, h4⟩
    have cellAt : ∀ j, j < len * sz → ∃ u, w.cell? (a.add j) = some u := fun j hj => by
      have h1 : j / sz < len := by rw [Nat.div_lt_iff_lt_mul hpos]; exact hj
      obtain ⟨u, hu⟩ := cellsAt (j / sz) h1 (j % sz) (Nat.mod_lt _ hpos)
      rw [Nat.mul_comm, Nat.div_add_mod] at hu
      exact ⟨u, hu⟩
    have hxj : ∀ j u, xs[j]? = some u → w.cell? (a.add j) = some u := fun j u hu => by
      have hj : j < len * sz := by have := (List.getElem?_eq_some_iff.1 hu).1; omega
      obtain ⟨u', hu'⟩ := cellAt j hj
      rw [hxs, List.getElem?_map, List.getElem?_range hj] at hu
      simp only [Option.map_some, hu', Option.getD_some, Option.some.injEq] at hu
      rw [hu', hu]
    refine ⟨len, xs, ⟨some a, cap, rfl, hl, hm, hxl, ?_⟩, fun i hi => ?_⟩
    · by_cases h0 : len * sz = 0
      · exact .inl (List.eq_nil_of_length_eq_zero (by omega))
      · obtain ⟨u, hu⟩ := cellAt 0 (by omega)
        obtain ⟨b, o, spot⟩ := a
        have hs := World.cell?_spot hu
        have hs : spot = none := by simpa [Addr.add] using hs
        subst hs
        refine .inr ⟨b, o, rfl, ?_, fun j u hu => ?_⟩
        · simp only [World.cell?, Addr.add] at hu
          simp only [if_true] at hu
          refine Nat.lt_of_not_le fun hge => ?_
          rw [Array.getElem?_eq_none hge] at hu
          simp at hu
        · have := hxj j u hu
          unfold Addr.add at this
          split at this
          · rename_i hj; subst hj; simpa using this
          · exact this
    · obtain ⟨cs, y, h1, h2⟩ := each i hi
      obtain ⟨_, h3, h4⟩ := World.cells?_some h1
      refine ⟨n, y, ?_⟩
      have e1 : (xs.drop (i * sz)).take sz = cs := by
        apply List.ext_getElem?
        intro r
        rw [List.getElem?_take]
        by_cases hr : r < sz
        · rw [if_pos hr, List.getElem?_drop]
          have h5 := h4 r hr
          rw [add2] at h5
          have hj : i * sz + r < len * sz := by
            have : (i + 1) * sz ≤ len * sz := Nat.mul_le_mul_right sz (by omega)
            rw [Nat.add_mul] at this; omega
          rw [← h5, hxs, List.getElem?_map, List.getElem?_range hj]
          obtain ⟨u', hu'⟩ := cellAt _ hj
          simp [hu']
        · rw [if_neg hr, List.getElem?_eq_none (by omega)]
      rw [e1]; exact h2
theorem drop_one {xs : List Value} {i : Nat} {u : Value} (h : xs[i]? = some u) : (xs.drop (i * 1)).take 1 = [u] := by
  obtain ⟨hi, rfl⟩ := List.getElem?_eq_some_iff.1 h
  rw [Nat.mul_one, List.drop_eq_getElem_cons hi]; rfl
/-- A slice of integers. -/
theorem trod_nums {t e : TypeId} {k : IntKind} {fuel : Nat} {v : Value} {x : DataW H × List MemPlace} (ht : P.underlying t = some (.slice e)) (he : P.underlying e = some (.int k)) (hc : P.cellsOf e = 1)
    (h : DataW.trod enc P w 0 (fun _ => true) true fuel t [v] = some x) : ∃ l : List Int, Sl w 1 v l.length (l.map (Value.int k)) ∧ ∀ z ∈ l, (Lit.int k z).wf = true := by
  obtain ⟨n, xs, hs, hel⟩ := trod_sl ht hc (by decide) h
  have hxl : xs.length = n := by obtain ⟨_, _, _, _, _, h3, _⟩ := hs; omega
  obtain ⟨l, hl, hR⟩ := pick_list (n := n) (R := fun i z => xs[i]? = some (Value.int k z) ∧ (Lit.int k z).wf = true) fun i hi => by
    obtain ⟨m, y, hy⟩ := hel i hi
    obtain ⟨u, hu⟩ : ∃ u, xs[i]? = some u := ⟨xs[i], List.getElem?_eq_getElem (by omega)⟩
    rw [drop_one hu] at hy
    obtain ⟨z, h1, _, h2⟩ := DataW.trod_int he hy
    simp only [List.cons.injEq, and_true] at h1
    subst h1
    exact ⟨z, hu, h2⟩
  have e1 : xs = l.map (Value.int k) := by
    apply List.ext_getElem?
    intro i
    by_cases hi : i < n
    · have h2 := (hR i l[i] (List.getElem?_eq_getElem (by omega))).1
      rw [h2, List.getElem?_map, List.getElem?_eq_getElem (by omega)]; rfl
    · rw [List.getElem?_eq_none (by omega), List.getElem?_eq_none (by simp; omega)]
  subst e1
  refine ⟨l, by rw [hl]; exact hs, fun z hz => ?_⟩
  obtain ⟨i, hi⟩ := List.getElem?_of_mem hz
  exact (hR i z hi).2
end
end Sh
end Go.Proofs.YtjinhojlnaplaaaDoor
