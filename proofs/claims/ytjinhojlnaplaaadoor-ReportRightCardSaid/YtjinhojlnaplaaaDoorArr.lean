/- Arrays in memory, strings of rows of bytes. No program in sight. -/
import Derived.Test.YtjinhojlnaplaaaDoorMem
import Derived.Laws.Cells
import Derived.Laws.CopyRow
import Derived.Great.BuildSlice
import Derived.Laws.Cover3
namespace Go.Proofs.YtjinhojlnaplaaaDoor
set_option maxRecDepth 100000
namespace Sh
open Go.RowKit
variable {P : Program} {w w' : World} {K : Value → World → Prop} {X : List PanicEntry → World → Prop}
theorem index_arr {t e : TypeId} {n : Nat} {i : TypeInfo} {b : Nat} {k : IntKind} {j : Nat} (ht : P.underlying t = some (.array n e)) (hi : P.info? e = some i) (hsz : i.size = 1) (hj : j < n) :
    DoV P (Instr.indexAt t (.pointer (some ⟨b, 0, none⟩)) (.int k j)) w K X = K (.pointer (some ⟨b, j, none⟩)) w := by
  refine DoV_ok ?_
  have hadd : (⟨b, 0, none⟩ : Addr).add j = ⟨b, j, none⟩ := by unfold Addr.add; split <;> simp_all
  simp [Instr.indexAt, asIntOf, Instr.sureAddr, run_underlying ht, sizeOf, typeInfo, hi, hsz, hj, hadd]
theorem loadVar_agg {t : TypeId} {b : Nat} {n : Nat} {xs : List Value} (ht : ∀ w, (isAgg t).run P w = .ok true w) (hs : ∀ w, (sizeOf t).run P w = .ok n w) (hx : xs.length = n)
    (h : ∀ j u, xs[j]? = some u → w.cell? ⟨b, 0 + j, none⟩ = some u) : (loadVar t ⟨b, 0, none⟩).run P w = .ok (.agg xs.toArray) w := by
  have hl := run_loadCells_list (P := P) w ⟨b, 0, none⟩ xs (fun j u hu => by
    have hadd : (⟨b, 0, none⟩ : Addr).add j = ⟨b, 0 + j, none⟩ := by unfold Addr.add; split <;> simp_all
    rw [hadd]; exact h j u hu)
  rw [hx] at hl
  simp [loadVar, ht, hs, hl]
/-- The whole array, read. -/
theorem load_arr {t : TypeId} {b o : Nat} {n : Nat} {xs : List Value} (ht : ∀ w, (isAgg t).run P w = .ok true w) (hs : ∀ w, (sizeOf t).run P w = .ok n w) (hx : xs.length = n)
    (h : ∀ j u, xs[j]? = some u → w.cell? ⟨b, o + j, none⟩ = some u) : DoV P (Instr.loadAt t (.pointer (some ⟨b, o, none⟩))) w K X = K (.agg xs.toArray) w := by
  refine DoV_ok ?_
  have hl := run_loadCells_list (P := P) w ⟨b, o, none⟩ xs (fun j u hu => by
    have hadd : (⟨b, o, none⟩ : Addr).add j = ⟨b, o + j, none⟩ := by unfold Addr.add; split <;> simp_all
    rw [hadd]; exact h j u hu)
  rw [hx] at hl
  simp [Instr.loadAt, Instr.sureAddr, loadVar, ht, hs, hl]
/-- A whole variable, written. -/
theorem store_all {t : TypeId} {b : Nat} {cs : Array Value} {e : TypeId} {v : Value} {n : Nat} (hs : ∀ w, (sizeOf t).run P w = .ok n w) (h : At w b (.cells cs e (0, 0))) (hn : cs.size = n) (hv : v.cells.size = n) (h1 : ∀ u ∈ v.cells.toList, u.oneCell' = true)
    (hk : ∀ w1, Mod (· = b) w w1 → At w1 b (.cells v.cells e (0, 0)) → w1.heap.size = w.heap.size → K undef w1) : DoU P (Instr.storeAt t (.pointer (some ⟨b, 0, none⟩)) v) w K X := by
  have hl := run_storeCells_at (P := P) b 0 e v.cells.toList 0 cs w h (by simp; omega) h1
  have e2 : (cs.toList.take (0 + 0) ++ v.cells.toList ++ cs.toList.drop (0 + 0 + v.cells.toList.length)).toArray = v.cells := by
    have hd : cs.toList.drop (0 + 0 + v.cells.toList.length) = [] := List.drop_eq_nil_of_le (by simp; omega)
    rw [hd]; simp
  rw [e2] at hl
  have e1 : (Instr.storeAt t (.pointer (some ⟨b, 0, none⟩)) v).run P w = .ok () (w.setRow b v.cells) := by
    simp [Instr.storeAt, Instr.sureAddr, storeVar, hs, hv, hl]
  rw [DoU_ok e1]
  refine hk _ ⟨rfl, rfl, rfl, by simp [World.setRow], fun k hk hne => ?_⟩ ?_ (by simp [World.setRow])
  · simp only [World.setRow]
    rw [Array.getElem?_modify, if_neg (fun e => hne e.symm)]
  · unfold At at h ⊢
    simp only [World.setRow, Array.getElem?_modify, if_true, h, Option.map_some]
/-- A row of bytes as a string. -/
theorem str_of {T S e : TypeId} (hs : P.underlying T = some (.slice e)) (he : P.underlying e = some (.int .u8)) (hd : P.underlying S = some .string) {v : Value} {l : List UInt8} (hv : Sl w 1 v l.length (l.map fun b => Value.int .u8 b.toNat)) :
    DoV P (convert T S v) w K X = K (.string ⟨l.toArray⟩) w := by
  refine DoV_ok ?_
  obtain ⟨a, cap, rfl, h1, h2, h3, h4⟩ := hv
  cases a with
  | none =>
    have : l = [] := by
      rcases h4 with h4 | ⟨b, o, h, _⟩
      · simpa using h4
      · cases h
    subst this
    exact run_convert_bytes_nil w T e hs he 0 cap S hd
  | some a =>
    refine run_convert_bytes_back w T S e a cap l hs he hd fun j hj => ?_
    rcases h4 with h4 | ⟨b, o, h, hlt, hc⟩
    · have : l = [] := by simpa using h4
      subst this; simp at hj
    · cases h
      have hadd : (⟨b, o, none⟩ : Addr).add j = ⟨b, o + j, none⟩ := by unfold Addr.add; split <;> simp_all
      rw [hadd]
      exact hc j _ (by simp [hj])
theorem lit_i {T e : TypeId} {i : TypeInfo} {z : Value} {n : Nat} {parts : Array (Nat × Value)} (xs : List Value) (hT : P.underlying T = some (.slice e)) (hi : P.info? e = some i) (hsz : i.size = 1) (hz : i.zero = some z) (h1 : ∀ v ∈ xs, v.cells = #[v]) (hn : xs.length = n) (hpos : 0 < n) (hsm : n ≤ 16777216)
    (hp : parts.toList = (xs.zipIdx 0).map fun x => (x.2, x.1))
    (hk : ∀ g w1, Ext w w1 → At w1 g (.cells xs.toArray e (0, 0)) → w.heap.size = g → w1.heap.size = g + 1 → K (.slice (some ⟨g, 0, none⟩) n n) w1) : DoV P (Instr.buildSlice T n parts) w K X := by
  have e1 := run_buildSlice (P := P) w T e n parts xs.toArray i z hT hi hz (by rw [hsz]; omega) (by rw [hsz]; omega) (by
    rw [hsz, hp]
    exact Great.fill_flat xs _ h1 (by simp [hn]))
  rw [DoV_ok e1]
  exact hk _ _ (Ext.alloc _ _) (by unfold At; exact heap_alloc_new w _) rfl (by simp)
theorem Own.of_lit {base g : Nat} {e : TypeId} {xs : List Value} (h : At w g (.cells xs.toArray e (0, 0))) (hb : base ≤ g) (hn : xs.length ≤ maxLen) : w.ownsRow base e 1 (.slice (some ⟨g, 0, none⟩) xs.length xs.length) xs.length xs :=
  ⟨by simp, .inr ⟨g, xs.length, _, rfl, hb, h, Nat.le_refl _, hn, by simp, by simp⟩⟩
/-- All of an array in memory as a slice. -/
theorem slice_arr {t e : TypeId} {n : Nat} {b : Nat} {i : TypeInfo} {xs : List Value} (ht : P.underlying t = some (.array n e)) (hi : P.info? e = some i) (hx : xs.length = n) {e' : TypeId} {f : Nat × Nat} (h : At w b (.cells xs.toArray e' f)) (hn : n ≤ maxLen)
    (hk : Sl w 1 (.slice (some ⟨b, 0, none⟩) n n) n xs → K (.slice (some ⟨b, 0, none⟩) n n) w) : DoV P (Instr.sliceAt t (.pointer (some ⟨b, 0, none⟩)) none none none) w K X := by
  have he : P.elem t = e := by simp [Program.elem, ht]
  have hl : P.arrayLen t = n := by simp [Program.arrayLen, ht]
  have e1 := run_sliceAt_array_all (P := P) w t ⟨b, 0, none⟩ (by rw [he, hl]; exact ht)
  rw [he, hl] at e1
  have hs : (sizeOf e).run P w = .ok i.size w := by simp [sizeOf, typeInfo, hi]
  rw [hs] at e1
  have e2 : slicedAt ⟨b, 0, none⟩ 0 n n i.size = .slice (some ⟨b, 0, none⟩) n n := by
    unfold slicedAt
    split
    · simp
    · simp [Addr.add]
  simp only [Result.andThen_ok, e2] at e1
  rw [DoV_ok e1]
  refine hk ⟨_, n, rfl, Nat.le_refl _, hn, by simpa using hx, .inr ⟨b, 0, rfl, h.lt, fun j u hu => ?_⟩⟩
  rw [h.cell, Nat.zero_add]; simpa using hu
/-- A part of a slice: the same value whenever it is taken. -/
theorem range_val {T e : TypeId} {i : TypeInfo} {sz n : Nat} {v : Value} {xs : List Value} {k k' : IntKind} (hT : P.underlying T = some (.slice e)) (hi : P.info? e = some i) (hsz : i.size = sz) (hpos : 0 < sz) (hv : Sl w sz v n xs) {l h : Nat} (hl : l ≤ h) (hh : h ≤ n) :
    ∃ v', Sl w sz v' (h - l) ((xs.take (h * sz)).drop (l * sz)) ∧ ∀ (w1 : World) (K : Value → World → Prop) (X : List PanicEntry → World → Prop), DoV P (Instr.sliceAt T v (some (.int k l)) (some (.int k' h)) none) w1 K X = K v' w1 := by
  have he := elem_of hT
  obtain ⟨a, cap, rfl, h1, h2, h3, h4⟩ := hv
  refine ⟨sliced a l h cap sz, sliced_sl hpos ⟨a, cap, rfl, h1, h2, h3, h4⟩ hl hh (by omega) (Nat.le_refl _), fun w1 K X => DoV_ok ?_⟩
  rw [run_sliceAt_slice w1 _ _ _ _ _ (by rw [he]; exact hT), run_slice_lh w1 T a n cap (by rw [he]; exact hT) k k' l h (by omega) (by omega) (by omega), he]
  simp [sizeOf, typeInfo, hi, hsz]
theorem upto_val {T e : TypeId} {i : TypeInfo} {sz n : Nat} {v : Value} {xs : List Value} {k : IntKind} (hT : P.underlying T = some (.slice e)) (hi : P.info? e = some i) (hsz : i.size = sz) (hpos : 0 < sz) (hv : Sl w sz v n xs) {h : Nat} (hh : h ≤ n) :
    ∃ v', Sl w sz v' h (xs.take (h * sz)) ∧ ∀ (w1 : World) (K : Value → World → Prop) (X : List PanicEntry → World → Prop), DoV P (Instr.sliceAt T v none (some (.int k h)) none) w1 K X = K v' w1 := by
  have he := elem_of hT
  obtain ⟨a, cap, rfl, h1, h2, h3, h4⟩ := hv
  refine ⟨sliced a 0 h cap sz, ?_, fun w1 K X => DoV_ok ?_⟩
  · have := sliced_sl (w := w) (m := cap) hpos ⟨a, cap, rfl, h1, h2, h3, h4⟩ (Nat.zero_le h) hh (by omega) (Nat.le_refl _)
    simpa using this
  · rw [run_sliceAt_slice w1 _ _ _ _ _ (by rw [he]; exact hT), run_slice_h w1 T a n cap (by rw [he]; exact hT) k h (by omega) (by omega), he]
    simp [sizeOf, typeInfo, hi, hsz]
/-- A slice taken as an array's address. -/
theorem arr_val {t e : TypeId} {n : Nat} {v : Value} {xs : List Value} (ht : P.underlying t = some (.array n e)) (hpos : 0 < n) (hv : Sl w 1 v n xs) :
    ∃ b o, (∀ j u, xs[j]? = some u → w.cell? ⟨b, o + j, none⟩ = some u) ∧ b < w.heap.size ∧ ∀ (w1 : World) (K : Value → World → Prop) (X : List PanicEntry → World → Prop), DoV P (Instr.arrayAt t v) w1 K X = K (.pointer (some ⟨b, o, none⟩)) w1 := by
  obtain ⟨a, cap, rfl, h1, h2, h3, h4⟩ := hv
  rcases h4 with h4 | ⟨b, o, rfl, hlt, hc⟩
  · subst h4; simp at h3; omega
  · exact ⟨b, o, hc, hlt, fun w1 K X => DoV_ok (run_arrayAt w1 t e n _ n cap ht (Nat.le_refl _))⟩
end Sh
end Go.Proofs.YtjinhojlnaplaaaDoor
