/- What the codec returns, in use: slices of lists, values and errors. -/
import Derived.Test.YtahplhcijlgelaaFrsW
namespace Go.Proofs.Ytahplhcijlgelaa
set_option maxRecDepth 100000
open Sh Go.RowKit
theorem LL.len {w : World} {v : Value} {ll : List (List Int)} (h : LL w v ll) {K : Value → World → Prop} {X : List PanicEntry → World → Prop} {cs : Array Bool} :
    CallB Try.prog .len #[59] 3 cs #[v] w K X = K (.int .i64 ll.length) w := by obtain ⟨vs, h1, _⟩ := h; exact h1.len Ty.lists
theorem LL.le {w : World} {v : Value} {ll : List (List Int)} (h : LL w v ll) : ll.length ≤ 9223372036854775807 := by obtain ⟨vs, h1, _⟩ := h; exact h1.le
/-- The k-th list. -/
theorem LL.at_ {w : World} {v : Value} {ll : List (List Int)} (h : LL w v ll) {k : Nat} (hk : k < ll.length) : ∃ u b o, Sl w 1 u ll[k].length (iv ll[k]) ∧ b < w.heap.size ∧ w.cell? ⟨b, o, none⟩ = some u ∧
    ∀ (w1 : World) (K : Value → World → Prop) (X : List PanicEntry → World → Prop), DoV Try.prog (Instr.indexAt 59 v (.int .i64 k)) w1 K X = K (.pointer (some ⟨b, o, none⟩)) w1 := by
  obtain ⟨i, hi, hz, hs, hby⟩ := Ty.info_parts Ty.ints_info
  obtain ⟨vs, h1, h2⟩ := h
  have hvl := h1.length
  obtain ⟨b, o, hc, hb, hix⟩ := h1.index Ty.lists hi hs (k := .i64) hk (by decide)
  have hg : vs[k]? = some (vs[k]'(by omega)) := List.getElem?_eq_getElem (by omega)
  exact ⟨vs[k]'(by omega), b, o + k * 1, h2 k _ _ hg (List.getElem?_eq_getElem hk), hb, by rw [Nat.mul_one]; exact hc k _ hg, hix⟩
theorem LL.upto {w : World} {v : Value} {ll : List (List Int)} (h : LL w v ll) {K : Value → World → Prop} {X : List PanicEntry → World → Prop} {k : Nat} (hk : k ≤ ll.length) (hK : ∀ v', LL w v' (ll.take k) → K v' w) :
    DoV Try.prog (Instr.sliceAt 59 v none (some (.int .i64 k)) none) w K X := by
  obtain ⟨i, hi, hz, hs, hby⟩ := Ty.info_parts Ty.ints_info
  obtain ⟨vs, h1, h2⟩ := h
  refine slice_upto Ty.lists hi hs (by decide) h1 hk fun v' hv' _ => hK v' ⟨vs.take (k * 1), by rw [List.length_take, Nat.min_eq_left hk]; exact hv', fun j u l hu hl => ?_⟩
  rw [Nat.mul_one, List.getElem?_take] at hu
  rw [List.getElem?_take] at hl
  split at hu
  · rw [if_pos ‹_›] at hl; exact h2 j u l hu hl
  · cases hu
theorem LL.from_ {w : World} {v : Value} {ll : List (List Int)} (h : LL w v ll) {K : Value → World → Prop} {X : List PanicEntry → World → Prop} {k : Nat} (hk : k ≤ ll.length) (hK : ∀ v', LL w v' (ll.drop k) → K v' w) :
    DoV Try.prog (Instr.sliceAt 59 v (some (.int .i64 k)) none none) w K X := by
  obtain ⟨i, hi, hz, hs, hby⟩ := Ty.info_parts Ty.ints_info
  obtain ⟨vs, h1, h2⟩ := h
  refine slice_from Ty.lists hi hs (by decide) h1 hk fun v' hv' _ => hK v' ⟨vs.drop (k * 1), by rw [List.length_drop]; exact hv', fun j u l hu hl => ?_⟩
  rw [Nat.mul_one, List.getElem?_drop] at hu
  rw [List.getElem?_drop] at hl
  exact h2 _ u l hu hl
def putV (l : List Int) : List UInt8 × Int := if 4000 < l.length then ([], 2) else (Cod.put l, 0)
def frameV (l : List Int) : List UInt8 × Int := if 4000 < l.length then ([], 2) else (Cod.frame l, 0)
def getV (b : List UInt8) : List Int × Int := match Cod.get b with | none => ([], 7) | some l => (l, 0)
def framesV (b : List UInt8) : List (List Int) × Nat × Int := if 200000 < b.length then ([], 0, 2) else ((Cod.frames b).1, (Cod.frames b).2, 0)
theorem PutQ.use {l : List Int} {w w' : World} {r : Value} (h : PutQ l w r w') : ∃ v, r = .tuple #[v, .int .i64 (putV l).2] ∧ Sl w' 1 v (putV l).1.length (bv (putV l).1) ∧ Ext w w' := by
  obtain ⟨x, h⟩ := h
  unfold putV
  by_cases hl : 4000 < l.length
  · rw [if_pos hl] at h ⊢; exact ⟨_, h, Sl.nil _ _, x⟩
  · rw [if_neg hl] at h ⊢; obtain ⟨v, h1, h2⟩ := h; exact ⟨v, h1, Sl.of_owns h2, x⟩
theorem FrameQ.use {l : List Int} {w w' : World} {r : Value} (h : FrameQ l w r w') : ∃ v, r = .tuple #[v, .int .i64 (frameV l).2] ∧ Sl w' 1 v (frameV l).1.length (bv (frameV l).1) ∧ Ext w w' := by
  obtain ⟨x, h⟩ := h
  unfold frameV
  by_cases hl : 4000 < l.length
  · rw [if_pos hl] at h ⊢; exact ⟨_, h, Sl.nil _ _, x⟩
  · rw [if_neg hl] at h ⊢; obtain ⟨v, h1, h2⟩ := h; exact ⟨v, h1, Sl.of_owns h2, x⟩
theorem GetQ.use {l : List UInt8} {w w' : World} {r : Value} (h : GetQ l w r w') : ∃ v, r = .tuple #[v, .int .i64 (getV l).2] ∧ Sl w' 1 v (getV l).1.length (iv (getV l).1) ∧ Ext w w' := by
  obtain ⟨x, h⟩ := h
  unfold getV
  cases hg : Cod.get l with
  | none => rw [hg] at h; exact ⟨_, h, Sl.nil _ _, x⟩
  | some ns => rw [hg] at h; obtain ⟨v, h1, h2⟩ := h; exact ⟨v, h1, Sl.of_owns h2, x⟩
theorem LL.nil (w : World) : LL w (.slice none 0 0) [] := ⟨[], Sl.nil _ _, fun j u l hu _ => by simp at hu⟩
theorem FramesQ.use {l : List UInt8} {w w' : World} {r : Value} (h : FramesQ l w r w') : ∃ v, r = .tuple #[v, .int .i64 (framesV l).2.1, .int .i64 (framesV l).2.2] ∧ LL w' v (framesV l).1 ∧ Ext w w' := by
  obtain ⟨x, h⟩ := h
  unfold framesV
  by_cases hl : 200000 < l.length
  · rw [if_pos hl] at h ⊢; exact ⟨_, h, LL.nil _, x⟩
  · rw [if_neg hl] at h ⊢; obtain ⟨v, h1, h2⟩ := h; exact ⟨v, h1, h2, x⟩
end Go.Proofs.Ytahplhcijlgelaa
