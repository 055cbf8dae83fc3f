/- Short rules: tests, literals of integers and bytes, short appends; and the walks of SameLists, small and frames. -/
import Derived.Test.YtbmkdhiigapbdaaFrsW
namespace Go.Proofs.Ytbmkdhiigapbdaa
namespace Sh
variable {P : Program} {w : World} {K : Value → World → Prop} {X : List PanicEntry → World → Prop}
theorem Br_i {b : Bool} {A B : Prop} (h1 : b = true → A) (h2 : b = false → B) : Br (.bool b) A B := by
  rw [Br_bool]; cases b <;> simp_all
theorem Gd_i {b want : Bool} {A B : Prop} (h1 : b = want → A) (h2 : b = (!want) → B) : Gd (.bool b) want A B := by
  rw [Gd_bool]; cases b <;> cases want <;> simp_all
theorem dec_t {p : Prop} [Decidable p] (h : decide p = true) : p := of_decide_eq_true h
theorem dec_f {p : Prop} [Decidable p] (h : decide p = false) : ¬ p := of_decide_eq_false h
theorem Sl.length {sz n : Nat} {v : Value} {xs : List Value} (h : Sl w sz v n xs) : xs.length = n * sz := by obtain ⟨_, _, _, _, _, h3, _⟩ := h; exact h3
/-- an empty literal -/
theorem lit0_i {T e : TypeId} {i : TypeInfo} (hT : P.underlying T = some (.slice e)) (hi : P.info? e = some i)
    (hk : ∀ v w1, Ext w w1 → w1.ownsRow w.heap.size e 1 v 0 [] → w1.heap.size = w.heap.size + 1 → K v w1) : DoV P (Instr.buildSlice T 0 #[]) w K X := by
  have e1 : (Instr.buildSlice T 0 #[]).run P w = .ok (.slice (some ⟨w.heap.size, 0, none⟩) 0 0) (w.alloc (.cells #[] e)) := by
    simp [Instr.buildSlice, run_underlying hT, sizeOf, typeInfo, hi, Instr.fill, newRow, newObj, Sem.run]
    rw [show Array.range 0 = #[] by decide]; simp
  rw [DoV_ok e1]
  refine hk _ _ (Ext.alloc _ _) ⟨rfl, .inr ⟨w.heap.size, 0, #[], rfl, Nat.le_refl _, heap_alloc_new w _, Nat.le_refl _, Nat.zero_le _, rfl, rfl⟩⟩ (by simp)
/-- a literal of cells -/
theorem litn_i {T e : TypeId} {i : TypeInfo} {z : Value} {n : Nat} {parts : Array (Nat × Value)} (xs : List Value) (hT : P.underlying T = some (.slice e)) (hi : P.info? e = some i) (hsz : i.size = 1) (hz : i.zero = some z) (h1 : ∀ v ∈ xs, v.cells = #[v]) (hn : xs.length = n) (hpos : 0 < n) (hsm : n ≤ 16777216)
    (hp : parts.toList = (xs.zipIdx 0).map fun x => (x.2, x.1))
    (hk : ∀ v w1, Ext w w1 → w1.ownsRow w.heap.size e 1 v n xs → w1.heap.size = w.heap.size + 1 → K v w1) : DoV P (Instr.buildSlice T n parts) w K X := by
  refine lit_i xs hT hi hsz hz h1 hn hpos hsm hp fun g w1 x1 hat hg hs => ?_
  subst hn
  exact hk _ _ x1 (Own.of_lit hat (by omega) (by simp only [maxLen]; omega)) (by omega)
end Sh
open Sh Go.RowKit
theorem iv_cells (l : List Int) : ∀ v ∈ iv l, v.cells = #[v] := by
  intro v hv; simp only [iv, List.mem_map] at hv; obtain ⟨n, _, rfl⟩ := hv; rfl
theorem bv_cells (l : List UInt8) : ∀ v ∈ bv l, v.cells = #[v] := by
  intro v hv; simp only [bv, List.mem_map] at hv; obtain ⟨n, _, rfl⟩ := hv; rfl
theorem lit_ints {w : World} {K : Value → World → Prop} {X : List PanicEntry → World → Prop} {n : Nat} {parts : Array (Nat × Value)} (l : List Int) (hn : l.length = n) (hpos : 0 < n) (hsm : n ≤ 16777216) (hp : parts.toList = ((iv l).zipIdx 0).map fun x => (x.2, x.1))
    (hk : ∀ v w1, Ext w w1 → w1.ownsRow w.heap.size 3 1 v l.length (iv l) → w1.heap.size = w.heap.size + 1 → K v w1) : DoV Try.prog (Instr.buildSlice 22 n parts) w K X := by
  obtain ⟨i, hi, hz, hs, hby⟩ := Ty.info_parts Ty.int_info
  refine litn_i (iv l) Ty.ints hi hs hz (iv_cells l) (by rw [iv_length]; exact hn) hpos hsm hp fun v w1 x1 h1 h2 => hk v w1 x1 ?_ h2
  rw [hn]; exact h1
theorem lit_bytes {w : World} {K : Value → World → Prop} {X : List PanicEntry → World → Prop} {n : Nat} {parts : Array (Nat × Value)} (l : List UInt8) (hn : l.length = n) (hpos : 0 < n) (hsm : n ≤ 16777216) (hp : parts.toList = ((bv l).zipIdx 0).map fun x => (x.2, x.1))
    (hk : ∀ v w1, Ext w w1 → w1.ownsRow w.heap.size 5 1 v l.length (bv l) → w1.heap.size = w.heap.size + 1 → K v w1) : DoV Try.prog (Instr.buildSlice 23 n parts) w K X := by
  obtain ⟨i, hi, hz, hs, hby⟩ := Ty.info_parts Ty.u8_info
  refine litn_i (bv l) Ty.bytes hi hs hz (bv_cells l) (by rw [bv_length]; exact hn) hpos hsm hp fun v w1 x1 h1 h2 => hk v w1 x1 ?_ h2
  rw [hn]; exact h1
theorem lit_nobytes {w : World} {K : Value → World → Prop} {X : List PanicEntry → World → Prop}
    (hk : ∀ v w1, Ext w w1 → w1.ownsRow w.heap.size 5 1 v ([] : List UInt8).length (bv []) → w1.heap.size = w.heap.size + 1 → K v w1) : DoV Try.prog (Instr.buildSlice 23 0 #[]) w K X := by
  obtain ⟨i, hi, hz, hs, hby⟩ := Ty.info_parts Ty.u8_info
  exact lit0_i Ty.bytes hi hk
/-- append of integers that are there -/
theorem app_ints {base : Nat} {w : World} {K : Value → World → Prop} {X : List PanicEntry → World → Prop} {v x : Value} {l m : List Int} {cs : Array Bool} (hown : w.ownsRow base 3 1 v l.length (iv l)) (hx : Sl w 1 x m.length (iv m)) (hl : l.length + m.length < 10000000000000) (hb : base ≤ w.heap.size)
    (hk : ∀ v' w1, w1.ownsRow base 3 1 v' (l ++ m).length (iv (l ++ m)) → Mod (fun k => v.ownBlock = some k) w w1 → K v' w1) :
    CallB Try.prog .append #[22, 22] 22 cs #[v, x] w K X := by
  obtain ⟨i, hi, hz, hs, hby⟩ := Ty.info_parts Ty.int_info
  refine app_own Ty.ints hi hz hs hby rfl (by omega) hown hx (iv_one _) (by omega) (by omega) hb fun v' w2 h1 hm _ => ?_
  exact hk v' w2 (by simpa [iv] using h1) hm
theorem LL.len {w : World} {v : Value} {ll : List (List Int)} (h : LL w v ll) {K : Value → World → Prop} {X : List PanicEntry → World → Prop} {cs : Array Bool} :
    CallB Try.prog .len #[32] 3 cs #[v] w K X = K (.int .i64 ll.length) w := by obtain ⟨vs, h1, _⟩ := h; exact h1.len Ty.lists
theorem LL.le {w : World} {v : Value} {ll : List (List Int)} (h : LL w v ll) : ll.length ≤ 9223372036854775807 := by obtain ⟨vs, h1, _⟩ := h; exact h1.le
/-- The k-th list. -/
theorem LL.at_ {w : World} {v : Value} {ll : List (List Int)} (h : LL w v ll) {k : Nat} (hk : k < ll.length) : ∃ u b o, Sl w 1 u ll[k].length (iv ll[k]) ∧ b < w.heap.size ∧ w.cell? ⟨b, o, none⟩ = some u ∧
    ∀ (w1 : World) (K : Value → World → Prop) (X : List PanicEntry → World → Prop), DoV Try.prog (Instr.indexAt 32 v (.int .i64 k)) w1 K X = K (.pointer (some ⟨b, o, none⟩)) w1 := by
  obtain ⟨i, hi, hz, hs, hby⟩ := Ty.info_parts Ty.ints_info
  obtain ⟨vs, h1, h2⟩ := h
  have hvl := h1.length
  obtain ⟨b, o, hc, hb, hix⟩ := h1.index Ty.lists hi hs (k := .i64) hk (by decide)
  have hg : vs[k]? = some (vs[k]'(by omega)) := List.getElem?_eq_getElem (by omega)
  exact ⟨vs[k]'(by omega), b, o + k * 1, h2 k _ _ hg (List.getElem?_eq_getElem hk), hb, by rw [Nat.mul_one]; exact hc k _ hg, hix⟩
theorem LL.upto {w : World} {v : Value} {ll : List (List Int)} (h : LL w v ll) {K : Value → World → Prop} {X : List PanicEntry → World → Prop} {k : Nat} (hk : k ≤ ll.length) (hK : ∀ v', LL w v' (ll.take k) → K v' w) :
    DoV Try.prog (Instr.sliceAt 32 v none (some (.int .i64 k)) none) w K X := by
  obtain ⟨i, hi, hz, hs, hby⟩ := Ty.info_parts Ty.ints_info
  obtain ⟨vs, h1, h2⟩ := h
  refine slice_upto Ty.lists hi hs (by decide) h1 hk fun v' hv' _ => hK v' ⟨vs.take (k * 1), by rw [List.length_take, Nat.min_eq_left hk]; exact hv', fun j u l hu hl => ?_⟩
  rw [Nat.mul_one, List.getElem?_take] at hu
  rw [List.getElem?_take] at hl
  split at hu
  · rw [if_pos ‹_›] at hl; exact h2 j u l hu hl
  · cases hu
theorem LL.from_ {w : World} {v : Value} {ll : List (List Int)} (h : LL w v ll) {K : Value → World → Prop} {X : List PanicEntry → World → Prop} {k : Nat} (hk : k ≤ ll.length) (hK : ∀ v', LL w v' (ll.drop k) → K v' w) :
    DoV Try.prog (Instr.sliceAt 32 v (some (.int .i64 k)) none none) w K X := by
  obtain ⟨i, hi, hz, hs, hby⟩ := Ty.info_parts Ty.ints_info
  obtain ⟨vs, h1, h2⟩ := h
  refine slice_from Ty.lists hi hs (by decide) h1 hk fun v' hv' _ => hK v' ⟨vs.drop (k * 1), by rw [List.length_drop]; exact hv', fun j u l hu hl => ?_⟩
  rw [Nat.mul_one, List.getElem?_drop] at hu
  rw [List.getElem?_drop] at hl
  exact h2 _ u l hu hl
theorem SameLists_ret {x y : Value} {a b : List (List Int)} (w : World) (hx : LL w x a) (hy : LL w y b) : Ret Try.prog 20 #[x, y] w fun r w' => r = .bool (decide (a = b)) ∧ Ext w w' := by
  refine ret_of (fun _ _ => sh_landfallref08_SameLists_ok _ _) fun R hR => ?_
  unfold sh_landfallref08_SameLists
  have hle := hx.le
  rw [hx.len, hy.len, bin_neq]
  refine Br_i (fun hb => ?_) fun hb => ?_
  · have hne : ¬ ((a.length : Int) = b.length) := by simpa using hb
    refine hR _ _ ⟨?_, Ext.refl _⟩
    rw [decide_eq_false]
    rintro rfl; exact hne rfl
  · have hl : (a.length : Int) = b.length := by simpa using hb
    refine loop1 (fun x w1 => ∃ k : Nat, k ≤ a.length ∧ x = .int .i64 k ∧ Ext w w1 ∧ a.take k = b.take k) (fun x _ => a.length - (intOf x).toNat) ⟨0, by omega, rfl, Ext.refl _, by simp⟩ ?_
    rintro h _ w1 h5 ⟨k, hk, rfl, he, htk⟩ K hK
    rw [(hx.ext he).len, h5, bin_lss]
    refine Br_i (fun hb => ?_) fun hb => ?_
    · have hlt := dec_t hb
      have hlt : k < a.length := by omega
      refine draw_ext fun w2 hd => ?_
      have he2 : Ext w w2 := he.trans hd
      obtain ⟨u1, g1, o1, hs1, hg1, hc1, hix1⟩ := (hx.ext he2).at_ hlt
      obtain ⟨u2, g2, o2, hs2, hg2, hc2, hix2⟩ := (hy.ext he2).at_ (show k < b.length by omega)
      refine det_pure _ Ext.refl (fun w3 h3 K hK => by show DoV _ _ _ _ _; rw [hix1]; exact hK) ?_
      refine det_pure u1 Ext.refl (fun w3 h3 K hK => by show DoV _ _ _ _ _; rw [load_cell Ty.ints_agg (cell_ext hc1 hg1 h3)]; exact hK) ?_
      refine det_pure _ Ext.refl (fun w3 h3 K hK => by show DoV _ _ _ _ _; rw [hix2]; exact hK) ?_
      refine det_pure u2 Ext.refl (fun w3 h3 K hK => by show DoV _ _ _ _ _; rw [load_cell Ty.ints_agg (cell_ext hc2 hg2 h3)]; exact hK) ?_
      intro w3 h3 _
      refine callF_ret (SameInts_ret w3 (hs1.ext h3) (hs2.ext h3)) ?_
      rintro _ w4 ⟨rfl, h4⟩
      have he4 := (he2.trans h3).trans h4
      rw [un_not]
      refine Br_i (fun hb => ?_) fun hb => ?_
      · have hne : a[k] ≠ b[k] := by simpa using hb
        refine hR _ _ ⟨?_, he4⟩
        rw [decide_eq_false]
        rintro rfl; exact hne rfl
      · have heq : a[k] = b[k] := by simpa using hb
        rw [bin_add, i64_wrap (by omega) (by omega)]
        refine hK _ _ ⟨k + 1, by omega, by simp, he4, ?_⟩ (by simp [intOf]; omega)
        rw [List.take_succ_eq_append_getElem hlt, List.take_succ_eq_append_getElem (by omega), htk, heq]
    · have hge := dec_f hb
      refine hR _ _ ⟨?_, he⟩
      rw [decide_eq_true]
      rw [List.take_of_length_le (by omega), List.take_of_length_le (by omega)] at htk
      exact htk
/-- Few lists, and few integers in each. -/
def Few (ll : List (List Int)) : Prop := ll.length ≤ 10 ∧ ∀ l ∈ ll, l.length ≤ 30
theorem small_ret {x : Value} {a : List (List Int)} (w : World) (hx : LL w x a) : Ret Try.prog 21 #[x] w fun r w' => ∃ b, r = .bool b ∧ (b = true → Few a) ∧ w' = w := by
  refine ret_of (fun _ _ => sh_landfalllaw08_small_ok _) fun R hR => ?_
  unfold sh_landfalllaw08_small
  have hle := hx.le
  have hend : ∀ k : Nat, k ≤ a.length → (∀ l ∈ a.take k, l.length ≤ 30) → ¬ (k < a.length ∧ k < 20) → R (.returned (.bool (decide ((a.length : Int) ≤ 10)))) w := fun k hk hf hn => by
    refine hR _ _ ⟨_, rfl, fun hb => ?_, rfl⟩
    have h10 := dec_t hb
    refine ⟨by omega, ?_⟩
    rw [List.take_of_length_le (by omega)] at hf
    exact hf
  refine loop1 (fun x w1 => ∃ k : Nat, k ≤ a.length ∧ x = .int .i64 k ∧ w1 = w ∧ ∀ l ∈ a.take k, l.length ≤ 30) (fun x _ => a.length - (intOf x).toNat) ⟨0, by omega, rfl, rfl, by simp⟩ ?_
  rintro h _ w1 h5 ⟨k, hk, rfl, hw, htk⟩ K hK
  subst w1
  rw [h5]
  refine join0 (fun w1 => w1 = w ∧ k < a.length) ?_ fun K' hK' => ?_
  · rintro h2 w1 ⟨hw, hlt⟩
    subst w1
    obtain ⟨u1, g1, o1, hs1, hg1, hc1, hix1⟩ := hx.at_ hlt
    rw [hix1, load_cell Ty.ints_agg hc1, hs1.len Ty.ints, bin_gtr]
    refine Br_i (fun hb => ?_) fun hb => ?_
    · exact hR _ _ ⟨false, rfl, fun h => (by cases h), rfl⟩
    · have h30 := dec_f hb
      rw [bin_add, i64_wrap (by omega) (by omega)]
      refine hK _ _ ⟨k + 1, by omega, by simp, rfl, ?_⟩ (by simp [intOf]; omega)
      rw [List.take_succ_eq_append_getElem hlt]
      intro l hl
      rcases List.mem_append.1 hl with hl | hl
      · exact htk l hl
      · simp at hl; subst hl; omega
  · rw [hx.len, bin_lss]
    refine Gd_i (fun hb => ?_) fun hb => ?_
    · have hlt := dec_t hb
      rw [bin_lss]
      refine Br_i (fun hb2 => ?_) fun hb2 => ?_
      · exact hK' _ ⟨rfl, by omega⟩
      · have := dec_f hb2
        rw [hx.len, bin_leq]
        exact hend k hk htk (by omega)
    · have hlt := dec_f hb
      rw [hx.len, bin_leq]
      exact hend k hk htk (by omega)
end Go.Proofs.Ytbmkdhiigapbdaa
