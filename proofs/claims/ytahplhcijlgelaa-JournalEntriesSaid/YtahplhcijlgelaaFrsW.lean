/- The walks of both Frames. -/
import Derived.Test.YtahplhcijlgelaaWhoR
import Derived.Test.YtahplhcijlgelaaTy2
import Derived.Test.YtahplhcijlgelaaCod2
namespace Go.Proofs.Ytahplhcijlgelaa
set_option maxRecDepth 100000
open Sh Go.RowKit
/-- The rows of the lists, each one's own. -/
def Each (base : Nat) (w : World) (vs : List Value) (ll : List (List Int)) : Prop := vs.length = ll.length ∧ ∀ (j : Nat) (u : Value) (l : List Int), vs[j]? = some u → ll[j]? = some l → w.ownsRow base 3 1 u l.length (iv l)
/-- A slice of slices that reads as lists. -/
def LL (w : World) (v : Value) (ll : List (List Int)) : Prop := ∃ vs, Sl w 1 v ll.length vs ∧ ∀ (j : Nat) (u : Value) (l : List Int), vs[j]? = some u → ll[j]? = some l → Sl w 1 u l.length (iv l)
theorem LL.ext {w w' : World} {v : Value} {ll : List (List Int)} (h : LL w v ll) (he : Ext w w') : LL w' v ll := by
  obtain ⟨vs, h1, h2⟩ := h
  exact ⟨vs, h1.ext he, fun j u l hu hl => (h2 j u l hu hl).ext he⟩
theorem LL.of_own {base : Nat} {w : World} {v : Value} {vs : List Value} {ll : List (List Int)} (h : w.ownsRow base 45 1 v ll.length vs) (he : Each base w vs ll) : LL w v ll :=
  ⟨vs, Sl.of_owns h, fun j u l hu hl => Sl.of_owns (he.2 j u l hu hl)⟩
theorem Each.ext {base : Nat} {w w' : World} {vs : List Value} {ll : List (List Int)} (h : Each base w vs ll) (he : Ext w w') : Each base w' vs ll := ⟨h.1, fun j u l hu hl => Own.ext (h.2 j u l hu hl) he⟩
theorem Each.mod {base n : Nat} {w w' : World} {v : Value} {vs xs : List Value} {ll : List (List Int)} (h : Each base w vs ll) (ho : w.ownsRow base 45 1 v n xs) (hm : Mod (fun k => v.ownBlock = some k) w w') : Each base w' vs ll :=
  ⟨h.1, fun j u l hu hl => Own.mod (h.2 j u l hu hl) hm (Own.off_own ho (h.2 j u l hu hl) (by decide))⟩
theorem Each.snoc {base : Nat} {w : World} {vs : List Value} {ll : List (List Int)} {u : Value} {l : List Int} (h : Each base w vs ll) (hu : w.ownsRow base 3 1 u l.length (iv l)) : Each base w (vs ++ [u]) (ll ++ [l]) := by
  refine ⟨by simp [h.1], fun j u' l' hu' hl' => ?_⟩
  by_cases hj : j < vs.length
  · rw [List.getElem?_append_left hj] at hu'
    rw [List.getElem?_append_left (by rw [← h.1]; exact hj)] at hl'
    exact h.2 j u' l' hu' hl'
  · have hl0 := h.1
    rw [List.getElem?_append_right (by omega)] at hu'
    rw [List.getElem?_append_right (by omega)] at hl'
    have h0 : j - vs.length = 0 := by have := (List.getElem?_eq_some_iff.1 hu').1; simp at this; omega
    have h1 : j - ll.length = 0 := by omega
    rw [h0] at hu'; rw [h1] at hl'
    simp at hu' hl'
    subst hu'; subst hl'; exact hu
/-- append of one list onto a row of one's own -/
theorem app_list {base : Nat} {w : World} {K : Value → World → Prop} {X : List PanicEntry → World → Prop} {v u : Value} {vs : List Value} {ll : List (List Int)} {l : List Int} {cs : Array Bool} (hown : w.ownsRow base 45 1 v ll.length vs) (he : Each base w vs ll) (hu : w.ownsRow base 3 1 u l.length (iv l)) (hl : ll.length < 1000000000000) (hb : base ≤ w.heap.size)
    (hk : ∀ v' w1, w1.ownsRow base 45 1 v' (ll ++ [l]).length (vs ++ [u]) → Each base w1 (vs ++ [u]) (ll ++ [l]) → Mod (base ≤ ·) w w1 → K v' w1) :
    DoV Try.prog (Instr.buildSlice 59 1 #[(0, u)]) w (fun s w1 => CallB Try.prog .append #[59, 59] 59 cs #[v, s] w1 K X) X := by
  obtain ⟨i, hi, hz, hs, hby⟩ := Ty.info_parts Ty.ints_info
  refine lit1_i Ty.lists hi hs hz rfl (Sl.cells (Sl.of_owns hu)) fun g w1 x1 hat hg _ => ?_
  have hs1 := x1.size
  have hown1 := Own.ext hown x1
  refine app_own Ty.lists hi hz hs hby rfl (by omega) hown1 (Sl.of_lit hat) (by simpa using Sl.one (Sl.of_owns hu)) (by omega) (by omega) (by omega) fun v' w2 h1 hm _ => ?_
  refine hk v' w2 (by simpa using h1) (Each.snoc ((he.ext x1).mod hown1 hm) (Own.mod (Own.ext hu x1) hm (Own.off_own hown1 (Own.ext hu x1) (by decide)))) ((Mod.of_ext (S := fun _ => False) x1).comp hm (fun _ _ h => h.elim) fun k hk h => (Own.block hown h).1)
/-- What Frames of either kind returns. -/
def FramesQ (b : List UInt8) (w : World) (r : Value) (w' : World) : Prop :=
  Ext w w' ∧ if 200000 < b.length then r = .tuple #[.slice none 0 0, .int .i64 0, limitE] else ∃ v, r = .tuple #[v, .int .i64 (Cod.frames b).2, okE] ∧ LL w' v (Cod.frames b).1
theorem Frames_ret {v : Value} {b : List UInt8} (w : World) (hv : Sl w 1 v b.length (bv b)) : Ret Try.prog 28 #[v] w (FramesQ b w) := by
  refine ret_of (fun _ _ => sh_codec_Frames_ok _) fun R hR => ?_
  unfold sh_codec_Frames
  obtain ⟨i8, hi8, hz8, hs8, _⟩ := Ty.info_parts Ty.u8_info
  rw [hv.len Ty.bytes, bin_gtr]
  by_cases hl : 200000 < b.length
  · rw [decide_eq_true (by omega), Br_bool, if_pos rfl]
    exact hR _ _ ⟨Ext.refl _, by rw [if_pos hl]; rfl⟩
  · rw [decide_eq_false (by omega), Br_bool, if_neg (by decide)]
    refine loop2 (fun x y w1 => ∃ (at_ : Nat) (vs : List Value) (ll : List (List Int)), at_ ≤ b.length ∧ y = .int .i64 at_ ∧ w1.ownsRow w.heap.size 45 1 x ll.length vs ∧ Each w.heap.size w1 vs ll ∧ Mod (w.heap.size ≤ ·) w w1 ∧ ll.length ≤ at_ ∧ Cod.frames b = (ll ++ (Cod.frames (b.drop at_)).1, at_ + (Cod.frames (b.drop at_)).2)) (fun _ y _ => b.length - (intOf y).toNat)
      ⟨0, [], [], by omega, rfl, Own.nil _ _ _ _, ⟨rfl, by simp⟩, Mod.refl _ _, by simp, by simp⟩ ?_
    rintro hh x _ w1 h5 h6 ⟨at_, vs, ll, hat, rfl, hx, he, hm, hlt, hfr⟩ K hK
    have hz1 := hm.size
    have hv1 := hv.ext hm.new
    rw [h5, h6]
    refine slice_from Ty.bytes hi8 hs8 (by decide) hv1 (l := at_) hat fun v' hv' _ => ?_
    have hv2 : Sl w1 1 v' (b.drop at_).length (bv (b.drop at_)) := by rw [bv_drop] at hv'; rw [List.length_drop]; exact hv'
    refine callF_ret (whole_ret w1 hv2) ?_
    rintro r w2 ⟨x2, hr⟩
    cases hw : Cod.whole (b.drop at_) with
    | none =>
      rw [hw] at hr
      simp only at hr
      subst hr
      rw [ext2_0, ext2_1, bin_eql, decide_eq_true rfl, Br_bool, if_pos rfl]
      refine hR _ _ ⟨(hm.trans (.of_ext x2)).new, ?_⟩
      rw [if_neg hl, hfr, Cod.frames_none hw]
      exact ⟨x, by simp [okE], by simpa using LL.of_own (Own.ext hx x2) (he.ext x2)⟩
    | some p =>
      obtain ⟨ns, n⟩ := p
      rw [hw] at hr
      obtain ⟨u, rfl, hu⟩ := hr
      have hn := Cod.whole_size hw
      rw [List.length_drop] at hn
      rw [ext2_0, ext2_1, bin_eql, decide_eq_false (by omega), Br_bool, if_neg (by decide)]
      have hz2 := x2.size
      refine app_list (Own.ext hx x2) (he.ext x2) (Own.mono hu hz1) (by omega) (by omega) fun v3 w3 h3 he3 m3 => ?_
      rw [bin_add, i64_wrap (by omega) (by omega)]
      refine hK _ _ _ ⟨at_ + n, _, _, by omega, by simp, h3, he3, (hm.trans (.of_ext x2)).trans m3, by simp; omega, ?_⟩ (by simp [intOf]; omega)
      rw [hfr, Cod.frames_some hw, List.drop_drop]
      simp [Nat.add_assoc]
theorem refFrames_ret {v : Value} {b : List UInt8} (w : World) (hv : Sl w 1 v b.length (bv b)) : Ret Try.prog 30 #[v] w (FramesQ b w) := by
  refine ret_of (fun _ _ => sh_landfallref08_Frames_ok _) fun R hR => ?_
  unfold sh_landfallref08_Frames
  obtain ⟨i8, hi8, hz8, hs8, _⟩ := Ty.info_parts Ty.u8_info
  rw [hv.len Ty.bytes, bin_gtr]
  by_cases hl : 200000 < b.length
  · rw [decide_eq_true (by omega), Br_bool, if_pos rfl]
    exact hR _ _ ⟨Ext.refl _, by rw [if_pos hl]; rfl⟩
  · rw [decide_eq_false (by omega), Br_bool, if_neg (by decide)]
    refine loop2 (fun x y w1 => ∃ (at_ : Nat) (vs : List Value) (ll : List (List Int)), at_ ≤ b.length ∧ y = .int .i64 at_ ∧ w1.ownsRow w.heap.size 45 1 x ll.length vs ∧ Each w.heap.size w1 vs ll ∧ Mod (w.heap.size ≤ ·) w w1 ∧ ll.length ≤ at_ ∧ Cod.frames b = (ll ++ (Cod.frames (b.drop at_)).1, at_ + (Cod.frames (b.drop at_)).2)) (fun _ y _ => b.length - (intOf y).toNat)
      ⟨0, [], [], by omega, rfl, Own.nil _ _ _ _, ⟨rfl, by simp⟩, Mod.refl _ _, by simp, by simp⟩ ?_
    rintro hh x _ w1 h5 h6 ⟨at_, vs, ll, hat, rfl, hx, he, hm, hlt, hfr⟩ K hK
    have hz1 := hm.size
    have hv1 := hv.ext hm.new
    rw [h5, h6]
    refine slice_from Ty.bytes hi8 hs8 (by decide) hv1 (l := at_) hat fun v' hv' _ => ?_
    have hv2 : Sl w1 1 v' (b.drop at_).length (bv (b.drop at_)) := by rw [bv_drop] at hv'; rw [List.length_drop]; exact hv'
    refine callF_ret (refWhole_ret w1 hv2) ?_
    rintro r w2 ⟨x2, hr⟩
    cases hw : Cod.whole (b.drop at_) with
    | none =>
      rw [hw] at hr
      simp only at hr
      subst hr
      rw [ext2_0, ext2_1, bin_eql, decide_eq_true rfl, Br_bool, if_pos rfl]
      refine hR _ _ ⟨(hm.trans (.of_ext x2)).new, ?_⟩
      rw [if_neg hl, hfr, Cod.frames_none hw]
      exact ⟨x, by simp [okE], by simpa using LL.of_own (Own.ext hx x2) (he.ext x2)⟩
    | some p =>
      obtain ⟨ns, n⟩ := p
      rw [hw] at hr
      obtain ⟨u, rfl, hu⟩ := hr
      have hn := Cod.whole_size hw
      rw [List.length_drop] at hn
      rw [ext2_0, ext2_1, bin_eql, decide_eq_false (by omega), Br_bool, if_neg (by decide)]
      have hz2 := x2.size
      refine app_list (Own.ext hx x2) (he.ext x2) (Own.mono hu hz1) (by omega) (by omega) fun v3 w3 h3 he3 m3 => ?_
      rw [bin_add, i64_wrap (by omega) (by omega)]
      refine hK _ _ _ ⟨at_ + n, _, _, by omega, by simp, h3, he3, (hm.trans (.of_ext x2)).trans m3, by simp; omega, ?_⟩ (by simp [intOf]; omega)
      rw [hfr, Cod.frames_some hw, List.drop_drop]
      simp [Nat.add_assoc]
end Go.Proofs.Ytahplhcijlgelaa
