/- The walks of the laws' frames and head. -/
import Derived.Test.YtbmkdhiigapbdaaLit
namespace Go.Proofs.Ytbmkdhiigapbdaa
open Sh Go.RowKit
def endsOf (ll : List (List Int)) (k : Nat) : List Int := (List.range k).map fun i => ((Cod.all (ll.take (i + 1))).length : Int)
theorem endsOf_length (ll : List (List Int)) (k : Nat) : (endsOf ll k).length = k := by simp [endsOf]
theorem endsOf_succ (ll : List (List Int)) (k : Nat) : endsOf ll (k + 1) = endsOf ll k ++ [((Cod.all (ll.take (k + 1))).length : Int)] := by simp [endsOf, List.range_succ]
theorem endsOf_get {ll : List (List Int)} {k i : Nat} (h : i < k) : (endsOf ll k)[i]? = some ((Cod.all (ll.take (i + 1))).length : Int) := by simp [endsOf, h]
theorem frame_few {l : List Int} (h : ∀ n ∈ l, Cod.I64 n) (hl : l.length ≤ 30) : 12 ≤ (Cod.frame l).length ∧ (Cod.frame l).length ≤ 400 := by
  rw [Cod.frame_length]
  have h1 := Cod.put_length h (by omega)
  have h2 := Cod.put_pos l
  omega
theorem all_few {ll : List (List Int)} (hi : ∀ l ∈ ll, ∀ n ∈ l, Cod.I64 n) (hf : Few ll) {k : Nat} (hk : k ≤ ll.length) : (Cod.all (ll.take k)).length ≤ 400 * k := by
  induction k with
  | zero => simp [Cod.all]
  | succ k ih =>
    have h1 := ih (by omega)
    have hm : ll[k]'(by omega) ∈ ll := List.getElem_mem _
    have h2 := frame_few (hi _ hm) (hf.2 _ hm)
    rw [Cod.all_take_succ (by omega), List.length_append]; omega
/-- What frames returns of few lists. -/
def LawFramesQ (ll : List (List Int)) (w : World) (r : Value) (w' : World) : Prop :=
  Ext w w' ∧ ∃ vb ve, r = .tuple #[vb, ve, .bool true] ∧ w'.ownsRow w.heap.size 5 1 vb (Cod.all ll).length (bv (Cod.all ll)) ∧ w'.ownsRow w.heap.size 3 1 ve (endsOf ll ll.length).length (iv (endsOf ll ll.length))
theorem frames_ret {v : Value} {ll : List (List Int)} (hi : ∀ l ∈ ll, ∀ n ∈ l, Cod.I64 n) (hf : Few ll) (w : World) (hv : LL w v ll) : Ret Try.prog 22 #[v] w (LawFramesQ ll w) := by
  refine ret_of (fun _ _ => sh_landfalllaw08_frames_ok _) fun R hR => ?_
  unfold sh_landfalllaw08_frames
  have hle := hv.le
  have hlen := hf.1
  refine loop3 (fun x y z w1 => ∃ k : Nat, k ≤ ll.length ∧ z = .int .i64 k ∧ w1.ownsRow w.heap.size 5 1 x (Cod.all (ll.take k)).length (bv (Cod.all (ll.take k))) ∧ w1.ownsRow w.heap.size 3 1 y (endsOf ll k).length (iv (endsOf ll k)) ∧ Mod (w.heap.size ≤ ·) w w1) (fun _ _ z _ => ll.length - (intOf z).toNat)
    ⟨0, by omega, rfl, by simpa [Cod.all, bv] using Own.nil _ _ _ _, by simpa [endsOf, iv] using Own.nil _ _ _ _, Mod.refl _ _⟩ ?_
  rintro h x y _ w1 h5 h6 h7 ⟨k, hk, rfl, hx, hy, hm⟩ K hK
  have hz1 := hm.size
  have hv1 := hv.ext hm.new
  rw [h5, h6, h7, hv1.len, bin_lss]
  refine Br_i (fun hb => ?_) fun hb => ?_
  · have hlt := dec_t hb
    have hlt : k < ll.length := by omega
    refine join2 (fun x y w2 => w2.ownsRow w.heap.size 5 1 x (Cod.all (ll.take (k + 1))).length (bv (Cod.all (ll.take (k + 1)))) ∧ w2.ownsRow w.heap.size 3 1 y (endsOf ll (k + 1)).length (iv (endsOf ll (k + 1))) ∧ Mod (w.heap.size ≤ ·) w w2) ?_ fun K2 hK2 => ?_
    · rintro h2 x2 y2 w2 h5 h6 ⟨q1, q2, q3⟩
      rw [bin_add, i64_wrap (by omega) (by omega), h5, h6]
      exact hK _ _ _ _ ⟨k + 1, by omega, by simp, q1, q2, q3⟩ (by simp [intOf]; omega)
    · obtain ⟨u1, g1, o1, hs1, hg1, hc1, hix1⟩ := hv1.at_ hlt
      have hmem : ll[k] ∈ ll := List.getElem_mem _
      have h30 := hf.2 _ hmem
      have hfr := frame_few (hi _ hmem) h30
      have hal := all_few hi hf hk
      rw [hix1, load_cell Ty.ints_agg hc1]
      refine callF_ret (Frame_ret (hi _ hmem) w1 hs1) ?_
      rintro r w2 ⟨x2, hr⟩
      rw [if_neg (by omega)] at hr
      obtain ⟨u, rfl, hu⟩ := hr
      have hz2 := x2.size
      rw [ext2_0, ext2_1]
      refine join0 (fun w3 => w3 = w2) ?_ fun K3 hK3 => ?_
      · rintro h3 w3 rfl
        refine app_bytes (Own.ext hx x2) (Sl.of_owns hu) (by omega) (by omega) fun v4 w4 h4 m4 => ?_
        have hz4 := m4.size
        have hy4 := Own.mod (Own.ext hy x2) m4 (Own.off_own (Own.ext hx x2) (Own.ext hy x2) (by decide))
        rw [(Sl.of_owns h4).len Ty.bytes]
        refine lit_ints [((Cod.all (ll.take (k + 1))).length : Int)] rfl (by decide) (by decide) (by rw [Cod.all_take_succ hlt]; rfl) fun v5 w5 x5 h5 _ => ?_
        have hz5 := x5.size
        refine app_ints (Own.ext hy4 x5) (Sl.of_owns h5) (by rw [endsOf_length]; simp; omega) (by omega) fun v6 w6 h6 m6 => ?_
        have h4' := Own.ext h4 x5
        refine hK2 _ _ _ ⟨?_, ?_, ?_⟩
        · rw [Cod.all_take_succ hlt]
          exact Own.mod h4' m6 (Own.off_own (Own.ext hy4 x5) h4' (by decide))
        · rw [endsOf_succ]; exact h6
        · exact (((hm.trans (.of_ext x2)).trans (m4.mono fun k _ h => (Own.block hx h).1)).trans (.of_ext x5)).trans (m6.mono fun k _ h => (Own.block hy h).1)
      · refine join1 (fun b w3 => b = .bool false ∧ w3 = w2) ?_ fun K4 hK4 => ?_
        · rintro h3 x3 w3 hx3 ⟨rfl, rfl⟩
          rw [hx3]
          exact Br_i (fun h => by cases h) fun _ => hK3 _ rfl
        · rw [okE, bin_neq]
          refine Gd_i (fun _ => ?_) fun hb => by simp at hb
          rw [(Sl.of_owns hu).len Ty.bytes, bin_lss]
          exact hK4 _ _ ⟨by rw [decide_eq_false (by omega)], rfl⟩
  · have hge := dec_f hb
    have hkk : k = ll.length := by omega
    subst hkk
    rw [List.take_of_length_le (Nat.le_refl _)] at hx
    exact hR _ _ ⟨hm.new, x, y, rfl, hx, hy⟩
theorem bytes5 : (Cod.frame [5]).take 5 = [0, 0, 2, 2, 10] ∧ (Cod.frame [5]).length = 13 ∧ Cod.put [0, -1, 64] = [6, 0, 1, 128, 1] ∧ Cod.get [2, 128, 0] = none := by
  have hz : ∀ (n : Int) (u : Nat), Cod.zig n = u → u < 128 → Cod.num n = [UInt8.ofNat u] := fun n u h hu => by unfold Cod.num; rw [h, Cod.vi_small hu]
  have hp : Cod.put [5] = [2, 10] := by simp [Cod.put, Cod.nums, hz 1 2 (by decide) (by decide), hz 5 10 (by decide) (by decide)]
  refine ⟨?_, ?_, ?_, ?_⟩
  · simp [Cod.frame, Cod.body, Cod.hdr, hp]
  · rw [Cod.frame_length, hp]; rfl
  · have h64 : Cod.num 64 = [128, 1] := by
      unfold Cod.num
      rw [show Cod.zig 64 = 128 by decide, Cod.vi_big (by decide), Cod.vi_small (by decide)]; rfl
    simp [Cod.put, Cod.nums, h64, hz 3 6 (by decide) (by decide), hz 0 0 (by decide) (by decide), hz (-1) 1 (by decide) (by decide)]
  · decide +kernel
theorem frames5 : Cod.frames (Cod.frame [5] ++ [0, 0]) = ([[5]], 13) := by
  have h : Cod.Fits [[5]] := by
    intro l hl
    simp only [List.mem_singleton] at hl
    subst hl
    exact ⟨by simp [Cod.I64], by decide⟩
  have h2 := Cod.frames_all h [0, 0]
  have e : Cod.all [[5]] = Cod.frame [5] := by simp [Cod.all]
  rw [e, Cod.frames_none (b := [0, 0]) (by unfold Cod.whole; rw [if_pos (.inl (by decide))]), bytes5.2.1] at h2
  exact h2
theorem head_ret (w : World) : Ret Try.prog 9 #[] w fun r w' => r = .bool true ∧ Ext w w' := by
  refine ret_of (fun _ _ => sh_landfalllaw08_head_ok) fun R hR => ?_
  unfold sh_landfalllaw08_head
  obtain ⟨b1, b2, b3, b4⟩ := bytes5
  have i5 : ∀ n ∈ [(5 : Int)], Cod.I64 n := by simp [Cod.I64]
  refine lit_ints [0, -1, 64] rfl (by decide) (by decide) rfl fun v1 w1 x1 h1 _ => ?_
  refine callF_ret (Put_ret (l := [0, -1, 64]) (by simp [Cod.I64]) w1 (Sl.of_owns h1)) ?_
  rintro r w2 ⟨x2, hr⟩
  rw [if_neg (by decide)] at hr
  obtain ⟨p, rfl, hp⟩ := hr
  rw [ext2_0, ext2_1]
  refine lit_bytes [2, 128, 0] rfl (by decide) (by decide) rfl fun v3 w3 x3 h3 _ => ?_
  refine callF_ret (Get_ret w3 (Sl.of_owns h3)) ?_
  rintro r w4 ⟨x4, hr⟩
  rw [b4] at hr
  simp only at hr
  subst hr
  rw [ext2_0, ext2_1]
  refine lit_ints [5] rfl (by decide) (by decide) rfl fun v5 w5 x5 h5 _ => ?_
  refine callF_ret (Frame_ret i5 w5 (Sl.of_owns h5)) ?_
  rintro r w6 ⟨x6, hr⟩
  rw [if_neg (by decide)] at hr
  obtain ⟨c, rfl, hc⟩ := hr
  rw [ext2_0, ext2_1]
  refine lit_nobytes fun v7 w7 x7 h7 _ => ?_
  have hc7 := (Sl.of_owns hc).ext x7
  have z7 := x7.size
  refine app_bytes h7 hc7 (by rw [b2]; decide) z7 fun v8 w8 h8 m8 => ?_
  have z8 := m8.size
  have x8 : Ext w6 w8 := ((Mod.of_ext x7 : Mod (w6.heap.size ≤ ·) w6 w7).trans (m8.mono fun k _ h => (Own.block h7 h).1)).new
  refine lit_bytes [0, 0] rfl (by decide) (by decide) rfl fun v9 w9 x9 h9 _ => ?_
  have z9 := x9.size
  have h8' := Own.ext h8 x9
  refine app_bytes h8' (Sl.of_owns h9) (by rw [List.nil_append, b2]; decide) (by omega) fun v10 w10 h10 m10 => ?_
  have x10 : Ext w6 w10 := ((Mod.of_ext (x8.trans x9) : Mod (w6.heap.size ≤ ·) w6 w9).trans (m10.mono fun k _ h => (Own.block h8' h).1)).new
  rw [List.nil_append] at h10
  refine callF_ret (Frames_ret w10 (Sl.of_owns h10)) ?_
  rintro r w11 ⟨x11, hr⟩
  have hlen : (Cod.frame [5] ++ [0, 0]).length = 15 := by rw [List.length_append, b2]; rfl
  rw [if_neg (by rw [hlen]; decide), frames5] at hr
  obtain ⟨q, rfl, hq⟩ := hr
  rw [ext3_0, ext3_1, ext3_2]
  have x0 := ((((x1.trans x2).trans x3).trans x4).trans x5).trans x6
  have xx := (x0.trans x10).trans x11
  have hp11 : Sl w11 1 p [6, 0, 1, 128, 1].length (bv [6, 0, 1, 128, 1]) := by
    have := (Sl.of_owns hp).ext (((((x3.trans x4).trans x5).trans x6).trans x10).trans x11)
    rw [b3] at this; exact this
  have hc11 : Sl w11 1 c 13 (bv (Cod.frame [5])) := by
    have := (Sl.of_owns hc).ext (x10.trans x11)
    rw [b2] at this; exact this
  refine join1 (fun b w3 => b = .bool true ∧ Ext w11 w3) ?_ fun K hK => ?_
  · rintro h12 b w12 hb ⟨rfl, x12⟩
    rw [hb]
    refine join1 (fun b w3 => b = .bool true ∧ Ext w11 w3) ?_ fun K hK => ?_
    · rintro h13 b w13 hb ⟨rfl, x13⟩
      rw [hb]
      refine Gd_i (fun _ => ?_) fun h => by cases h
      obtain ⟨i8, hi8, hz8, hs8, _⟩ := Ty.info_parts Ty.u8_info
      refine slice_upto (h := 5) Ty.bytes hi8 hs8 (by decide) (hc11.ext x13) (by decide) fun v14 h14 _ => ?_
      have h14' : Sl w13 1 v14 [0, 0, 2, 2, 10].length (bv [0, 0, 2, 2, 10]) := by
        have e : (bv (Cod.frame [5])).take (5 * 1) = bv [0, 0, 2, 2, 10] := by rw [← b1]; simp [bv, List.map_take]
        rw [e] at h14; exact h14
      refine lit_bytes [0, 0, 2, 2, 10] rfl (by decide) (by decide) rfl fun v15 w15 x15 h15 _ => ?_
      refine callF_same (SameBytes_ret (a := [0, 0, 2, 2, 10]) (b := [0, 0, 2, 2, 10]) w15 (h14'.ext x15) (Sl.of_owns h15)) ?_
      refine Gd_i (fun _ => ?_) fun h => by simp at h
      rw [bin_eql]
      refine Gd_i (fun _ => ?_) fun h => by simp at h
      refine lit_ints [5] rfl (by decide) (by decide) rfl fun v16 w16 x16 h16 _ => ?_
      obtain ⟨i, hi, hz, hs, hby⟩ := Ty.info_parts Ty.ints_info
      refine lit1_i Ty.lists hi hs hz rfl (Sl.cells (Sl.of_owns h16)) fun g w17 x17 hat hg _ => ?_
      have hll : LL w17 (.slice (some ⟨g, 0, none⟩) 1 1) [[5]] := ⟨[v16], Sl.of_lit hat, fun j u l hu hl => by
        cases j with
        | zero => simp at hu hl; subst hu; subst hl; exact (Sl.of_owns h16).ext x17
        | succ j => simp at hu⟩
      have x17' := ((x13.trans x15).trans x16).trans x17
      refine callF_ret (SameLists_ret w17 (hq.ext x17') hll) ?_
      rintro _ w18 ⟨rfl, x18⟩
      exact hR _ _ ⟨by simp, (xx.trans x17').trans x18⟩
    · refine Gd_i (fun _ => ?_) fun h => by cases h
      refine lit_bytes [6, 0, 1, 128, 1] rfl (by decide) (by decide) rfl fun v13 w13 x13 h13 _ => ?_
      have x13' := x12.trans x13
      refine callF_same (SameBytes_ret (a := [6, 0, 1, 128, 1]) (b := [6, 0, 1, 128, 1]) w13 (hp11.ext x13') (Sl.of_owns h13)) ?_
      refine Gd_i (fun _ => ?_) fun h => by simp at h
      rw [(hc11.ext x13').len Ty.bytes, bin_eql]
      exact hK _ _ ⟨by simp, x13'⟩
  · rw [okE, formE, bin_eql]
    refine Gd_i (fun _ => ?_) fun h => by simp at h
    rw [bin_eql]
    refine Gd_i (fun _ => ?_) fun h => by simp at h
    rw [bin_eql]
    refine Gd_i (fun _ => ?_) fun h => by simp at h
    rw [bin_eql]
    exact hK _ _ ⟨by simp, Ext.refl _⟩
end Go.Proofs.Ytbmkdhiigapbdaa
