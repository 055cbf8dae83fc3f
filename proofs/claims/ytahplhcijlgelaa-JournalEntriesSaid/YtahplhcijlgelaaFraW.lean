/- The walks of the codec's sum and of both Frame. -/
import Derived.Test.YtahplhcijlgelaaSumW
namespace Go.Proofs.Ytahplhcijlgelaa
set_option maxRecDepth 100000
open Sh Go.RowKit
theorem bytes8_length (d : BitVec 64) : (Dig.bytes8 d).length = 8 := by simp [Dig.bytes8]
theorem bytes8_at (d : BitVec 64) {i : Nat} (hi : i < 8) : (bv (Dig.bytes8 d))[i]? = some (.int .u8 (UInt8.ofBitVec ((d >>> (56 - 8 * i)).setWidth 8)).toNat) := by
  simp [bv, Dig.bytes8, hi]
def sumV (l : List UInt8) : Value := .agg (bv (Dig.bytes8 (Dig.text l))).toArray
theorem sum_ret {v : Value} {l : List UInt8} (w : World) (hv : Sl w 1 v l.length (bv l)) : Ret Try.prog 34 #[v] w fun r w' => r = sumV l ∧ Ext w w' := by
  refine ret_of (fun _ _ => sh_codec_sum_ok _) fun R hR => ?_
  unfold sh_codec_sum
  obtain ⟨i8, hi8, _, hs8, _⟩ := Ty.info_parts Ty.u8_info
  have hle := hv.le
  refine alloc_i Ty.arr8_zero fun b1 w1 x1 hb1 e1 s1 => ?_
  rw [str_conv (hv.ext x1)]
  refine callF_ret (Text_ret _ (show l.toArray.size ≤ _ by simpa using hle) w1) ?_
  rintro _ w2 ⟨rfl, x2⟩
  show DoV _ _ _ _ _
  have ed : Dig.text (ByteArray.mk l.toArray).data.toList = Dig.text l := by simp
  rw [ed]
  generalize hd : Dig.text l = d
  refine alloc_i Ty.arr8_zero fun b2 w3 x3 hb2 e3 s3 => ?_
  have z2 := x2.size
  have z3 := x3.size
  have z1 := x1.size
  have hb13 := (hb1.ext x2).ext x3
  refine loop1 (fun x w4 => ∃ (k : Nat) (cs : Array Value), k ≤ 8 ∧ x = .int .i64 k ∧ cs.size = 8 ∧ At w4 b2 (.cells cs 67 (0, 0)) ∧ Mod (· = b2) w3 w4 ∧ ∀ j, j < k → cs[j]? = (bv (Dig.bytes8 d))[j]?) (fun x _ => 8 - (intOf x).toNat)
    ⟨0, _, by omega, rfl, by simp [Value.cells], hb2, Mod.refl _ _, by omega⟩ ?_
  rintro h _ w4 h9 ⟨k, cs, hk, rfl, hcs, hb4, m4, hset⟩ K hK
  rw [h9, bin_lss]
  by_cases hlt : k < 8
  · rw [decide_eq_true (by omega), Br_bool, if_pos rfl, bin_sub, i64_wrap (by omega) (by omega), bin_mul, i64_wrap (by omega) (by omega), u64v, bin_shr (by omega), conv_int Ty.u64 Ty.u8, shr_val d hlt (by omega), index_arr Ty.arr8 hi8 hs8 hlt]
    refine store_i Ty.u8_size hb4 (by omega) rfl fun w5 m5 hb5 s5 => ?_
    rw [bin_add, i64_wrap (by omega) (by omega)]
    refine hK _ _ ⟨k + 1, _, by omega, by simp, by simp [hcs], hb5, m4.trans m5, fun j hj => ?_⟩ (by simp [intOf]; omega)
    rw [Array.getElem?_setIfInBounds]
    by_cases hjk : k = j
    · subst hjk
      rw [if_pos rfl, if_pos (by omega), bytes8_at d hlt]
    · rw [if_neg hjk]; exact hset j (by omega)
  · have hk8 : k = 8 := by omega
    subst hk8
    have hcse : cs = (bv (Dig.bytes8 d)).toArray := by
      apply Array.ext'
      apply List.ext_getElem?
      intro j
      by_cases hj : j < 8
      · simpa using hset j hj
      · rw [List.getElem?_eq_none (by simp; omega), List.getElem?_eq_none (by simp [bv_length, bytes8_length]; omega)]
    subst hcse
    rw [decide_eq_false (by omega), Br_bool, if_neg (by decide)]
    rw [load_arr (n := 8) (xs := bv (Dig.bytes8 d)) Ty.arr8_agg Ty.arr8_size (by simp [bv_length, bytes8_length]) (fun j u hu => by rw [hb4.cell, Nat.zero_add]; simpa using hu)]
    have hb14 := hb13.mod m4 (by omega)
    refine store_all Ty.arr8_size hb14 (by simp [Value.cells]) (by simp [Value.cells, bv_length, bytes8_length]) (by intro u hu; exact bv_one _ u (by simpa [Value.cells] using hu)) fun w5 m5 hb5 s5 => ?_
    refine (?_ : Res _ _ _ _)
    unfold Res
    refine ⟨[sumV l], ?_, hR _ _ ⟨rfl, ?_⟩⟩
    · have hl := loadVar_agg (t := 67) (b := b1) (w := w5) Ty.arr8_agg Ty.arr8_size (xs := bv (Dig.bytes8 d)) (by simp [bv_length, bytes8_length]) (fun j u hu => by rw [hb5.cell, Nat.zero_add]; simpa [Value.cells] using hu)
      simp [rvRun, asAddr, hl, sumV, hd]
    · have : Mod (w.heap.size ≤ ·) w w5 := ((((Mod.of_ext x1 : Mod (w.heap.size ≤ ·) w w1).trans (.of_ext x2)).trans (.of_ext x3)).trans (m4.mono fun k _ h => by omega)).trans (m5.mono fun k _ h => by omega)
      exact this.new
/-- What Frame of either kind returns. -/
def FrameQ (l : List Int) (w : World) (r : Value) (w' : World) : Prop :=
  Ext w w' ∧ if 4000 < l.length then r = .tuple #[.slice none 0 0, limitE] else ∃ v, r = .tuple #[v, okE] ∧ w'.ownsRow w.heap.size 5 1 v (Cod.frame l).length (bv (Cod.frame l))
theorem hdr_bv (n : Nat) : bv (Cod.hdr n) = [.int .u8 (UInt8.ofNat (n / 65536)).toNat, .int .u8 (UInt8.ofNat (n / 256)).toNat, .int .u8 (UInt8.ofNat n).toNat] := rfl
theorem byte_mod (n : Nat) : (UInt8.ofNat (n % 256)).toNat = (UInt8.ofNat n).toNat := by simp [UInt8.toNat_ofNat']
theorem Frame_ret {l : List Int} (hi : ∀ n ∈ l, I64 n) {v : Value} (w : World) (hv : Sl w 1 v l.length (iv l)) : Ret Try.prog 22 #[v] w (FrameQ l w) := by
  refine ret_of (fun _ _ => sh_codec_Frame_ok _) fun R hR => ?_
  unfold sh_codec_Frame
  obtain ⟨i8, hi8, hz8, hs8, _⟩ := Ty.info_parts Ty.u8_info
  refine callF_ret (Put_ret hi w hv) ?_
  rintro r w1 ⟨x1, hr⟩
  by_cases hl : 4000 < l.length
  · rw [if_pos hl] at hr
    subst hr
    rw [ext2_0, ext2_1, limitE, bin_neq, decide_eq_false (by decide), Br_bool, if_pos (by decide)]
    exact hR _ _ ⟨x1, by rw [if_pos hl]; rfl⟩
  · rw [if_neg hl] at hr
    obtain ⟨p, rfl, hp⟩ := hr
    have hlen := Cod.put_length hi (by omega)
    rw [ext2_0, ext2_1, okE, bin_neq, decide_eq_true rfl, Br_bool, if_neg (by decide), (Sl.of_owns hp).len Ty.bytes, bin_shr (by decide), conv_int Ty.int Ty.u8, bin_shr (by decide), conv_int Ty.int Ty.u8, conv_int Ty.int Ty.u8]
    have q1 : (((Cod.put l).length : Int).fdiv (2 ^ min (16 : Int).toNat IntKind.i64.bits)) = (((Cod.put l).length / 65536 : Nat) : Int) := by
      rw [show (2 : Int) ^ min (16 : Int).toNat IntKind.i64.bits = 65536 from rfl, Int.fdiv_eq_ediv_of_nonneg _ (by omega)]; rfl
    have q2 : (((Cod.put l).length : Int).fdiv (2 ^ min (8 : Int).toNat IntKind.i64.bits)) = (((Cod.put l).length / 256 : Nat) : Int) := by
      rw [show (2 : Int) ^ min (8 : Int).toNat IntKind.i64.bits = 256 from rfl, Int.fdiv_eq_ediv_of_nonneg _ (by omega)]; rfl
    rw [q1, q2, u8_nat, u8_nat, u8_nat]
    refine lit_i (bv (Cod.hdr (Cod.put l).length)) Ty.bytes hi8 hs8 hz8 (by simp [hdr_bv, Value.cells]) rfl (by decide) (by decide) rfl fun g w2 x2 hat hg hsz => ?_
    have z1 := x1.size
    have hown : w2.ownsRow w.heap.size 5 1 (.slice (some ⟨g, 0, none⟩) 3 3) (Cod.hdr (Cod.put l).length).length (bv (Cod.hdr (Cod.put l).length)) := Own.of_lit hat (by omega) (by simp [hdr_bv, maxLen])
    refine app_bytes hown (Sl.of_owns (Own.ext hp x2)) (by simp [Cod.hdr]; omega) (by omega) fun v3 w3 h3 m3 => ?_
    have z2 := x2.size
    have z3 := m3.size
    refine callF_ret (sum_ret w3 (Sl.of_owns h3)) ?_
    rintro _ w4 ⟨rfl, x4⟩
    have z4 := x4.size
    refine alloc_i Ty.arr8_zero fun b w5 x5 hb _ _ => ?_
    have z5 := x5.size
    refine store_all Ty.arr8_size hb (by simp [Value.cells]) (v := sumV (Cod.hdr (Cod.put l).length ++ Cod.put l)) (by simp [sumV, Value.cells, bv_length, bytes8_length]) (by intro u hu; exact bv_one _ u (by simpa [sumV, Value.cells] using hu)) fun w6 m6 hb6 _ => ?_
    refine slice_arr Ty.arr8 hi8 (xs := bv (Dig.bytes8 (Dig.text (Cod.hdr (Cod.put l).length ++ Cod.put l)))) (by simp [bv_length, bytes8_length]) hb6 (by decide) fun hsl => ?_
    have h6 : w6.ownsRow w.heap.size 5 1 v3 (Cod.hdr (Cod.put l).length ++ Cod.put l).length (bv (Cod.hdr (Cod.put l).length ++ Cod.put l)) := Own.mod (Own.ext (Own.ext h3 x4) x5) m6 (Own.off_at (Own.ext (Own.ext h3 x4) x5) hb (by decide))
    refine app_bytes (m := Dig.bytes8 (Dig.text (Cod.hdr (Cod.put l).length ++ Cod.put l))) h6 (by rw [bytes8_length]; exact hsl) (by simp [Cod.hdr, bytes8_length]; omega) (by have := m6.size; omega) fun v7 w7 h7 m7 => ?_
    refine hR _ _ ⟨?_, ?_⟩
    · have hh : Mod (w.heap.size ≤ ·) w w7 := ((((((Mod.of_ext x1 : Mod (w.heap.size ≤ ·) w w1).trans (.of_ext x2)).trans (m3.mono fun k _ h => (Own.block hown h).1)).trans (.of_ext x4)).trans (.of_ext x5)).trans (m6.mono fun k _ h => by omega)).trans (m7.mono fun k _ h => (Own.block h6 h).1)
      exact hh.new
    · rw [if_neg hl]
      exact ⟨v7, rfl, h7⟩
theorem refFrame_ret {l : List Int} (hi : ∀ n ∈ l, I64 n) {v : Value} (w : World) (hv : Sl w 1 v l.length (iv l)) : Ret Try.prog 26 #[v] w (FrameQ l w) := by
  refine ret_of (fun _ _ => sh_landfallref08_Frame_ok _) fun R hR => ?_
  unfold sh_landfallref08_Frame
  obtain ⟨i8, hi8, hz8, hs8, _⟩ := Ty.info_parts Ty.u8_info
  refine callF_ret (refPut_ret hi w hv) ?_
  rintro r w1 ⟨x1, hr⟩
  by_cases hl : 4000 < l.length
  · rw [if_pos hl] at hr
    subst hr
    rw [ext2_0, ext2_1, limitE, bin_neq, decide_eq_false (by decide), Br_bool, if_pos (by decide)]
    exact hR _ _ ⟨x1, by rw [if_pos hl]; rfl⟩
  · rw [if_neg hl] at hr
    obtain ⟨p, rfl, hp⟩ := hr
    have hlen := Cod.put_length hi (by omega)
    have hps := Sl.of_owns hp
    have q3 : ∀ n : Nat, (n : Int).tmod 256 = ((n % 256 : Nat) : Int) := fun n => by rw [Int.tmod_eq_emod_of_nonneg (by omega)]; omega
    rw [ext2_0, ext2_1, okE, bin_neq, decide_eq_true rfl, Br_bool, if_neg (by decide), hps.len Ty.bytes, bin_quo (by decide), conv_int Ty.int Ty.u8, hps.len Ty.bytes, bin_quo (by decide), bin_rem (by decide), conv_int Ty.int Ty.u8, hps.len Ty.bytes, bin_rem (by decide), conv_int Ty.int Ty.u8]
    have q4 : ((Cod.put l).length : Int).tdiv 65536 = (((Cod.put l).length / 65536 : Nat) : Int) := rfl
    have q5 : ((Cod.put l).length : Int).tdiv 256 = (((Cod.put l).length / 256 : Nat) : Int) := rfl
    rw [q4, q5, i64_wrap (by omega) (by omega), i64_wrap (by omega) (by omega), q3, q3, u8_nat, u8_nat, u8_nat, byte_mod, byte_mod]
    refine lit_i (bv (Cod.hdr (Cod.put l).length)) Ty.bytes hi8 hs8 hz8 (by simp [hdr_bv, Value.cells]) rfl (by decide) (by decide) rfl fun g w2 x2 hat hg hsz => ?_
    have z1 := x1.size
    have hown : w2.ownsRow w.heap.size 5 1 (.slice (some ⟨g, 0, none⟩) 3 3) (Cod.hdr (Cod.put l).length).length (bv (Cod.hdr (Cod.put l).length)) := Own.of_lit hat (by omega) (by simp [hdr_bv, maxLen])
    refine app_bytes hown (Sl.of_owns (Own.ext hp x2)) (by simp [Cod.hdr]; omega) (by omega) fun v3 w3 h3 m3 => ?_
    have z2 := x2.size
    have z3 := m3.size
    have hl3 := (Sl.of_owns h3).le
    rw [str_conv (Sl.of_owns h3)]
    refine callF_same (refText_ret _ (show (Cod.hdr (Cod.put l).length ++ Cod.put l).toArray.size ≤ _ by simpa using hl3) w3) ?_
    have ed : Dig.text (ByteArray.mk (Cod.hdr (Cod.put l).length ++ Cod.put l).toArray).data.toList = Dig.text (Cod.hdr (Cod.put l).length ++ Cod.put l) := by simp
    rw [ed]
    refine callF_ret (bytes_ret _ w3) ?_
    rintro vs w4 ⟨x4, hs4⟩
    have z4 := x4.size
    have h4 := Own.ext h3 x4
    refine app_bytes (m := Dig.bytes8 (Dig.text (Cod.hdr (Cod.put l).length ++ Cod.put l))) h4 (Sl.of_owns hs4) (by simp [Cod.hdr, bytes8_length]; omega) (by omega) fun v7 w7 h7 m7 => ?_
    refine hR _ _ ⟨?_, ?_⟩
    · have hh : Mod (w.heap.size ≤ ·) w w7 := ((((Mod.of_ext x1 : Mod (w.heap.size ≤ ·) w w1).trans (.of_ext x2)).trans (m3.mono fun k _ h => (Own.block hown h).1)).trans (.of_ext x4)).trans (m7.mono fun k _ h => (Own.block h4 h).1)
      exact hh.new
    · rw [if_neg hl]
      exact ⟨v7, rfl, h7⟩
end Go.Proofs.Ytahplhcijlgelaa
