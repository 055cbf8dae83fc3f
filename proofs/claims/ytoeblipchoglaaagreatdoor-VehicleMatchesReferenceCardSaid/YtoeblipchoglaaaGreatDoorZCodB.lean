/- The walks of the comparisons, of both sums. -/
import Derived.Test.YtoeblipchoglaaaGreatDoorZCodA
import Derived.Test.YtoeblipchoglaaaGreatDoorZBaseB
import Derived.Test.YtoeblipchoglaaaGreatDoorZBaseC
namespace Go.Proofs.YtoeblipchoglaaaGreatDoor
set_option maxRecDepth 100000
open Sh Go.RowKit
theorem SameBytes_ret {x y : Value} {a b : List UInt8} (w : World) (hx : Sl w 1 x a.length (bv a)) (hy : Sl w 1 y b.length (bv b)) :
    Ret Tryz.prog 101 #[x, y] w fun r w' => r = .bool (decide (a = b)) ∧ w' = w := by
  refine ret_of (fun _ _ => sh_landfallref08_SameBytes_ok _ _) fun R hR => ?_
  unfold sh_landfallref08_SameBytes
  rw [str_conv hx, str_conv hy, bin_str_eql]
  refine hR _ _ ⟨?_, rfl⟩
  congr 1
  rw [ByteArray.toList_eq, ByteArray.toList_eq]
  rw [Bool.eq_iff_iff]; simp
theorem shr_val (d : BitVec 64) {i : Nat} (hi : i < 8) {x : Int} (hx : x = 56 - 8 * (i : Int)) : IntKind.u8.wrap ((d.toNat : Int).fdiv (2 ^ min x.toNat IntKind.u64.bits)) = ((UInt8.ofBitVec ((d >>> (56 - 8 * i)).setWidth 8)).toNat : Int) := by
  have e : min x.toNat IntKind.u64.bits = 56 - 8 * i := by
    show min x.toNat 64 = _
    omega
  rw [e, Int.fdiv_eq_ediv_of_nonneg _ (Int.le_of_lt (Int.pow_pos (by decide))), u8w]
  show _ = (((d >>> (56 - 8 * i)).setWidth 8).toNat : Int)
  rw [BitVec.toNat_setWidth, BitVec.toNat_ushiftRight, Nat.shiftRight_eq_div_pow]
  simp
theorem bytes8_get (d : BitVec 64) {i : Nat} (hi : i < 8) : (Dig.bytes8 d).take (i + 1) = (Dig.bytes8 d).take i ++ [UInt8.ofBitVec ((d >>> (56 - 8 * i)).setWidth 8)] := by
  have hl : (Dig.bytes8 d).length = 8 := by simp [Dig.bytes8]
  rw [List.take_succ_eq_append_getElem (by omega)]
  simp [Dig.bytes8]
theorem bytes_ret (d : BitVec 64) (w : World) : Ret Tryz.prog 82 #[u64v d] w fun r w' => Ext w w' ∧ w'.ownsRow w.heap.size 5 1 r (Dig.bytes8 d).length (bv (Dig.bytes8 d)) := by
  refine ret_of (fun _ _ => sh_landfallref08_bytes_ok _) fun R hR => ?_
  unfold sh_landfallref08_bytes
  have hl : (Dig.bytes8 d).length = 8 := by simp [Dig.bytes8]
  refine loop2 (fun x y w1 => ∃ k : Nat, k ≤ 8 ∧ y = .int .i64 k ∧ w1.ownsRow w.heap.size 5 1 x ((Dig.bytes8 d).take k).length (bv ((Dig.bytes8 d).take k)) ∧ Mod (w.heap.size ≤ ·) w w1) (fun _ y _ => 8 - (intOf y).toNat) ⟨0, by omega, rfl, Own.nil _ _ _ _, Mod.refl _ _⟩ ?_
  rintro h x _ w1 h3 h4 ⟨k, hk, rfl, hx, hm⟩ K hK
  have hz := hm.size
  rw [h4, h3, bin_lss]
  by_cases hlt : k < 8
  · rw [decide_eq_true (by omega), Br_bool, if_pos rfl, bin_mul, i64_wrap (by omega) (by omega), bin_sub, i64_wrap (by omega) (by omega), u64v, bin_shr (by omega), conv_int Ty.u64 Ty.u8, shr_val d hlt rfl]
    refine app_byte hx (by simp; omega) (by omega) fun v' w2 h1 hm2 => ?_
    rw [bin_add, i64_wrap (by omega) (by omega)]
    refine hK _ _ _ ⟨k + 1, by omega, by simp, ?_, hm.trans hm2⟩ (by simp [intOf]; omega)
    rw [bytes8_get d hlt]; exact h1
  · rw [decide_eq_false (by omega), Br_bool, if_neg (by decide)]
    rw [List.take_of_length_le (by omega)] at hx
    exact hR _ _ ⟨hm.new, hx⟩
end Go.Proofs.YtoeblipchoglaaaGreatDoor
namespace Go.Proofs.YtoeblipchoglaaaGreatDoor
set_option maxRecDepth 100000
open Sh Go.RowKit
end Go.Proofs.YtoeblipchoglaaaGreatDoor
namespace Go.Proofs.YtoeblipchoglaaaGreatDoor
set_option maxRecDepth 100000
open Sh Go.RowKit
theorem bytes8_length (d : BitVec 64) : (Dig.bytes8 d).length = 8 := by simp [Dig.bytes8]
theorem bytes8_at (d : BitVec 64) {i : Nat} (hi : i < 8) : (bv (Dig.bytes8 d))[i]? = some (.int .u8 (UInt8.ofBitVec ((d >>> (56 - 8 * i)).setWidth 8)).toNat) := by
  simp [bv, Dig.bytes8, hi]
def sumV (l : List UInt8) : Value := .agg (bv (Dig.bytes8 (Dig.text l))).toArray
theorem sum_ret {v : Value} {l : List UInt8} (w : World) (hv : Sl w 1 v l.length (bv l)) : Ret Tryz.prog 97 #[v] w fun r w' => r = sumV l ∧ Ext w w' := by
  refine ret_of (fun _ _ => sh_codec_sum_ok _) fun R hR => ?_
  unfold sh_codec_sum
  obtain ⟨i8, hi8, _, hs8, _⟩ := Ty.info_parts Ty.u8_info
  have hle := hv.le
  refine alloc_i Ty.arr8_zero fun b1 w1 x1 hb1 e1 s1 => ?_
  rw [str_conv (hv.ext x1)]
  refine callF_ret (Text_ret _ (show l.toArray.size ≤ _ by simpa using hle) w1) ?_
  rintro _ w2 ⟨rfl, x2⟩
  show DoV _ _ _ _ _
  have ed : Dig.text (ByteArray.mk l.toArray).data.toList = Dig.text l := by simp
  rw [ed]
  generalize hd : Dig.text l = d
  refine alloc_i Ty.arr8_zero fun b2 w3 x3 hb2 e3 s3 => ?_
  have z2 := x2.size
  have z3 := x3.size
  have z1 := x1.size
  have hb13 := (hb1.ext x2).ext x3
  refine loop1 (fun x w4 => ∃ (k : Nat) (cs : Array Value), k ≤ 8 ∧ x = .int .i64 k ∧ cs.size = 8 ∧ At w4 b2 (.cells cs 122 (0, 0)) ∧ Mod (· = b2) w3 w4 ∧ ∀ j, j < k → cs[j]? = (bv (Dig.bytes8 d))[j]?) (fun x _ => 8 - (intOf x).toNat)
    ⟨0, _, by omega, rfl, by simp [Value.cells], hb2, Mod.refl _ _, by omega⟩ ?_
  rintro h _ w4 h9 ⟨k, cs, hk, rfl, hcs, hb4, m4, hset⟩ K hK
  rw [h9, bin_lss]
  by_cases hlt : k < 8
  · rw [decide_eq_true (by omega), Br_bool, if_pos rfl, bin_sub, i64_wrap (by omega) (by omega), bin_mul, i64_wrap (by omega) (by omega), u64v, bin_shr (by omega), conv_int Ty.u64 Ty.u8, shr_val d hlt (by omega), index_arr Ty.arr8 hi8 hs8 hlt]
    refine store_i Ty.u8_size hb4 (by omega) rfl fun w5 m5 hb5 s5 => ?_
    rw [bin_add, i64_wrap (by omega) (by omega)]
    refine hK _ _ ⟨k + 1, _, by omega, by simp, by simp [hcs], hb5, m4.trans m5, fun j hj => ?_⟩ (by simp [intOf]; omega)
    rw [Array.getElem?_setIfInBounds]
    by_cases hjk : k = j
    · subst hjk
      rw [if_pos rfl, if_pos (by omega), bytes8_at d hlt]
    · rw [if_neg hjk]; exact hset j (by omega)
  · have hk8 : k = 8 := by omega
    subst hk8
    have hcse : cs = (bv (Dig.bytes8 d)).toArray := by
      apply Array.ext'
      apply List.ext_getElem?
      intro j
      by_cases hj : j < 8
      · simpa using hset j hj
      · rw [List.getElem?_eq_none (by simp; omega), List.getElem?_eq_none (by simp [bv_length, bytes8_length]; omega)]
    subst hcse
    rw [decide_eq_false (by omega), Br_bool, if_neg (by decide)]
    rw [load_arr (n := 8) (xs := bv (Dig.bytes8 d)) Ty.arr8_agg Ty.arr8_size (by simp [bv_length, bytes8_length]) (fun j u hu => by rw [hb4.cell, Nat.zero_add]; simpa using hu)]
    have hb14 := hb13.mod m4 (by omega)
    refine store_all Ty.arr8_size hb14 (by simp [Value.cells]) (by simp [Value.cells, bv_length, bytes8_length]) (by intro u hu; exact bv_one _ u (by simpa [Value.cells] using hu)) fun w5 m5 hb5 s5 => ?_
    refine (?_ : Res _ _ _ _)
    unfold Res
    refine ⟨[sumV l], ?_, hR _ _ ⟨rfl, ?_⟩⟩
    · have hl := loadVar_agg (t := 122) (b := b1) (w := w5) Ty.arr8_agg Ty.arr8_size (xs := bv (Dig.bytes8 d)) (by simp [bv_length, bytes8_length]) (fun j u hu => by rw [hb5.cell, Nat.zero_add]; simpa [Value.cells] using hu)
      simp [rvRun, asAddr, hl, sumV, hd]
    · have : Mod (w.heap.size ≤ ·) w w5 := ((((Mod.of_ext x1 : Mod (w.heap.size ≤ ·) w w1).trans (.of_ext x2)).trans (.of_ext x3)).trans (m4.mono fun k _ h => by omega)).trans (m5.mono fun k _ h => by omega)
      exact this.new
def FrameQ (l : List Int) (w : World) (r : Value) (w' : World) : Prop :=
  Ext w w' ∧ if 4000 < l.length then r = .tuple #[.slice none 0 0, limitE] else ∃ v, r = .tuple #[v, okE] ∧ w'.ownsRow w.heap.size 5 1 v (Cod.frame l).length (bv (Cod.frame l))
theorem hdr_bv (n : Nat) : bv (Cod.hdr n) = [.int .u8 (UInt8.ofNat (n / 65536)).toNat, .int .u8 (UInt8.ofNat (n / 256)).toNat, .int .u8 (UInt8.ofNat n).toNat] := rfl
theorem byte_mod (n : Nat) : (UInt8.ofNat (n % 256)).toNat = (UInt8.ofNat n).toNat := by simp [UInt8.toNat_ofNat']
theorem Frame_ret {l : List Int} (hi : ∀ n ∈ l, I64 n) {v : Value} (w : World) (hv : Sl w 1 v l.length (iv l)) : Ret Tryz.prog 75 #[v] w (FrameQ l w) := by
  refine ret_of (fun _ _ => sh_codec_Frame_ok _) fun R hR => ?_
  unfold sh_codec_Frame
  obtain ⟨i8, hi8, hz8, hs8, _⟩ := Ty.info_parts Ty.u8_info
  refine callF_ret (Put_ret hi w hv) ?_
  rintro r w1 ⟨x1, hr⟩
  by_cases hl : 4000 < l.length
  · rw [if_pos hl] at hr
    subst hr
    rw [ext2_0, ext2_1, limitE, bin_neq, decide_eq_false (by decide), Br_bool, if_pos (by decide)]
    exact hR _ _ ⟨x1, by rw [if_pos hl]; rfl⟩
  · rw [if_neg hl] at hr
    obtain ⟨p, rfl, hp⟩ := hr
    have hlen := Cod.put_length hi (by omega)
    rw [ext2_0, ext2_1, okE, bin_neq, decide_eq_true rfl, Br_bool, if_neg (by decide), (Sl.of_owns hp).len Ty.bytes, bin_shr (by decide), conv_int Ty.int Ty.u8, bin_shr (by decide), conv_int Ty.int Ty.u8, conv_int Ty.int Ty.u8]
    have q1 : (((Cod.put l).length : Int).fdiv (2 ^ min (16 : Int).toNat IntKind.i64.bits)) = (((Cod.put l).length / 65536 : Nat) : Int) := by
      rw [show (2 : Int) ^ min (16 : Int).toNat IntKind.i64.bits = 65536 from rfl, Int.fdiv_eq_ediv_of_nonneg _ (by omega)]; rfl
    have q2 : (((Cod.put l).length : Int).fdiv (2 ^ min (8 : Int).toNat IntKind.i64.bits)) = (((Cod.put l).length / 256 : Nat) : Int) := by
      rw [show (2 : Int) ^ min (8 : Int).toNat IntKind.i64.bits = 256 from rfl, Int.fdiv_eq_ediv_of_nonneg _ (by omega)]; rfl
    rw [q1, q2, u8_nat, u8_nat, u8_nat]
    refine lit_i (bv (Cod.hdr (Cod.put l).length)) Ty.bytes hi8 hs8 hz8 (by simp [hdr_bv, Value.cells]) rfl (by decide) (by decide) rfl fun g w2 x2 hat hg hsz => ?_
    have z1 := x1.size
    have hown : w2.ownsRow w.heap.size 5 1 (.slice (some ⟨g, 0, none⟩) 3 3) (Cod.hdr (Cod.put l).length).length (bv (Cod.hdr (Cod.put l).length)) := Own.of_lit hat (by omega) (by simp [hdr_bv, maxLen])
    refine app_bytes hown (Sl.of_owns (Own.ext hp x2)) (by simp [Cod.hdr]; omega) (by omega) fun v3 w3 h3 m3 => ?_
    have z2 := x2.size
    have z3 := m3.size
    refine callF_ret (sum_ret w3 (Sl.of_owns h3)) ?_
    rintro _ w4 ⟨rfl, x4⟩
    have z4 := x4.size
    refine alloc_i Ty.arr8_zero fun b w5 x5 hb _ _ => ?_
    have z5 := x5.size
    refine store_all Ty.arr8_size hb (by simp [Value.cells]) (v := sumV (Cod.hdr (Cod.put l).length ++ Cod.put l)) (by simp [sumV, Value.cells, bv_length, bytes8_length]) (by intro u hu; exact bv_one _ u (by simpa [sumV, Value.cells] using hu)) fun w6 m6 hb6 _ => ?_
    refine slice_arr Ty.arr8 hi8 (xs := bv (Dig.bytes8 (Dig.text (Cod.hdr (Cod.put l).length ++ Cod.put l)))) (by simp [bv_length, bytes8_length]) hb6 (by decide) fun hsl => ?_
    have h6 : w6.ownsRow w.heap.size 5 1 v3 (Cod.hdr (Cod.put l).length ++ Cod.put l).length (bv (Cod.hdr (Cod.put l).length ++ Cod.put l)) := Own.mod (Own.ext (Own.ext h3 x4) x5) m6 (Own.off_at (Own.ext (Own.ext h3 x4) x5) hb (by decide))
    refine app_bytes (m := Dig.bytes8 (Dig.text (Cod.hdr (Cod.put l).length ++ Cod.put l))) h6 (by rw [bytes8_length]; exact hsl) (by simp [Cod.hdr, bytes8_length]; omega) (by have := m6.size; omega) fun v7 w7 h7 m7 => ?_
    refine hR _ _ ⟨?_, ?_⟩
    · have hh : Mod (w.heap.size ≤ ·) w w7 := ((((((Mod.of_ext x1 : Mod (w.heap.size ≤ ·) w w1).trans (.of_ext x2)).trans (m3.mono fun k _ h => (Own.block hown h).1)).trans (.of_ext x4)).trans (.of_ext x5)).trans (m6.mono fun k _ h => by omega)).trans (m7.mono fun k _ h => (Own.block h6 h).1)
      exact hh.new
    · rw [if_neg hl]
      exact ⟨v7, rfl, h7⟩
theorem refFrame_ret {l : List Int} (hi : ∀ n ∈ l, I64 n) {v : Value} (w : World) (hv : Sl w 1 v l.length (iv l)) : Ret Tryz.prog 57 #[v] w (FrameQ l w) := by
  refine ret_of (fun _ _ => sh_landfallref08_Frame_ok _) fun R hR => ?_
  unfold sh_landfallref08_Frame
  obtain ⟨i8, hi8, hz8, hs8, _⟩ := Ty.info_parts Ty.u8_info
  refine callF_ret (refPut_ret hi w hv) ?_
  rintro r w1 ⟨x1, hr⟩
  by_cases hl : 4000 < l.length
  · rw [if_pos hl] at hr
    subst hr
    rw [ext2_0, ext2_1, limitE, bin_neq, decide_eq_false (by decide), Br_bool, if_pos (by decide)]
    exact hR _ _ ⟨x1, by rw [if_pos hl]; rfl⟩
  · rw [if_neg hl] at hr
    obtain ⟨p, rfl, hp⟩ := hr
    have hlen := Cod.put_length hi (by omega)
    have hps := Sl.of_owns hp
    have q3 : ∀ n : Nat, (n : Int).tmod 256 = ((n % 256 : Nat) : Int) := fun n => by rw [Int.tmod_eq_emod_of_nonneg (by omega)]; omega
    rw [ext2_0, ext2_1, okE, bin_neq, decide_eq_true rfl, Br_bool, if_neg (by decide), hps.len Ty.bytes, bin_quo (by decide), conv_int Ty.int Ty.u8, hps.len Ty.bytes, bin_quo (by decide), bin_rem (by decide), conv_int Ty.int Ty.u8, hps.len Ty.bytes, bin_rem (by decide), conv_int Ty.int Ty.u8]
    have q4 : ((Cod.put l).length : Int).tdiv 65536 = (((Cod.put l).length / 65536 : Nat) : Int) := rfl
    have q5 : ((Cod.put l).length : Int).tdiv 256 = (((Cod.put l).length / 256 : Nat) : Int) := rfl
    rw [q4, q5, i64_wrap (by omega) (by omega), i64_wrap (by omega) (by omega), q3, q3, u8_nat, u8_nat, u8_nat, byte_mod, byte_mod]
    refine lit_i (bv (Cod.hdr (Cod.put l).length)) Ty.bytes hi8 hs8 hz8 (by simp [hdr_bv, Value.cells]) rfl (by decide) (by decide) rfl fun g w2 x2 hat hg hsz => ?_
    have z1 := x1.size
    have hown : w2.ownsRow w.heap.size 5 1 (.slice (some ⟨g, 0, none⟩) 3 3) (Cod.hdr (Cod.put l).length).length (bv (Cod.hdr (Cod.put l).length)) := Own.of_lit hat (by omega) (by simp [hdr_bv, maxLen])
    refine app_bytes hown (Sl.of_owns (Own.ext hp x2)) (by simp [Cod.hdr]; omega) (by omega) fun v3 w3 h3 m3 => ?_
    have z2 := x2.size
    have z3 := m3.size
    have hl3 := (Sl.of_owns h3).le
    rw [str_conv (Sl.of_owns h3)]
    refine callF_same (refText_ret _ (show (Cod.hdr (Cod.put l).length ++ Cod.put l).toArray.size ≤ _ by simpa using hl3) w3) ?_
    have ed : Dig.text (ByteArray.mk (Cod.hdr (Cod.put l).length ++ Cod.put l).toArray).data.toList = Dig.text (Cod.hdr (Cod.put l).length ++ Cod.put l) := by simp
    rw [ed]
    refine callF_ret (bytes_ret _ w3) ?_
    rintro vs w4 ⟨x4, hs4⟩
    have z4 := x4.size
    have h4 := Own.ext h3 x4
    refine app_bytes (m := Dig.bytes8 (Dig.text (Cod.hdr (Cod.put l).length ++ Cod.put l))) h4 (Sl.of_owns hs4) (by simp [Cod.hdr, bytes8_length]; omega) (by omega) fun v7 w7 h7 m7 => ?_
    refine hR _ _ ⟨?_, ?_⟩
    · have hh : Mod (w.heap.size ≤ ·) w w7 := ((((Mod.of_ext x1 : Mod (w.heap.size ≤ ·) w w1).trans (.of_ext x2)).trans (m3.mono fun k _ h => (Own.block hown h).1)).trans (.of_ext x4)).trans (m7.mono fun k _ h => (Own.block h4 h).1)
      exact hh.new
    · rw [if_neg hl]
      exact ⟨v7, rfl, h7⟩
end Go.Proofs.YtoeblipchoglaaaGreatDoor
namespace Go.Proofs.YtoeblipchoglaaaGreatDoor
set_option maxRecDepth 100000
open Sh Go.RowKit
def WholeQ (b : List UInt8) (w : World) (r : Value) (w' : World) : Prop :=
  Ext w w' ∧ match Cod.whole b with
    | none => r = .tuple #[.slice none 0 0, .int .i64 0]
    | some (ns, k) => ∃ v, r = .tuple #[v, .int .i64 k] ∧ w'.ownsRow w.heap.size 3 1 v ns.length (iv ns)
theorem arr_neq {w : World} {K : Value → World → Prop} {X : List PanicEntry → World → Prop} {ox oy : Operand} {a b : List UInt8} (ha : a.length = 8) (hb : b.length = 8) :
    DoV Tryz.prog (binS .neq 122 ox oy (.agg (bv a).toArray) (.agg (bv b).toArray)) w K X = K (.bool (!decide (a = b))) w := by
  obtain ⟨i8, hi8, hz8, hs8, _⟩ := Ty.info_parts Ty.u8_info
  refine DoV_ok ?_
  have e := equal_arr (P := Tryz.prog) (w := w) 9998 Ty.arr8 Ty.u8 hi8 hs8 Ty.u8_agg (a.map fun x => (x.toNat : Int)) (b.map fun x => (x.toNat : Int)) (by simpa using ha) (by simpa using hb)
  have e1 : ∀ c : List UInt8, (c.map fun x => (x.toNat : Int)).map (Value.int .u8) = bv c := fun c => by simp [bv]
  rw [e1, e1] at e
  have e2 : (a.map fun x => (x.toNat : Int)) = (b.map fun x => (x.toNat : Int)) ↔ a = b := by
    constructor
    · intro h
      exact (List.map_inj_right (fun x y hxy => UInt8.toNat_inj.1 (by have h2 : (x.toNat : Int) = y.toNat := hxy; omega))).1 h
    · rintro rfl; rfl
  simp only [e2] at e
  simp only [binS, Sem.run_bind, Ty.arr8_eq, Result.andThen_ok, run_neq_struct, e]
theorem whole_ret {v : Value} {b : List UInt8} (w : World) (hv : Sl w 1 v b.length (bv b)) : Ret Tryz.prog 118 #[v] w (WholeQ b w) := by
  refine ret_of (fun _ _ => sh_codec_whole_ok _) fun R hR => ?_
  unfold sh_codec_whole
  obtain ⟨i8, hi8, hz8, hs8, _⟩ := Ty.info_parts Ty.u8_info
  have hle := hv.le
  have hbad : ∀ w', Ext w w' → Cod.whole b = none → R (.returned (.tuple #[.slice none 0 0, .int .i64 0])) w' := fun w' he hn => hR _ _ ⟨he, by rw [hn]⟩
  rw [hv.len Ty.bytes, bin_lss]
  by_cases h11 : b.length < 11
  · rw [decide_eq_true (by omega), Br_bool, if_pos rfl]
    exact hbad _ (Ext.refl _) (by unfold Cod.whole; rw [if_pos (.inl h11)])
  rw [decide_eq_false (by omega), Br_bool, if_neg (by decide)]
  have hget : ∀ j (h : j < b.length), b.getD j 0 = b[j] := fun j h => by simp [h]
  have hbyte : ∀ c : UInt8, c.toNat < 256 := fun c => c.toBitVec.isLt
  have hlong : Cod.long b = b[0].toNat * 65536 + b[1].toNat * 256 + b[2].toNat := by unfold Cod.long; rw [hget 0 (by omega), hget 1 (by omega), hget 2 (by omega)]
  have h0 := hbyte b[0]
  have h1 := hbyte b[1]
  have h2 := hbyte b[2]
  refine draw_ext fun w2 he2 => ?_
  have hv2 := hv.ext he2
  have el : ∀ (j : Nat) (hj : j < b.length) {w3 : World} {g o : Nat} {K : Value → World → Prop} {X : List PanicEntry → World → Prop}, (∀ m u, (bv b)[m]? = some u → w2.cell? ⟨g, o + m, none⟩ = some u) → g < w2.heap.size → Ext w2 w3 → K (.int .u8 b[j].toNat) w3 → DoV Tryz.prog (Instr.loadAt 5 (.pointer (some ⟨g, o + j * 1, none⟩))) w3 K X := fun j hj w3 g o K X hc hg h3 hK => by
    rw [load_cell Ty.u8_agg (u := .int .u8 b[j].toNat) (by rw [Nat.mul_one]; exact cell_ext (hc j _ (bv_get hj)) hg h3)]; exact hK
  obtain ⟨g0, o0, hc0, hg0, hix0⟩ := hv2.index Ty.bytes hi8 hs8 (k := .i64) (show 0 < b.length by omega) (by decide)
  obtain ⟨g1, o1, hc1, hg1, hix1⟩ := hv2.index Ty.bytes hi8 hs8 (k := .i64) (show 1 < b.length by omega) (by decide)
  obtain ⟨g2, o2, hc2, hg2, hix2⟩ := hv2.index Ty.bytes hi8 hs8 (k := .i64) (show 2 < b.length by omega) (by decide)
  refine det_pure _ Ext.refl (fun w3 h3 K hK => by show DoV _ _ _ _ _; rw [show (0 : Int) = ((0 : Nat) : Int) from rfl, hix0]; exact hK) ?_
  refine det_pure _ Ext.refl (fun w3 h3 K hK => el 0 (by omega) hc0 hg0 h3 hK) ?_
  refine det_pure (.int .i64 b[0].toNat) Ext.refl (fun w3 h3 K hK => by show DoV _ _ _ _ _; rw [conv_int Ty.u8 Ty.int, i64_wrap (by omega) (by omega)]; exact hK) ?_
  refine det_pure (.int .i64 ((b[0].toNat * 65536 : Nat) : Int)) Ext.refl (fun w3 h3 K hK => by
    show DoV _ _ _ _ _; rw [bin_shl (by decide), show (2 : Int) ^ min (16 : Int).toNat IntKind.i64.bits = 65536 from rfl, i64_wrap (by omega) (by omega)]; exact hK) ?_
  refine det_pure _ Ext.refl (fun w3 h3 K hK => by show DoV _ _ _ _ _; rw [show (1 : Int) = ((1 : Nat) : Int) from rfl, hix1]; exact hK) ?_
  refine det_pure _ Ext.refl (fun w3 h3 K hK => el 1 (by omega) hc1 hg1 h3 hK) ?_
  refine det_pure (.int .i64 b[1].toNat) Ext.refl (fun w3 h3 K hK => by show DoV _ _ _ _ _; rw [conv_int Ty.u8 Ty.int, i64_wrap (by omega) (by omega)]; exact hK) ?_
  refine det_pure (.int .i64 ((b[1].toNat * 256 : Nat) : Int)) Ext.refl (fun w3 h3 K hK => by
    show DoV _ _ _ _ _; rw [bin_shl (by decide), show (2 : Int) ^ min (8 : Int).toNat IntKind.i64.bits = 256 from rfl, i64_wrap (by omega) (by omega)]; exact hK) ?_
  refine det_pure (.int .i64 ((b[0].toNat * 65536 + b[1].toNat * 256 : Nat) : Int)) Ext.refl (fun w3 h3 K hK => by show DoV _ _ _ _ _; rw [bin_add, i64_wrap (by omega) (by omega)]; simpa using hK) ?_
  refine det_pure _ Ext.refl (fun w3 h3 K hK => by show DoV _ _ _ _ _; rw [show (2 : Int) = ((2 : Nat) : Int) from rfl, hix2]; exact hK) ?_
  refine det_pure _ Ext.refl (fun w3 h3 K hK => el 2 (by omega) hc2 hg2 h3 hK) ?_
  refine det_pure (.int .i64 b[2].toNat) Ext.refl (fun w3 h3 K hK => by show DoV _ _ _ _ _; rw [conv_int Ty.u8 Ty.int, i64_wrap (by omega) (by omega)]; exact hK) ?_
  intro w3 h3 _
  have hL : ((b[0].toNat * 65536 + b[1].toNat * 256 : Nat) : Int) + b[2].toNat = (Cod.long b : Int) := by rw [hlong]; omega
  have hlt := Cod.long_lt b
  have x3 := he2.trans h3
  have hc3 : (3 : Int) + (Cod.long b : Int) = ((3 + Cod.long b : Nat) : Int) := by omega
  have hc8 : ((3 + Cod.long b : Nat) : Int) + 8 = ((Cod.long b + 11 : Nat) : Int) := by omega
  rw [bin_add, hL, i64_wrap (by omega) (by omega), bin_add, hc3, i64_wrap (by omega) (by omega), (hv.ext x3).len Ty.bytes, bin_add, hc8, i64_wrap (by omega) (by omega), bin_lss]
  by_cases hs : b.length < Cod.long b + 11
  · rw [decide_eq_true (by omega), Br_bool, if_pos rfl]
    exact hbad _ x3 (by unfold Cod.whole; rw [if_pos (.inr hs)])
  rw [decide_eq_false (by omega), Br_bool, if_neg (by decide)]
  have hw0 : Cod.whole b = if (b.drop (3 + Cod.long b)).take 8 ≠ Dig.bytes8 (Dig.text (b.take (3 + Cod.long b))) then none else (Cod.get ((b.take (3 + Cod.long b)).drop 3)).map fun l => (l, Cod.long b + 11) := by
    unfold Cod.whole; rw [if_neg (by omega)]
  refine slice_upto3 Ty.bytes hi8 hs8 (by decide) (hv.ext x3) (h := 3 + Cod.long b) (by omega) fun vb hvb _ => ?_
  have hvb3 : Sl w3 1 vb (b.take (3 + Cod.long b)).length (bv (b.take (3 + Cod.long b))) := by
    have e : (bv b).take ((3 + Cod.long b) * 1) = bv (b.take (3 + Cod.long b)) := by simp [bv, List.map_take]
    rw [e] at hvb
    rw [List.length_take, Nat.min_eq_left (by omega)]; exact hvb
  refine draw_ext fun w4 x4 => ?_
  have x04 := x3.trans x4
  refine ⟨sumV (b.take (3 + Cod.long b)), fun _ => True, fun _ _ _ _ => trivial, fun w5 h5 => callF_ret (sum_ret w5 ((hvb3.ext x4).ext h5)) fun r w6 hq => ⟨hq.1, hq.2, trivial⟩, ?_⟩
  refine det_pure (.int .i64 ((Cod.long b + 11 : Nat) : Int)) Ext.refl (fun w5 h5 K hK => by show DoV _ _ _ _ _; rw [bin_add, hc8, i64_wrap (by omega) (by omega)]; exact hK) ?_
  obtain ⟨vt, hvt, hsl⟩ := range_val (k := .i64) (k' := .i64) Ty.bytes hi8 hs8 (by decide) (hv.ext x04) (l := 3 + Cod.long b) (h := Cod.long b + 11) (by omega) (by omega)
  refine det_pure vt Ext.refl (fun w5 h5 K hK => by show DoV _ _ _ _ _; rw [hsl]; exact hK) ?_
  have hvt8 : Sl w4 1 vt 8 (bv ((b.drop (3 + Cod.long b)).take 8)) := by
    have e : ((bv b).take ((Cod.long b + 11) * 1)).drop ((3 + Cod.long b) * 1) = bv ((b.drop (3 + Cod.long b)).take 8) := by
      rw [Nat.mul_one, Nat.mul_one, List.drop_take, show Cod.long b + 11 - (3 + Cod.long b) = 8 by omega]
      simp [bv, List.map_take, List.map_drop]
    rw [e, show Cod.long b + 11 - (3 + Cod.long b) = 8 by omega] at hvt
    exact hvt
  obtain ⟨ga, oa, hca, hga, hav⟩ := arr_val Ty.arr8 (by decide) hvt8
  refine det_pure _ Ext.refl (fun w5 h5 K hK => by show DoV _ _ _ _ _; rw [hav]; exact hK) ?_
  have hl8 : ((b.drop (3 + Cod.long b)).take 8).length = 8 := by rw [List.length_take, List.length_drop]; omega
  refine det_pure (.agg (bv ((b.drop (3 + Cod.long b)).take 8)).toArray) Ext.refl (fun w5 h5 K hK => by
    show DoV _ _ _ _ _
    rw [load_arr (n := 8) (xs := bv ((b.drop (3 + Cod.long b)).take 8)) Ty.arr8_agg Ty.arr8_size (by rw [bv_length]; exact hl8) (fun j u hu => cell_ext (hca j u hu) hga h5)]
    exact hK) ?_
  intro w5 h5 _
  have x05 := x04.trans h5
  rw [sumV, arr_neq (bytes8_length _) hl8]
  by_cases hd : Dig.bytes8 (Dig.text (b.take (3 + Cod.long b))) = (b.drop (3 + Cod.long b)).take 8
  · rw [decide_eq_true hd, Br_bool, if_neg (by decide)]
    rw [if_neg (by simpa using hd.symm)] at hw0
    refine slice_from Ty.bytes hi8 hs8 (by decide) ((hvb3.ext x4).ext h5) (l := 3) (by rw [List.length_take]; omega) fun vg hvg _ => ?_
    have hvg5 : Sl w5 1 vg ((b.take (3 + Cod.long b)).drop 3).length (bv ((b.take (3 + Cod.long b)).drop 3)) := by
      have e : (bv (b.take (3 + Cod.long b))).drop (3 * 1) = bv ((b.take (3 + Cod.long b)).drop 3) := by simp [bv, List.map_drop]
      rw [e] at hvg
      rw [List.length_drop]; exact hvg
    refine callF_ret (Get_ret w5 hvg5) ?_
    rintro r w6 ⟨x6, hg⟩
    have z5 := x05.size
    cases hgt : Cod.get ((b.take (3 + Cod.long b)).drop 3) with
    | none =>
      rw [hgt] at hg hw0
      simp only at hg
      subst hg
      rw [ext2_0, ext2_1, formE, bin_neq, decide_eq_false (by decide), Br_bool, if_pos (by decide)]
      exact hbad _ (x05.trans x6) hw0
    | some ns =>
      rw [hgt] at hg hw0
      obtain ⟨vn, rfl, hn⟩ := hg
      rw [ext2_0, ext2_1, okE, bin_neq, decide_eq_true rfl, Br_bool, if_neg (by decide), bin_add, hc8, i64_wrap (by omega) (by omega)]
      refine hR _ _ ⟨x05.trans x6, ?_⟩
      rw [hw0]
      exact ⟨vn, rfl, Own.mono hn z5⟩
  · rw [decide_eq_false hd, Br_bool, if_pos (by decide)]
    rw [if_pos (fun e => hd e.symm)] at hw0
    exact hbad _ x05 hw0
end Go.Proofs.YtoeblipchoglaaaGreatDoor
namespace Go.Proofs.YtoeblipchoglaaaGreatDoor
set_option maxRecDepth 100000
open Sh Go.RowKit
theorem refWhole_ret {v : Value} {b : List UInt8} (w : World) (hv : Sl w 1 v b.length (bv b)) : Ret Tryz.prog 79 #[v] w (WholeQ b w) := by
  refine ret_of (fun _ _ => sh_landfallref08_whole_ok _) fun R hR => ?_
  unfold sh_landfallref08_whole
  obtain ⟨i8, hi8, hz8, hs8, _⟩ := Ty.info_parts Ty.u8_info
  have hle := hv.le
  have hbad : ∀ w', Ext w w' → Cod.whole b = none → R (.returned (.tuple #[.slice none 0 0, .int .i64 0])) w' := fun w' he hn => hR _ _ ⟨he, by rw [hn]⟩
  rw [hv.len Ty.bytes, bin_lss]
  by_cases h11 : b.length < 11
  · rw [decide_eq_true (by omega), Br_bool, if_pos rfl]
    exact hbad _ (Ext.refl _) (by unfold Cod.whole; rw [if_pos (.inl h11)])
  rw [decide_eq_false (by omega), Br_bool, if_neg (by decide)]
  have hget : ∀ j (h : j < b.length), b.getD j 0 = b[j] := fun j h => by simp [h]
  have hbyte : ∀ c : UInt8, c.toNat < 256 := fun c => c.toBitVec.isLt
  have hlong : Cod.long b = b[0].toNat * 65536 + b[1].toNat * 256 + b[2].toNat := by unfold Cod.long; rw [hget 0 (by omega), hget 1 (by omega), hget 2 (by omega)]
  have h0 := hbyte b[0]
  have h1 := hbyte b[1]
  have h2 := hbyte b[2]
  refine draw_ext fun w2 he2 => ?_
  have hv2 := hv.ext he2
  have el : ∀ (j : Nat) (hj : j < b.length) {w3 : World} {g o : Nat} {K : Value → World → Prop} {X : List PanicEntry → World → Prop}, (∀ m u, (bv b)[m]? = some u → w2.cell? ⟨g, o + m, none⟩ = some u) → g < w2.heap.size → Ext w2 w3 → K (.int .u8 b[j].toNat) w3 → DoV Tryz.prog (Instr.loadAt 5 (.pointer (some ⟨g, o + j * 1, none⟩))) w3 K X := fun j hj w3 g o K X hc hg h3 hK => by
    rw [load_cell Ty.u8_agg (u := .int .u8 b[j].toNat) (by rw [Nat.mul_one]; exact cell_ext (hc j _ (bv_get hj)) hg h3)]; exact hK
  obtain ⟨g0, o0, hc0, hg0, hix0⟩ := hv2.index Ty.bytes hi8 hs8 (k := .i64) (show 0 < b.length by omega) (by decide)
  obtain ⟨g1, o1, hc1, hg1, hix1⟩ := hv2.index Ty.bytes hi8 hs8 (k := .i64) (show 1 < b.length by omega) (by decide)
  obtain ⟨g2, o2, hc2, hg2, hix2⟩ := hv2.index Ty.bytes hi8 hs8 (k := .i64) (show 2 < b.length by omega) (by decide)
  refine det_pure _ Ext.refl (fun w3 h3 K hK => by show DoV _ _ _ _ _; rw [show (0 : Int) = ((0 : Nat) : Int) from rfl, hix0]; exact hK) ?_
  refine det_pure _ Ext.refl (fun w3 h3 K hK => el 0 (by omega) hc0 hg0 h3 hK) ?_
  refine det_pure (.int .i64 b[0].toNat) Ext.refl (fun w3 h3 K hK => by show DoV _ _ _ _ _; rw [conv_int Ty.u8 Ty.int, i64_wrap (by omega) (by omega)]; exact hK) ?_
  refine det_pure (.int .i64 ((b[0].toNat * 65536 : Nat) : Int)) Ext.refl (fun w3 h3 K hK => by
    show DoV _ _ _ _ _; rw [bin_mul, i64_wrap (by omega) (by omega)]; simpa using hK) ?_
  refine det_pure _ Ext.refl (fun w3 h3 K hK => by show DoV _ _ _ _ _; rw [show (1 : Int) = ((1 : Nat) : Int) from rfl, hix1]; exact hK) ?_
  refine det_pure _ Ext.refl (fun w3 h3 K hK => el 1 (by omega) hc1 hg1 h3 hK) ?_
  refine det_pure (.int .i64 b[1].toNat) Ext.refl (fun w3 h3 K hK => by show DoV _ _ _ _ _; rw [conv_int Ty.u8 Ty.int, i64_wrap (by omega) (by omega)]; exact hK) ?_
  refine det_pure (.int .i64 ((b[1].toNat * 256 : Nat) : Int)) Ext.refl (fun w3 h3 K hK => by
    show DoV _ _ _ _ _; rw [bin_mul, i64_wrap (by omega) (by omega)]; simpa using hK) ?_
  refine det_pure (.int .i64 ((b[0].toNat * 65536 + b[1].toNat * 256 : Nat) : Int)) Ext.refl (fun w3 h3 K hK => by show DoV _ _ _ _ _; rw [bin_add, i64_wrap (by omega) (by omega)]; simpa using hK) ?_
  refine det_pure _ Ext.refl (fun w3 h3 K hK => by show DoV _ _ _ _ _; rw [show (2 : Int) = ((2 : Nat) : Int) from rfl, hix2]; exact hK) ?_
  refine det_pure _ Ext.refl (fun w3 h3 K hK => el 2 (by omega) hc2 hg2 h3 hK) ?_
  refine det_pure (.int .i64 b[2].toNat) Ext.refl (fun w3 h3 K hK => by show DoV _ _ _ _ _; rw [conv_int Ty.u8 Ty.int, i64_wrap (by omega) (by omega)]; exact hK) ?_
  intro w3 h3 _
  have hL : ((b[0].toNat * 65536 + b[1].toNat * 256 : Nat) : Int) + b[2].toNat = (Cod.long b : Int) := by rw [hlong]; omega
  have hlt := Cod.long_lt b
  have x3 := he2.trans h3
  have hc3 : (3 : Int) + (Cod.long b : Int) = ((3 + Cod.long b : Nat) : Int) := by omega
  have hc11 : ((Cod.long b : Nat) : Int) + 11 = ((Cod.long b + 11 : Nat) : Int) := by omega
  have hc11' : (11 : Int) + (Cod.long b : Int) = ((Cod.long b + 11 : Nat) : Int) := by omega
  rw [bin_add, hL, i64_wrap (by omega) (by omega), (hv.ext x3).len Ty.bytes, bin_add, hc11, i64_wrap (by omega) (by omega), bin_lss]
  by_cases hs : b.length < Cod.long b + 11
  · rw [decide_eq_true (by omega), Br_bool, if_pos rfl]
    exact hbad _ x3 (by unfold Cod.whole; rw [if_pos (.inr hs)])
  rw [decide_eq_false (by omega), Br_bool, if_neg (by decide)]
  have hw0 : Cod.whole b = if (b.drop (3 + Cod.long b)).take 8 ≠ Dig.bytes8 (Dig.text (b.take (3 + Cod.long b))) then none else (Cod.get ((b.take (3 + Cod.long b)).drop 3)).map fun l => (l, Cod.long b + 11) := by
    unfold Cod.whole; rw [if_neg (by omega)]
  refine draw_ext fun w4 x4 => ?_
  have x04 := x3.trans x4
  have hl8 : ((b.drop (3 + Cod.long b)).take 8).length = 8 := by rw [List.length_take, List.length_drop]; omega
  refine det_pure (.int .i64 ((3 + Cod.long b : Nat) : Int)) Ext.refl (fun w5 h5 K hK => by show DoV _ _ _ _ _; rw [bin_add, hc3, i64_wrap (by omega) (by omega)]; exact hK) ?_
  refine det_pure (.int .i64 ((Cod.long b + 11 : Nat) : Int)) Ext.refl (fun w5 h5 K hK => by show DoV _ _ _ _ _; rw [bin_add, hc11', i64_wrap (by omega) (by omega)]; exact hK) ?_
  obtain ⟨vt, hvt, hsl⟩ := range_val (k := .i64) (k' := .i64) Ty.bytes hi8 hs8 (by decide) (hv.ext x04) (l := 3 + Cod.long b) (h := Cod.long b + 11) (by omega) (by omega)
  refine det_pure vt Ext.refl (fun w5 h5 K hK => by show DoV _ _ _ _ _; rw [hsl]; exact hK) ?_
  have hvt8 : Sl w4 1 vt ((b.drop (3 + Cod.long b)).take 8).length (bv ((b.drop (3 + Cod.long b)).take 8)) := by
    have e : ((bv b).take ((Cod.long b + 11) * 1)).drop ((3 + Cod.long b) * 1) = bv ((b.drop (3 + Cod.long b)).take 8) := by
      rw [Nat.mul_one, Nat.mul_one, List.drop_take, show Cod.long b + 11 - (3 + Cod.long b) = 8 by omega]
      simp [bv, List.map_take, List.map_drop]
    rw [e, show Cod.long b + 11 - (3 + Cod.long b) = 8 by omega] at hvt
    rw [hl8]; exact hvt
  refine det_pure (.int .i64 ((3 + Cod.long b : Nat) : Int)) Ext.refl (fun w5 h5 K hK => by show DoV _ _ _ _ _; rw [bin_add, hc3, i64_wrap (by omega) (by omega)]; exact hK) ?_
  obtain ⟨vb, hvb, hub⟩ := upto_val (k := .i64) Ty.bytes hi8 hs8 (by decide) (hv.ext x04) (h := 3 + Cod.long b) (by omega)
  refine det_pure vb Ext.refl (fun w5 h5 K hK => by show DoV _ _ _ _ _; rw [hub]; exact hK) ?_
  have hvb4 : Sl w4 1 vb (b.take (3 + Cod.long b)).length (bv (b.take (3 + Cod.long b))) := by
    have e : (bv b).take ((3 + Cod.long b) * 1) = bv (b.take (3 + Cod.long b)) := by simp [bv, List.map_take]
    rw [e] at hvb
    rw [List.length_take, Nat.min_eq_left (by omega)]; exact hvb
  refine det_pure (.string ⟨(b.take (3 + Cod.long b)).toArray⟩) Ext.refl (fun w5 h5 K hK => by show DoV _ _ _ _ _; rw [str_conv (hvb4.ext h5)]; exact hK) ?_
  have hlb := hvb4.le
  refine det_pure (u64v (Dig.text (b.take (3 + Cod.long b)))) Ext.refl (fun w5 h5 K hK => by
    show CallF _ _ _ _ _ _
    refine callF_same (refText_ret _ (show (b.take (3 + Cod.long b)).toArray.size ≤ _ by simpa using hlb) w5) ?_
    have ed : Dig.text (ByteArray.mk (b.take (3 + Cod.long b)).toArray).data.toList = Dig.text (b.take (3 + Cod.long b)) := by simp
    rw [ed]; exact hK) ?_
  refine ⟨fun u w5 => Sl w5 1 u (Dig.bytes8 (Dig.text (b.take (3 + Cod.long b)))).length (bv (Dig.bytes8 (Dig.text (b.take (3 + Cod.long b))))), fun u a c h1 h2 => h1.ext h2, fun w5 h5 => callF_ret (bytes_ret _ w5) fun r w6 hq => ⟨hq.1, Sl.of_owns hq.2⟩, ?_⟩
  rintro u w5 h5 ⟨_, hu⟩
  have x05 := x04.trans h5
  refine callF_same (SameBytes_ret w5 (hvt8.ext h5) hu) ?_
  rw [un_not]
  by_cases hd : (b.drop (3 + Cod.long b)).take 8 = Dig.bytes8 (Dig.text (b.take (3 + Cod.long b)))
  · rw [decide_eq_true hd, Br_bool, if_neg (by decide)]
    rw [if_neg (by simpa using hd)] at hw0
    rw [bin_add, hc3, i64_wrap (by omega) (by omega)]
    have hc0 : (3 : Int) = ((3 : Nat) : Int) := rfl
    rw [hc0]
    refine slice_range Ty.bytes hi8 hs8 (by decide) (hv.ext x05) (l := 3) (h := 3 + Cod.long b) (by omega) (by omega) fun vg hvg _ => ?_
    have hvg5 : Sl w5 1 vg ((b.take (3 + Cod.long b)).drop 3).length (bv ((b.take (3 + Cod.long b)).drop 3)) := by
      have e : ((bv b).take ((3 + Cod.long b) * 1)).drop (3 * 1) = bv ((b.take (3 + Cod.long b)).drop 3) := by simp [bv, List.map_drop, List.map_take]
      rw [e] at hvg
      rw [List.length_drop, List.length_take, Nat.min_eq_left (by omega)]; exact hvg
    refine callF_ret (refGet_ret w5 hvg5) ?_
    rintro r w6 ⟨x6, hg⟩
    have z5 := x05.size
    cases hgt : Cod.get ((b.take (3 + Cod.long b)).drop 3) with
    | none =>
      rw [hgt] at hg hw0
      simp only at hg
      subst hg
      rw [ext2_0, ext2_1, formE, bin_neq, decide_eq_false (by decide), Br_bool, if_pos (by decide)]
      exact hbad _ (x05.trans x6) hw0
    | some ns =>
      rw [hgt] at hg hw0
      obtain ⟨vn, rfl, hn⟩ := hg
      rw [ext2_0, ext2_1, okE, bin_neq, decide_eq_true rfl, Br_bool, if_neg (by decide), bin_add, hc11, i64_wrap (by omega) (by omega)]
      refine hR _ _ ⟨x05.trans x6, ?_⟩
      rw [hw0]
      exact ⟨vn, rfl, Own.mono hn z5⟩
  · rw [decide_eq_false hd, Br_bool, if_pos (by decide)]
    rw [if_pos hd] at hw0
    exact hbad _ x05 hw0
end Go.Proofs.YtoeblipchoglaaaGreatDoor
namespace Go.Proofs.YtoeblipchoglaaaGreatDoor
set_option maxRecDepth 100000
open Sh Go.RowKit
def Each (base : Nat) (w : World) (vs : List Value) (ll : List (List Int)) : Prop := vs.length = ll.length ∧ ∀ (j : Nat) (u : Value) (l : List Int), vs[j]? = some u → ll[j]? = some l → w.ownsRow base 3 1 u l.length (iv l)
def LL (w : World) (v : Value) (ll : List (List Int)) : Prop := ∃ vs, Sl w 1 v ll.length vs ∧ ∀ (j : Nat) (u : Value) (l : List Int), vs[j]? = some u → ll[j]? = some l → Sl w 1 u l.length (iv l)
theorem LL.ext {w w' : World} {v : Value} {ll : List (List Int)} (h : LL w v ll) (he : Ext w w') : LL w' v ll := by
  obtain ⟨vs, h1, h2⟩ := h
  exact ⟨vs, h1.ext he, fun j u l hu hl => (h2 j u l hu hl).ext he⟩
theorem LL.of_own {base : Nat} {w : World} {v : Value} {vs : List Value} {ll : List (List Int)} (h : w.ownsRow base 91 1 v ll.length vs) (he : Each base w vs ll) : LL w v ll :=
  ⟨vs, Sl.of_owns h, fun j u l hu hl => Sl.of_owns (he.2 j u l hu hl)⟩
theorem Each.ext {base : Nat} {w w' : World} {vs : List Value} {ll : List (List Int)} (h : Each base w vs ll) (he : Ext w w') : Each base w' vs ll := ⟨h.1, fun j u l hu hl => Own.ext (h.2 j u l hu hl) he⟩
theorem Each.mod {base n : Nat} {w w' : World} {v : Value} {vs xs : List Value} {ll : List (List Int)} (h : Each base w vs ll) (ho : w.ownsRow base 91 1 v n xs) (hm : Mod (fun k => v.ownBlock = some k) w w') : Each base w' vs ll :=
  ⟨h.1, fun j u l hu hl => Own.mod (h.2 j u l hu hl) hm (Own.off_own ho (h.2 j u l hu hl) (by decide))⟩
theorem Each.snoc {base : Nat} {w : World} {vs : List Value} {ll : List (List Int)} {u : Value} {l : List Int} (h : Each base w vs ll) (hu : w.ownsRow base 3 1 u l.length (iv l)) : Each base w (vs ++ [u]) (ll ++ [l]) := by
  refine ⟨by simp [h.1], fun j u' l' hu' hl' => ?_⟩
  by_cases hj : j < vs.length
  · rw [List.getElem?_append_left hj] at hu'
    rw [List.getElem?_append_left (by rw [← h.1]; exact hj)] at hl'
    exact h.2 j u' l' hu' hl'
  · have hl0 := h.1
    rw [List.getElem?_append_right (by omega)] at hu'
    rw [List.getElem?_append_right (by omega)] at hl'
    have h0 : j - vs.length = 0 := by have := (List.getElem?_eq_some_iff.1 hu').1; simp at this; omega
    have h1 : j - ll.length = 0 := by omega
    rw [h0] at hu'; rw [h1] at hl'
    simp at hu' hl'
    subst hu'; subst hl'; exact hu
theorem app_list {base : Nat} {w : World} {K : Value → World → Prop} {X : List PanicEntry → World → Prop} {v u : Value} {vs : List Value} {ll : List (List Int)} {l : List Int} {cs : Array Bool} (hown : w.ownsRow base 91 1 v ll.length vs) (he : Each base w vs ll) (hu : w.ownsRow base 3 1 u l.length (iv l)) (hl : ll.length < 1000000000000) (hb : base ≤ w.heap.size)
    (hk : ∀ v' w1, w1.ownsRow base 91 1 v' (ll ++ [l]).length (vs ++ [u]) → Each base w1 (vs ++ [u]) (ll ++ [l]) → Mod (base ≤ ·) w w1 → K v' w1) :
    DoV Tryz.prog (Instr.buildSlice 86 1 #[(0, u)]) w (fun s w1 => CallB Tryz.prog .append #[86, 86] 86 cs #[v, s] w1 K X) X := by
  obtain ⟨i, hi, hz, hs, hby⟩ := Ty.info_parts Ty.ints_info
  refine lit1_i Ty.lists hi hs hz rfl (Sl.cells (Sl.of_owns hu)) fun g w1 x1 hat hg _ => ?_
  have hs1 := x1.size
  have hown1 := Own.ext hown x1
  refine app_own Ty.lists hi hz hs hby rfl (by omega) hown1 (Sl.of_lit hat) (by simpa using Sl.one (Sl.of_owns hu)) (by omega) (by omega) (by omega) fun v' w2 h1 hm _ => ?_
  refine hk v' w2 (by simpa using h1) (Each.snoc ((he.ext x1).mod hown1 hm) (Own.mod (Own.ext hu x1) hm (Own.off_own hown1 (Own.ext hu x1) (by decide)))) ((Mod.of_ext (S := fun _ => False) x1).comp hm (fun _ _ h => h.elim) fun k hk h => (Own.block hown h).1)
def FramesQ (b : List UInt8) (w : World) (r : Value) (w' : World) : Prop :=
  Ext w w' ∧ if 200000 < b.length then r = .tuple #[.slice none 0 0, .int .i64 0, limitE] else ∃ v, r = .tuple #[v, .int .i64 (Cod.frames b).2, okE] ∧ LL w' v (Cod.frames b).1
theorem Frames_ret {v : Value} {b : List UInt8} (w : World) (hv : Sl w 1 v b.length (bv b)) : Ret Tryz.prog 93 #[v] w (FramesQ b w) := by
  refine ret_of (fun _ _ => sh_codec_Frames_ok _) fun R hR => ?_
  unfold sh_codec_Frames
  obtain ⟨i8, hi8, hz8, hs8, _⟩ := Ty.info_parts Ty.u8_info
  rw [hv.len Ty.bytes, bin_gtr]
  by_cases hl : 200000 < b.length
  · rw [decide_eq_true (by omega), Br_bool, if_pos rfl]
    exact hR _ _ ⟨Ext.refl _, by rw [if_pos hl]; rfl⟩
  · rw [decide_eq_false (by omega), Br_bool, if_neg (by decide)]
    refine loop2 (fun x y w1 => ∃ (at_ : Nat) (vs : List Value) (ll : List (List Int)), at_ ≤ b.length ∧ y = .int .i64 at_ ∧ w1.ownsRow w.heap.size 91 1 x ll.length vs ∧ Each w.heap.size w1 vs ll ∧ Mod (w.heap.size ≤ ·) w w1 ∧ ll.length ≤ at_ ∧ Cod.frames b = (ll ++ (Cod.frames (b.drop at_)).1, at_ + (Cod.frames (b.drop at_)).2)) (fun _ y _ => b.length - (intOf y).toNat)
      ⟨0, [], [], by omega, rfl, Own.nil _ _ _ _, ⟨rfl, by simp⟩, Mod.refl _ _, by simp, by simp⟩ ?_
    rintro hh x _ w1 h5 h6 ⟨at_, vs, ll, hat, rfl, hx, he, hm, hlt, hfr⟩ K hK
    have hz1 := hm.size
    have hv1 := hv.ext hm.new
    rw [h5, h6]
    refine slice_from Ty.bytes hi8 hs8 (by decide) hv1 (l := at_) hat fun v' hv' _ => ?_
    have hv2 : Sl w1 1 v' (b.drop at_).length (bv (b.drop at_)) := by rw [bv_drop] at hv'; rw [List.length_drop]; exact hv'
    refine callF_ret (whole_ret w1 hv2) ?_
    rintro r w2 ⟨x2, hr⟩
    cases hw : Cod.whole (b.drop at_) with
    | none =>
      rw [hw] at hr
      simp only at hr
      subst hr
      rw [ext2_0, ext2_1, bin_eql, decide_eq_true rfl, Br_bool, if_pos rfl]
      refine hR _ _ ⟨(hm.trans (.of_ext x2)).new, ?_⟩
      rw [if_neg hl, hfr, Cod.frames_none hw]
      exact ⟨x, by simp [okE], by simpa using LL.of_own (Own.ext hx x2) (he.ext x2)⟩
    | some p =>
      obtain ⟨ns, n⟩ := p
      rw [hw] at hr
      obtain ⟨u, rfl, hu⟩ := hr
      have hn := Cod.whole_size hw
      rw [List.length_drop] at hn
      rw [ext2_0, ext2_1, bin_eql, decide_eq_false (by omega), Br_bool, if_neg (by decide)]
      have hz2 := x2.size
      refine app_list (Own.ext hx x2) (he.ext x2) (Own.mono hu hz1) (by omega) (by omega) fun v3 w3 h3 he3 m3 => ?_
      rw [bin_add, i64_wrap (by omega) (by omega)]
      refine hK _ _ _ ⟨at_ + n, _, _, by omega, by simp, h3, he3, (hm.trans (.of_ext x2)).trans m3, by simp; omega, ?_⟩ (by simp [intOf]; omega)
      rw [hfr, Cod.frames_some hw, List.drop_drop]
      simp [Nat.add_assoc]
theorem refFrames_ret {v : Value} {b : List UInt8} (w : World) (hv : Sl w 1 v b.length (bv b)) : Ret Tryz.prog 55 #[v] w (FramesQ b w) := by
  refine ret_of (fun _ _ => sh_landfallref08_Frames_ok _) fun R hR => ?_
  unfold sh_landfallref08_Frames
  obtain ⟨i8, hi8, hz8, hs8, _⟩ := Ty.info_parts Ty.u8_info
  rw [hv.len Ty.bytes, bin_gtr]
  by_cases hl : 200000 < b.length
  · rw [decide_eq_true (by omega), Br_bool, if_pos rfl]
    exact hR _ _ ⟨Ext.refl _, by rw [if_pos hl]; rfl⟩
  · rw [decide_eq_false (by omega), Br_bool, if_neg (by decide)]
    refine loop2 (fun x y w1 => ∃ (at_ : Nat) (vs : List Value) (ll : List (List Int)), at_ ≤ b.length ∧ y = .int .i64 at_ ∧ w1.ownsRow w.heap.size 91 1 x ll.length vs ∧ Each w.heap.size w1 vs ll ∧ Mod (w.heap.size ≤ ·) w w1 ∧ ll.length ≤ at_ ∧ Cod.frames b = (ll ++ (Cod.frames (b.drop at_)).1, at_ + (Cod.frames (b.drop at_)).2)) (fun _ y _ => b.length - (intOf y).toNat)
      ⟨0, [], [], by omega, rfl, Own.nil _ _ _ _, ⟨rfl, by simp⟩, Mod.refl _ _, by simp, by simp⟩ ?_
    rintro hh x _ w1 h5 h6 ⟨at_, vs, ll, hat, rfl, hx, he, hm, hlt, hfr⟩ K hK
    have hz1 := hm.size
    have hv1 := hv.ext hm.new
    rw [h5, h6]
    refine slice_from Ty.bytes hi8 hs8 (by decide) hv1 (l := at_) hat fun v' hv' _ => ?_
    have hv2 : Sl w1 1 v' (b.drop at_).length (bv (b.drop at_)) := by rw [bv_drop] at hv'; rw [List.length_drop]; exact hv'
    refine callF_ret (refWhole_ret w1 hv2) ?_
    rintro r w2 ⟨x2, hr⟩
    cases hw : Cod.whole (b.drop at_) with
    | none =>
      rw [hw] at hr
      simp only at hr
      subst hr
      rw [ext2_0, ext2_1, bin_eql, decide_eq_true rfl, Br_bool, if_pos rfl]
      refine hR _ _ ⟨(hm.trans (.of_ext x2)).new, ?_⟩
      rw [if_neg hl, hfr, Cod.frames_none hw]
      exact ⟨x, by simp [okE], by simpa using LL.of_own (Own.ext hx x2) (he.ext x2)⟩
    | some p =>
      obtain ⟨ns, n⟩ := p
      rw [hw] at hr
      obtain ⟨u, rfl, hu⟩ := hr
      have hn := Cod.whole_size hw
      rw [List.length_drop] at hn
      rw [ext2_0, ext2_1, bin_eql, decide_eq_false (by omega), Br_bool, if_neg (by decide)]
      have hz2 := x2.size
      refine app_list (Own.ext hx x2) (he.ext x2) (Own.mono hu hz1) (by omega) (by omega) fun v3 w3 h3 he3 m3 => ?_
      rw [bin_add, i64_wrap (by omega) (by omega)]
      refine hK _ _ _ ⟨at_ + n, _, _, by omega, by simp, h3, he3, (hm.trans (.of_ext x2)).trans m3, by simp; omega, ?_⟩ (by simp [intOf]; omega)
      rw [hfr, Cod.frames_some hw, List.drop_drop]
      simp [Nat.add_assoc]
end Go.Proofs.YtoeblipchoglaaaGreatDoor
namespace Go.Proofs.YtoeblipchoglaaaGreatDoor
set_option maxRecDepth 100000
open Sh Go.RowKit
theorem LL.len {w : World} {v : Value} {ll : List (List Int)} (h : LL w v ll) {K : Value → World → Prop} {X : List PanicEntry → World → Prop} {cs : Array Bool} :
    CallB Tryz.prog .len #[86] 3 cs #[v] w K X = K (.int .i64 ll.length) w := by obtain ⟨vs, h1, _⟩ := h; exact h1.len Ty.lists
theorem LL.at_ {w : World} {v : Value} {ll : List (List Int)} (h : LL w v ll) {k : Nat} (hk : k < ll.length) : ∃ u b o, Sl w 1 u ll[k].length (iv ll[k]) ∧ b < w.heap.size ∧ w.cell? ⟨b, o, none⟩ = some u ∧
    ∀ (w1 : World) (K : Value → World → Prop) (X : List PanicEntry → World → Prop), DoV Tryz.prog (Instr.indexAt 86 v (.int .i64 k)) w1 K X = K (.pointer (some ⟨b, o, none⟩)) w1 := by
  obtain ⟨i, hi, hz, hs, hby⟩ := Ty.info_parts Ty.ints_info
  obtain ⟨vs, h1, h2⟩ := h
  have hvl := h1.length
  obtain ⟨b, o, hc, hb, hix⟩ := h1.index Ty.lists hi hs (k := .i64) hk (by decide)
  have hg : vs[k]? = some (vs[k]'(by omega)) := List.getElem?_eq_getElem (by omega)
  exact ⟨vs[k]'(by omega), b, o + k * 1, h2 k _ _ hg (List.getElem?_eq_getElem hk), hb, by rw [Nat.mul_one]; exact hc k _ hg, hix⟩
def putV (l : List Int) : List UInt8 × Int := if 4000 < l.length then ([], 2) else (Cod.put l, 0)
def framesV (b : List UInt8) : List (List Int) × Nat × Int := if 200000 < b.length then ([], 0, 2) else ((Cod.frames b).1, (Cod.frames b).2, 0)
theorem LL.nil (w : World) : LL w (.slice none 0 0) [] := ⟨[], Sl.nil _ _, fun j u l hu _ => by simp at hu⟩
theorem FramesQ.use {l : List UInt8} {w w' : World} {r : Value} (h : FramesQ l w r w') : ∃ v, r = .tuple #[v, .int .i64 (framesV l).2.1, .int .i64 (framesV l).2.2] ∧ LL w' v (framesV l).1 ∧ Ext w w' := by
  obtain ⟨x, h⟩ := h
  unfold framesV
  by_cases hl : 200000 < l.length
  · rw [if_pos hl] at h ⊢; exact ⟨_, h, LL.nil _, x⟩
  · rw [if_neg hl] at h ⊢; obtain ⟨v, h1, h2⟩ := h; exact ⟨v, h1, h2, x⟩
end Go.Proofs.YtoeblipchoglaaaGreatDoor
