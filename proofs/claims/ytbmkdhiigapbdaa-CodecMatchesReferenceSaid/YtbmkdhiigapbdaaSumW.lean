/- The walks of the comparisons, of both sums. -/
import Derived.Test.YtbmkdhiigapbdaaRefW
import Derived.Test.YtbmkdhiigapbdaaArr
namespace Go.Proofs.Ytbmkdhiigapbdaa
open Sh Go.RowKit
theorem str_conv {w : World} {K : Value → World → Prop} {X : List PanicEntry → World → Prop} {v : Value} {l : List UInt8} (hv : Sl w 1 v l.length (bv l)) :
    DoV Try.prog (convert 23 9 v) w K X = K (.string ⟨l.toArray⟩) w := str_of Ty.bytes Ty.u8 Ty.str hv
theorem SameBytes_ret {x y : Value} {a b : List UInt8} (w : World) (hx : Sl w 1 x a.length (bv a)) (hy : Sl w 1 y b.length (bv b)) :
    Ret Try.prog 12 #[x, y] w fun r w' => r = .bool (decide (a = b)) ∧ w' = w := by
  refine ret_of (fun _ _ => sh_landfallref08_SameBytes_ok _ _) fun R hR => ?_
  unfold sh_landfallref08_SameBytes
  rw [str_conv hx, str_conv hy, bin_str_eql]
  refine hR _ _ ⟨?_, rfl⟩
  congr 1
  rw [ByteArray.toList_eq, ByteArray.toList_eq]
  rw [Bool.eq_iff_iff]; simp
theorem SameInts_ret {x y : Value} {a b : List Int} (w : World) (hx : Sl w 1 x a.length (iv a)) (hy : Sl w 1 y b.length (iv b)) :
    Ret Try.prog 17 #[x, y] w fun r w' => r = .bool (decide (a = b)) ∧ Ext w w' := by
  refine ret_of (fun _ _ => sh_landfallref08_SameInts_ok _ _) fun R hR => ?_
  unfold sh_landfallref08_SameInts
  obtain ⟨i, hi, _, hs, _⟩ := Ty.info_parts Ty.int_info
  have hle := hx.le
  rw [hx.len Ty.ints, hy.len Ty.ints, bin_neq]
  by_cases hl : a.length = b.length
  · rw [decide_eq_true (by omega), Br_bool, if_neg (by decide)]
    refine loop1 (fun x w1 => ∃ k : Nat, k ≤ a.length ∧ x = .int .i64 k ∧ Ext w w1 ∧ a.take k = b.take k) (fun x _ => a.length - (intOf x).toNat) ⟨0, by omega, rfl, Ext.refl _, by simp⟩ ?_
    rintro h _ w1 h5 ⟨k, hk, rfl, he, htk⟩ K hK
    rw [(hx.ext he).len Ty.ints, h5, bin_lss]
    by_cases hlt : k < a.length
    · rw [decide_eq_true (by omega), Br_bool, if_pos rfl]
      refine draw_ext fun w2 hd => ?_
      have he2 : Ext w w2 := he.trans hd
      obtain ⟨g1, o1, hc1, hg1, hix1⟩ := (hx.ext he2).index Ty.ints hi hs (k := .i64) hlt (by decide)
      obtain ⟨g2, o2, hc2, hg2, hix2⟩ := (hy.ext he2).index Ty.ints hi hs (k := .i64) (show k < b.length by omega) (by decide)
      refine det_pure _ Ext.refl (fun w3 h3 K hK => by show DoV _ _ _ _ _; rw [hix1]; exact hK) ?_
      refine det_pure (.int .i64 a[k]) Ext.refl (fun w3 h3 K hK => by
        show DoV _ _ _ _ _; rw [load_cell Ty.int_agg (u := .int .i64 a[k]) (by rw [Nat.mul_one]; exact cell_ext (hc1 k _ (iv_get hlt)) hg1 h3)]; exact hK) ?_
      refine det_pure _ Ext.refl (fun w3 h3 K hK => by show DoV _ _ _ _ _; rw [hix2]; exact hK) ?_
      refine det_pure (.int .i64 b[k]) Ext.refl (fun w3 h3 K hK => by
        show DoV _ _ _ _ _; rw [load_cell Ty.int_agg (u := .int .i64 b[k]) (by rw [Nat.mul_one]; exact cell_ext (hc2 k _ (iv_get (by omega))) hg2 h3)]; exact hK) ?_
      intro w3 h3 _
      have he3 := he2.trans h3
      rw [bin_neq]
      by_cases heq : a[k] = b[k]
      · rw [decide_eq_true heq, Br_bool, if_neg (by decide), bin_add, i64_wrap (by omega) (by omega)]
        refine hK _ _ ⟨k + 1, by omega, by simp, he3, ?_⟩ (by simp [intOf]; omega)
        rw [List.take_succ_eq_append_getElem hlt, List.take_succ_eq_append_getElem (by omega), htk, heq]
      · rw [decide_eq_false heq, Br_bool, if_pos (by decide)]
        refine hR _ _ ⟨?_, he3⟩
        rw [decide_eq_false]
        intro e; subst e; exact heq rfl
    · rw [decide_eq_false (by omega), Br_bool, if_neg (by decide)]
      refine hR _ _ ⟨?_, he⟩
      rw [decide_eq_true]
      rw [List.take_of_length_le (by omega), List.take_of_length_le (by omega)] at htk
      exact htk
  · rw [decide_eq_false (by omega), Br_bool, if_pos (by decide)]
    refine hR _ _ ⟨?_, Ext.refl _⟩
    rw [decide_eq_false]
    intro e; subst e; exact hl rfl
theorem shr_val (d : BitVec 64) {i : Nat} (hi : i < 8) {x : Int} (hx : x = 56 - 8 * (i : Int)) : IntKind.u8.wrap ((d.toNat : Int).fdiv (2 ^ min x.toNat IntKind.u64.bits)) = ((UInt8.ofBitVec ((d >>> (56 - 8 * i)).setWidth 8)).toNat : Int) := by
  have e : min x.toNat IntKind.u64.bits = 56 - 8 * i := by
    show min x.toNat 64 = _
    omega
  rw [e, Int.fdiv_eq_ediv_of_nonneg _ (Int.le_of_lt (Int.pow_pos (by decide))), u8w]
  show _ = (((d >>> (56 - 8 * i)).setWidth 8).toNat : Int)
  rw [BitVec.toNat_setWidth, BitVec.toNat_ushiftRight, Nat.shiftRight_eq_div_pow]
  simp
theorem bytes8_get (d : BitVec 64) {i : Nat} (hi : i < 8) : (Dig.bytes8 d).take (i + 1) = (Dig.bytes8 d).take i ++ [UInt8.ofBitVec ((d >>> (56 - 8 * i)).setWidth 8)] := by
  have hl : (Dig.bytes8 d).length = 8 := by simp [Dig.bytes8]
  rw [List.take_succ_eq_append_getElem (by omega)]
  simp [Dig.bytes8]
theorem bytes_ret (d : BitVec 64) (w : World) : Ret Try.prog 26 #[u64v d] w fun r w' => Ext w w' ∧ w'.ownsRow w.heap.size 5 1 r (Dig.bytes8 d).length (bv (Dig.bytes8 d)) := by
  refine ret_of (fun _ _ => sh_landfallref08_bytes_ok _) fun R hR => ?_
  unfold sh_landfallref08_bytes
  have hl : (Dig.bytes8 d).length = 8 := by simp [Dig.bytes8]
  refine loop2 (fun x y w1 => ∃ k : Nat, k ≤ 8 ∧ y = .int .i64 k ∧ w1.ownsRow w.heap.size 5 1 x ((Dig.bytes8 d).take k).length (bv ((Dig.bytes8 d).take k)) ∧ Mod (w.heap.size ≤ ·) w w1) (fun _ y _ => 8 - (intOf y).toNat) ⟨0, by omega, rfl, Own.nil _ _ _ _, Mod.refl _ _⟩ ?_
  rintro h x _ w1 h3 h4 ⟨k, hk, rfl, hx, hm⟩ K hK
  have hz := hm.size
  rw [h4, h3, bin_lss]
  by_cases hlt : k < 8
  · rw [decide_eq_true (by omega), Br_bool, if_pos rfl, bin_mul, i64_wrap (by omega) (by omega), bin_sub, i64_wrap (by omega) (by omega), u64v, bin_shr (by omega), conv_int Ty.u64 Ty.u8, shr_val d hlt rfl]
    refine app_byte hx (by simp; omega) (by omega) fun v' w2 h1 hm2 => ?_
    rw [bin_add, i64_wrap (by omega) (by omega)]
    refine hK _ _ _ ⟨k + 1, by omega, by simp, ?_, hm.trans hm2⟩ (by simp [intOf]; omega)
    rw [bytes8_get d hlt]; exact h1
  · rw [decide_eq_false (by omega), Br_bool, if_neg (by decide)]
    rw [List.take_of_length_le (by omega)] at hx
    exact hR _ _ ⟨hm.new, hx⟩
end Go.Proofs.Ytbmkdhiigapbdaa
