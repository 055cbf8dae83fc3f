/- The walks of the comparisons, of both sums. -/
import Derived.Test.YtahplhcijlgelaaRefW
import Derived.Test.YtahplhcijlgelaaArr
namespace Go.Proofs.Ytahplhcijlgelaa
set_option maxRecDepth 100000
open Sh Go.RowKit
theorem SameBytes_ret {x y : Value} {a b : List UInt8} (w : World) (hx : Sl w 1 x a.length (bv a)) (hy : Sl w 1 y b.length (bv b)) :
    Ret Try.prog 12 #[x, y] w fun r w' => r = .bool (decide (a = b)) ∧ w' = w := by
  refine ret_of (fun _ _ => sh_landfallref08_SameBytes_ok _ _) fun R hR => ?_
  unfold sh_landfallref08_SameBytes
  rw [str_conv hx, str_conv hy, bin_str_eql]
  refine hR _ _ ⟨?_, rfl⟩
  congr 1
  rw [ByteArray.toList_eq, ByteArray.toList_eq]
  rw [Bool.eq_iff_iff]; simp
theorem shr_val (d : BitVec 64) {i : Nat} (hi : i < 8) {x : Int} (hx : x = 56 - 8 * (i : Int)) : IntKind.u8.wrap ((d.toNat : Int).fdiv (2 ^ min x.toNat IntKind.u64.bits)) = ((UInt8.ofBitVec ((d >>> (56 - 8 * i)).setWidth 8)).toNat : Int) := by
  have e : min x.toNat IntKind.u64.bits = 56 - 8 * i := by
    show min x.toNat 64 = _
    omega
  rw [e, Int.fdiv_eq_ediv_of_nonneg _ (Int.le_of_lt (Int.pow_pos (by decide))), u8w]
  show _ = (((d >>> (56 - 8 * i)).setWidth 8).toNat : Int)
  rw [BitVec.toNat_setWidth, BitVec.toNat_ushiftRight, Nat.shiftRight_eq_div_pow]
  simp
theorem bytes8_get (d : BitVec 64) {i : Nat} (hi : i < 8) : (Dig.bytes8 d).take (i + 1) = (Dig.bytes8 d).take i ++ [UInt8.ofBitVec ((d >>> (56 - 8 * i)).setWidth 8)] := by
  have hl : (Dig.bytes8 d).length = 8 := by simp [Dig.bytes8]
  rw [List.take_succ_eq_append_getElem (by omega)]
  simp [Dig.bytes8]
theorem bytes_ret (d : BitVec 64) (w : World) : Ret Try.prog 37 #[u64v d] w fun r w' => Ext w w' ∧ w'.ownsRow w.heap.size 5 1 r (Dig.bytes8 d).length (bv (Dig.bytes8 d)) := by
  refine ret_of (fun _ _ => sh_landfallref08_bytes_ok _) fun R hR => ?_
  unfold sh_landfallref08_bytes
  have hl : (Dig.bytes8 d).length = 8 := by simp [Dig.bytes8]
  refine loop2 (fun x y w1 => ∃ k : Nat, k ≤ 8 ∧ y = .int .i64 k ∧ w1.ownsRow w.heap.size 5 1 x ((Dig.bytes8 d).take k).length (bv ((Dig.bytes8 d).take k)) ∧ Mod (w.heap.size ≤ ·) w w1) (fun _ y _ => 8 - (intOf y).toNat) ⟨0, by omega, rfl, Own.nil _ _ _ _, Mod.refl _ _⟩ ?_
  rintro h x _ w1 h3 h4 ⟨k, hk, rfl, hx, hm⟩ K hK
  have hz := hm.size
  rw [h4, h3, bin_lss]
  by_cases hlt : k < 8
  · rw [decide_eq_true (by omega), Br_bool, if_pos rfl, bin_mul, i64_wrap (by omega) (by omega), bin_sub, i64_wrap (by omega) (by omega), u64v, bin_shr (by omega), conv_int Ty.u64 Ty.u8, shr_val d hlt rfl]
    refine app_byte hx (by simp; omega) (by omega) fun v' w2 h1 hm2 => ?_
    rw [bin_add, i64_wrap (by omega) (by omega)]
    refine hK _ _ _ ⟨k + 1, by omega, by simp, ?_, hm.trans hm2⟩ (by simp [intOf]; omega)
    rw [bytes8_get d hlt]; exact h1
  · rw [decide_eq_false (by omega), Br_bool, if_neg (by decide)]
    rw [List.take_of_length_le (by omega)] at hx
    exact hR _ _ ⟨hm.new, hx⟩
end Go.Proofs.Ytahplhcijlgelaa
