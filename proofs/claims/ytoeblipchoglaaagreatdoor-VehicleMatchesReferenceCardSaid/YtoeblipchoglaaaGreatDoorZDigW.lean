/- The walks of package digest's Text and of the reference's. -/
import Derived.Test.YtoeblipchoglaaaGreatDoorZT1
import Derived.Test.YtoeblipchoglaaaGreatDoorZBaseB
import Derived.Test.YtoeblipchoglaaaGreatDoorZBaseC
namespace Go.Proofs.YtoeblipchoglaaaGreatDoor
set_option maxRecDepth 100000
open Sh Go.RowKit
theorem step_num (d : BitVec 64) (b : UInt8) : IntKind.u64.wrap (IntKind.u64.wrap (BitVec.ofInt IntKind.u64.bits d.toNat ^^^ BitVec.ofInt IntKind.u64.bits (IntKind.u64.wrap b.toNat)).toNat * 1099511628211) = (Dig.step d b).toNat := by
  have e1 : BitVec.ofInt IntKind.u64.bits (d.toNat : Int) = d := by
    apply BitVec.eq_of_toNat_eq
    have := d.isLt
    simp only [IntKind.bits, BitVec.toNat_ofInt]
    omega
  have e2 : BitVec.ofInt IntKind.u64.bits (IntKind.u64.wrap b.toNat) = b.toBitVec.zeroExtend 64 := by
    apply BitVec.eq_of_toNat_eq
    have := b.toBitVec.isLt
    simp only [IntKind.bits, BitVec.toNat_ofInt, IntKind.wrap, IntKind.signed, Bool.false_and]
    rw [if_neg (by decide)]
    simp only [BitVec.truncate_eq_setWidth, BitVec.toNat_setWidth, UInt8.toNat]
    omega
  rw [e1, e2]
  show IntKind.u64.wrap (IntKind.u64.wrap (((d ^^^ b.toBitVec.zeroExtend 64 : BitVec 64).toNat : Nat) : Int) * 1099511628211) = _
  rw [u64_wrap]
  unfold Dig.step
  generalize d ^^^ b.toBitVec.zeroExtend 64 = x
  have hx := x.isLt
  simp only [IntKind.wrap, IntKind.signed, IntKind.bits, Bool.false_and]
  rw [if_neg (by decide), BitVec.toNat_mul]
  have hf : Dig.factor.toNat = 1099511628211 := by decide
  rw [hf]
  omega
theorem run_take {l : List UInt8} {k : Nat} {d : BitVec 64} (h : k < l.length) : Dig.run d (l.take (k + 1)) = Dig.step (Dig.run d (l.take k)) l[k] := by
  rw [take_get h, Dig.run_append]; rfl
theorem run1_ret (l : List UInt8) (v : Value) (b : Nat) (d : BitVec 64) (w : World) (hl : Sl w 1 v l.length (bv l)) (hb : At w b (.cells #[u64v d] 61 (0, 0))) (hne : Off (· = b) v) :
    Ret Tryz.prog 136 #[v, .pointer (some ⟨b, 0, none⟩)] w fun r w' => r = .tuple #[] ∧ Mod (· = b) w w' ∧ At w' b (.cells #[u64v (Dig.run d l)] 61 (0, 0)) := by
  refine ret_of (fun _ _ => sh_digest_run_1_ok _ _) fun R hR => ?_
  unfold sh_digest_run_1
  obtain ⟨i8, hi8, _, hs8, _⟩ := Ty.info_parts Ty.u8_info
  have hle := hl.le
  rw [hl.len Ty.bytes]
  refine loop1 (fun x w1 => ∃ k : Nat, k ≤ l.length ∧ x = .int .i64 k ∧ Mod (· = b) w w1 ∧ At w1 b (.cells #[u64v (Dig.run d (l.take k))] 61 (0, 0))) (fun x _ => l.length - (intOf x).toNat) ⟨0, by omega, rfl, Mod.refl _ _, hb⟩ ?_
  rintro h _ w1 h7 ⟨k, hk, rfl, hm, hat⟩ K hK
  rw [h7, bin_lss]
  by_cases hlt : k < l.length
  · rw [decide_eq_true (by omega), Br_bool, if_pos rfl]
    obtain ⟨b', o, hc, _, hix⟩ := (hl.mod hm hne).index Ty.bytes hi8 hs8 (k := .i64) hlt (by decide)
    rw [hix, load_cell Ty.u8_agg (u := .int .u8 l[k].toNat) (by rw [Nat.mul_one]; exact hc k _ (bv_get hlt))]
    refine load_i Ty.u64_agg hat (u := u64v (Dig.run d (l.take k))) rfl ?_
    rw [conv_int Ty.u8 Ty.u64, u64v, bin_xor, bin_mul, step_num]
    refine store_i Ty.u64_size hat (by simp) rfl fun w2 hm2 hat2 _ => ?_
    rw [bin_add, i64_wrap (by omega) (by omega)]
    refine hK _ _ ⟨k + 1, by omega, by simp, hm.trans hm2, ?_⟩ (by simp [intOf]; omega)
    rw [run_take hlt]; exact hat2
  · rw [decide_eq_false (by omega), Br_bool, if_neg (by decide)]
    exact hR _ _ ⟨rfl, hm, by rw [List.take_of_length_le (by omega)] at hat; exact hat⟩

theorem run2_ret (b : Nat) (d : BitVec 64) (w : World) (hb : At w b (.cells #[u64v d] 61 (0, 0))) :
    Ret Tryz.prog 137 #[.pointer (some ⟨b, 0, none⟩)] w fun r w' => r = u64v d ∧ w' = w := by
  refine ret_of (fun _ _ => sh_digest_run_2_ok _) fun R hR => ?_
  unfold sh_digest_run_2
  refine load_i Ty.u64_agg hb (u := u64v d) rfl ?_
  exact hR _ _ ⟨rfl, rfl⟩

theorem go36 : goes Tryz.prog 136 = true := by kernel_rfl
theorem go37 : goes Tryz.prog 137 = true := by kernel_rfl
theorem run_ret (w : World) : Ret Tryz.prog 123 #[] w fun r w' => ∃ b, w.heap.size ≤ b ∧ Ext w w' ∧ At w' b (.cells #[u64v Dig.begin64] 61 (0, 0)) ∧
    r = .tuple #[.func (.func 136) #[] #[.pointer (some ⟨b, 0, none⟩)], .func (.func 137) #[] #[.pointer (some ⟨b, 0, none⟩)]] := by
  refine ret_of (fun _ _ => sh_digest_run_ok) fun R hR => ?_
  unfold sh_digest_run
  refine alloc_i Ty.u64_zero fun b w1 he hat hb _ => ?_
  refine store_i Ty.u64_size hat (by simp [Value.cells]) rfl fun w2 hm hat2 _ => ?_
  rw [mk_func, mk_func]
  refine hR _ _ ⟨b, by omega, ?_, hat2, rfl⟩
  exact (he.mono (Nat.le_refl _)).trans ⟨hm.os, hm.tape, hm.output, hm.size, fun k hk => hm.block k (by have := he.size; omega) (by omega)⟩

theorem Text_ret (s : ByteArray) (hs : s.size ≤ 9223372036854775807) (w : World) : Ret Tryz.prog 122 #[.string s] w fun r w' => r = u64v (Dig.text s.data.toList) ∧ Ext w w' := by
  refine ret_of (fun _ _ => sh_digest_Text_ok _) fun R hR => ?_
  unfold sh_digest_Text
  refine callF_ret (run_ret w) ?_
  rintro _ w1 ⟨b, hb, he, hat, rfl⟩
  rw [ext2_0, ext2_1]
  refine conv_str Ty.str Ty.bytes Ty.u8 hs fun g c w2 he2 hg _ _ _ hsl => ?_
  rw [callV_func go36]
  have hat2 := hat.ext he2
  refine callF_ret (run1_ret _ _ b _ w2 hsl hat2 fun k hk => ?_) ?_
  · have e : g = k := by simpa [Value.ownBlock] using hk
    have := hat.lt
    omega
  rintro _ w3 ⟨rfl, hm, hat3⟩
  rw [callV_func go37]
  refine callF_ret (run2_ret b _ w3 hat3) ?_
  rintro _ w4 ⟨rfl, rfl⟩
  refine hR _ _ ⟨rfl, ?_⟩
  exact (((Mod.of_ext (S := fun _ => False) he).comp (.of_ext he2) (fun _ _ h => h) (fun _ _ h => h)).comp hm (fun _ _ h => h) (fun k hk h => by omega) : Mod (fun _ => False) w w4).ext fun _ _ h => h

theorem refText_ret (s : ByteArray) (hs : s.size ≤ 9223372036854775807) (w : World) : Ret Tryz.prog 83 #[.string s] w fun r w' => r = u64v (Dig.text s.data.toList) ∧ w' = w := by
  refine ret_of (fun _ _ => sh_landfallref05_Text_ok _) fun R hR => ?_
  unfold sh_landfallref05_Text
  have hl : s.data.toList.length = s.size := rfl
  refine loop2 (fun x y w1 => ∃ k : Nat, k ≤ s.size ∧ x = u64v (Dig.run Dig.begin64 (s.data.toList.take k)) ∧ y = .int .i64 k ∧ w1 = w) (fun _ y _ => s.size - (intOf y).toNat) ⟨0, by omega, rfl, rfl, rfl⟩ ?_
  rintro h _ _ w1 h3 h4 ⟨k, hk, rfl, rfl, rfl⟩ K hK
  rw [len_string Ty.str, h4, bin_lss]
  by_cases hlt : k < s.size
  · rw [decide_eq_true (by omega), Br_bool, if_pos rfl, index_str Ty.str (i := k) (by omega), conv_int Ty.u8 Ty.u64, h3, u64v, bin_xor, bin_mul, step_num, bin_add, i64_wrap (by omega) (by omega)]
    refine hK _ _ _ ⟨k + 1, by omega, ?_, by simp, rfl⟩ (by simp [intOf]; omega)
    rw [run_take (by omega)]; rfl
  · rw [decide_eq_false (by omega), Br_bool, if_neg (by decide), h3]
    exact hR _ _ ⟨by rw [List.take_of_length_le (by omega)]; rfl, rfl⟩
end Go.Proofs.YtoeblipchoglaaaGreatDoor
