/- The walks of package codec and of its reference. -/
import Derived.Test.YtahplhcijlgelaaDigW
import Derived.Test.YtahplhcijlgelaaTy
import Derived.Test.YtahplhcijlgelaaCod
namespace Go.Proofs.Ytahplhcijlgelaa
set_option maxRecDepth 100000
open Sh Go.RowKit
theorem number_val {n : Int} (h : I64 n) : IntKind.u64.wrap (BitVec.ofInt IntKind.u64.bits (IntKind.u64.wrap (IntKind.u64.wrap n * 2 ^ min (1 : Int).toNat IntKind.u64.bits)) ^^^ BitVec.ofInt IntKind.u64.bits (IntKind.u64.wrap (n.fdiv (2 ^ min (63 : Int).toNat IntKind.i64.bits)))).toNat = (Cod.zig n : Int) := by
  unfold I64 at h
  have e1 : (2 : Int) ^ min (1 : Int).toNat IntKind.u64.bits = 2 := rfl
  have e2 : (2 : Int) ^ min (63 : Int).toNat IntKind.i64.bits = 9223372036854775808 := rfl
  rw [e1, e2]
  show IntKind.u64.wrap ((BitVec.ofInt 64 _ ^^^ BitVec.ofInt 64 _ : BitVec 64).toNat : Int) = _
  by_cases hn : 0 ≤ n
  · have h1 : n.fdiv 9223372036854775808 = 0 := by rw [Int.fdiv_eq_ediv_of_nonneg _ (by omega)]; omega
    rw [h1, u64w 0, u64w n, u64w (n % 18446744073709551616 * 2)]
    have h2 : n % 18446744073709551616 * 2 % 18446744073709551616 = ((2 * n).toNat : Int) := by omega
    rw [h2, Int.zero_emod, ofInt64]
    have h3 : BitVec.ofInt 64 0 = 0#64 := rfl
    rw [h3, BitVec.xor_zero, BitVec.toNat_ofNat, u64w]
    unfold Cod.zig
    rw [if_pos hn]; omega
  · have h1 : n.fdiv 9223372036854775808 = -1 := by rw [Int.fdiv_eq_ediv_of_nonneg _ (by omega)]; omega
    rw [h1, u64w n, u64w (-1), u64w (n % 18446744073709551616 * 2)]
    have h2 : n % 18446744073709551616 * 2 % 18446744073709551616 = ((2 * n + 18446744073709551616).toNat : Int) := by omega
    rw [h2, ofInt64]
    have h3 : BitVec.ofInt 64 (-1 % 18446744073709551616) = BitVec.allOnes 64 := by decide
    rw [h3, BitVec.xor_allOnes, BitVec.toNat_not, BitVec.toNat_ofNat, u64w]
    unfold Cod.zig
    rw [if_neg hn]; omega
theorem number_ret {n : Int} (h : I64 n) (w : World) : Ret Try.prog 51 #[.int .i64 n] w fun r w' => r = .int .u64 (Cod.zig n) ∧ w' = w := by
  refine ret_of (fun _ _ => sh_codec_number_ok _) fun R hR => ?_
  unfold sh_codec_number
  rw [conv_int Ty.int Ty.u64, bin_shl (by decide), bin_shr (by decide), conv_int Ty.int Ty.u64, bin_xor, number_val h]
  exact hR _ _ ⟨rfl, rfl⟩
theorem shr7 (u : Nat) : ((u : Int).fdiv (2 ^ min (7 : Int).toNat IntKind.u64.bits)) = ((u / 128 : Nat) : Int) := by
  have e1 : (2 : Int) ^ min (7 : Int).toNat IntKind.u64.bits = 128 := rfl
  rw [e1, Int.fdiv_eq_ediv_of_nonneg _ (by omega)]; rfl
theorem put_ret {base : Nat} {v : Value} {l : List UInt8} {n : Int} (h : I64 n) (w : World) (hown : w.ownsRow base 5 1 v l.length (bv l)) (hl : l.length < 10000000000000) (hb : base ≤ w.heap.size) :
    Ret Try.prog 44 #[v, .int .i64 n] w fun r w' => w'.ownsRow base 5 1 r (l ++ Cod.num n).length (bv (l ++ Cod.num n)) ∧ Mod (base ≤ ·) w w' := by
  refine ret_of (fun _ _ => sh_codec_put_ok _ _) fun R hR => ?_
  unfold sh_codec_put
  refine callF_same (number_ret h w) ?_
  refine loop2 (fun x y w1 => ∃ (p : List UInt8) (u : Nat), y = .int .u64 u ∧ l ++ Cod.num n = p ++ Cod.vi u ∧ p.length + (Cod.vi u).length < 100000000000000 ∧ w1.ownsRow base 5 1 x p.length (bv p) ∧ Mod (base ≤ ·) w w1) (fun _ y _ => (intOf y).toNat)
    ⟨l, _, rfl, rfl, by have := Cod.num_length h; unfold Cod.num at this; omega, hown, Mod.refl _ _⟩ ?_
  rintro hh x _ w1 h0 h5 ⟨p, u, rfl, hp, hlen, hx, hm⟩ K hK
  have hsz := hm.size
  rw [h5, h0, bin_gtr]
  by_cases hu : 127 < u
  · rw [decide_eq_true (by omega), Br_bool, if_pos rfl, conv_int Ty.u64 Ty.u8, bin_or, byte_hi]
    rw [Cod.vi_big (by omega)] at hlen hp
    simp only [List.length_cons] at hlen
    refine app_byte hx (by omega) (by omega) fun v' w2 h1 hm2 => ?_
    rw [bin_shr (by decide), shr7]
    exact hK _ _ _ ⟨p ++ [UInt8.ofNat (u % 128 + 128)], u / 128, rfl, by rw [hp]; simp, by simp; omega, h1, hm.trans hm2⟩ (by simp [intOf]; omega)
  · rw [decide_eq_false (by omega), Br_bool, if_neg (by decide), conv_int Ty.u64 Ty.u8, u8_nat]
    rw [Cod.vi_small (by omega)] at hlen hp
    simp only [List.length_singleton] at hlen
    refine app_byte hx (by omega) (by omega) fun v' w2 h1 hm2 => ?_
    exact hR _ _ ⟨by rw [hp]; exact h1, hm.trans hm2⟩
def okE : Value := .int .i64 0
def limitE : Value := .int .i64 2
def formE : Value := .int .i64 7
/-- What Put of either kind returns. -/
def PutQ (l : List Int) (w : World) (r : Value) (w' : World) : Prop :=
  Ext w w' ∧ if 4000 < l.length then r = .tuple #[.slice none 0 0, limitE] else ∃ v, r = .tuple #[v, okE] ∧ w'.ownsRow w.heap.size 5 1 v (Cod.put l).length (bv (Cod.put l))
theorem Put_ret {l : List Int} (hi : ∀ n ∈ l, I64 n) {v : Value} (w : World) (hv : Sl w 1 v l.length (iv l)) : Ret Try.prog 33 #[v] w (PutQ l w) := by
  refine ret_of (fun _ _ => sh_codec_Put_ok _) fun R hR => ?_
  unfold sh_codec_Put
  obtain ⟨i, hi1, _, hs, _⟩ := Ty.info_parts Ty.int_info
  rw [hv.len Ty.ints, bin_gtr]
  by_cases hl : 4000 < l.length
  · rw [decide_eq_true (by omega), Br_bool, if_pos rfl]
    exact hR _ _ ⟨Ext.refl _, by rw [if_pos hl]; rfl⟩
  · rw [decide_eq_false (by omega), Br_bool, if_neg (by decide), hv.len Ty.ints]
    refine callF_ret (put_ret (base := w.heap.size) (l := []) (by unfold I64; omega) w (Own.nil _ _ _ _) (by simp) (Nat.le_refl _)) ?_
    rintro r w1 ⟨hr, hm1⟩
    rw [(hv.ext hm1.new).len Ty.ints]
    refine loop2 (fun x y w2 => ∃ k : Nat, k ≤ l.length ∧ y = .int .i64 k ∧ w2.ownsRow w.heap.size 5 1 x (Cod.num l.length ++ Cod.nums (l.take k)).length (bv (Cod.num l.length ++ Cod.nums (l.take k))) ∧ Mod (w.heap.size ≤ ·) w w2) (fun _ y _ => l.length - (intOf y).toNat)
      ⟨0, by omega, rfl, by simpa [Cod.nums] using hr, hm1⟩ ?_
    rintro hh x _ w2 h4 h15 ⟨k, hk, rfl, hx, hm⟩ K hK
    have hsz := hm.size
    rw [h15, h4, bin_lss]
    by_cases hlt : k < l.length
    · rw [decide_eq_true (by omega), Br_bool, if_pos rfl]
      obtain ⟨b, o, hc, _, hix⟩ := (hv.ext hm.new).index Ty.ints hi1 hs (k := .i64) hlt (by decide)
      rw [hix, load_cell Ty.int_agg (u := .int .i64 l[k]) (by rw [Nat.mul_one]; exact hc k _ (iv_get hlt))]
      have hn : I64 l[k] := hi _ (List.getElem_mem _)
      have hlen := Cod.num_length_small (n := l.length) (by omega)
      have hlen2 := Cod.nums_length (l := l.take k) fun n hn => hi n (List.mem_of_mem_take hn)
      rw [List.length_take] at hlen2
      refine callF_ret (put_ret hn w2 hx (by rw [List.length_append]; omega) (by omega)) ?_
      rintro r2 w3 ⟨hr2, hm2⟩
      rw [bin_add, i64_wrap (by omega) (by omega)]
      refine hK _ _ _ ⟨k + 1, by omega, by simp, ?_, hm.trans hm2⟩ (by simp [intOf]; omega)
      have e : Cod.nums (l.take (k + 1)) = Cod.nums (l.take k) ++ Cod.num l[k] := by rw [List.take_succ_eq_append_getElem hlt, Cod.nums_append]; simp [Cod.nums]
      rw [e, ← List.append_assoc]; exact hr2
    · rw [decide_eq_false (by omega), Br_bool, if_neg (by decide)]
      refine hR _ _ ⟨hm.new, ?_⟩
      rw [if_neg hl]
      rw [List.take_of_length_le (by omega)] at hx
      exact ⟨x, rfl, hx⟩

theorem one_start {n : Int} (h : I64 n) (hn : 0 ≤ n) : IntKind.u64.wrap (2 * IntKind.u64.wrap n) = (Cod.zig n : Int) := by
  unfold I64 at h
  rw [u64w, u64w]; unfold Cod.zig; rw [if_pos hn]; omega
theorem one_ret {n : Int} (h : I64 n) (w : World) : Ret Try.prog 46 #[.int .i64 n] w fun r w' => Ext w w' ∧ w'.ownsRow w.heap.size 5 1 r (Cod.num n).length (bv (Cod.num n)) := by
  refine ret_of (fun _ _ => sh_landfallref08_one_ok _) fun R hR => ?_
  unfold sh_landfallref08_one
  have h' := h
  unfold I64 at h'
  rw [conv_int Ty.int Ty.u64, bin_mul]
  refine join1 (fun x w1 => x = .int .u64 (Cod.zig n) ∧ w1 = w) ?_ fun K hK => ?_
  · rintro h10 _ w1 h3 ⟨rfl, hw⟩
    subst w1
    rw [h3]
    refine loop2 (fun y x w1 => ∃ (p : List UInt8) (u : Nat), y = .int .u64 u ∧ u < 18446744073709551616 ∧ Cod.num n = p ++ Cod.vi u ∧ p.length + (Cod.vi u).length < 100000000000000 ∧ w1.ownsRow w.heap.size 5 1 x p.length (bv p) ∧ Mod (w.heap.size ≤ ·) w w1) (fun y _ _ => (intOf y).toNat)
      ⟨[], _, rfl, Cod.zig_lt h, rfl, by have := Cod.num_length h; unfold Cod.num at this; simp; omega, Own.nil _ _ _ _, Mod.refl _ _⟩ ?_
    rintro hh _ x w1 h3 h4 ⟨p, u, rfl, hul, hp, hlen, hx, hm⟩ K hK
    have hsz := hm.size
    rw [h4, h3, bin_geq]
    by_cases hu : 128 ≤ u
    · rw [decide_eq_true (by omega), Br_bool, if_pos rfl, bin_rem (by decide), conv_int Ty.u64 Ty.u8, bin_add, byte_128]
      rw [Cod.vi_big (by omega)] at hlen hp
      simp only [List.length_cons] at hlen
      refine app_byte hx (by omega) (by omega) fun v' w2 h1 hm2 => ?_
      rw [bin_quo (by decide), show ((u : Int).tdiv 128) = ((u / 128 : Nat) : Int) from rfl, u64w, show (((u / 128 : Nat) : Int) % 18446744073709551616) = ((u / 128 : Nat) : Int) by omega]
      exact hK _ _ _ ⟨p ++ [UInt8.ofNat (u % 128 + 128)], u / 128, rfl, by omega, by rw [hp]; simp, by simp; omega, h1, hm.trans hm2⟩ (by simp [intOf]; omega)
    · rw [decide_eq_false (by omega), Br_bool, if_neg (by decide), conv_int Ty.u64 Ty.u8, u8_nat]
      rw [Cod.vi_small (by omega)] at hlen hp
      simp only [List.length_singleton] at hlen
      refine app_byte hx (by omega) (by omega) fun v' w2 h1 hm2 => ?_
      exact hR _ _ ⟨(hm.trans hm2).new, by rw [hp]; exact h1⟩
  · rw [bin_lss]
    by_cases hn : n < 0
    · rw [decide_eq_true hn, Br_bool, if_pos rfl, bin_add, un_neg, conv_int Ty.int Ty.u64, bin_mul, bin_add]
      refine hK _ _ ⟨?_, rfl⟩
      congr 1
      rw [i64_wrap (x := n + 1) (by omega) (by omega), i64_wrap (by omega) (by omega), u64w, u64w, u64w]
      unfold Cod.zig; rw [if_neg (by omega)]; omega
    · rw [decide_eq_false hn, Br_bool, if_neg (by decide)]
      exact hK _ _ ⟨by rw [one_start h (by omega)], rfl⟩
theorem refPut_ret {l : List Int} (hi : ∀ n ∈ l, I64 n) {v : Value} (w : World) (hv : Sl w 1 v l.length (iv l)) : Ret Try.prog 36 #[v] w (PutQ l w) := by
  refine ret_of (fun _ _ => sh_landfallref08_Put_ok _) fun R hR => ?_
  unfold sh_landfallref08_Put
  obtain ⟨i, hi1, _, hs, _⟩ := Ty.info_parts Ty.int_info
  rw [hv.len Ty.ints, bin_gtr]
  by_cases hl : 4000 < l.length
  · rw [decide_eq_true (by omega), Br_bool, if_pos rfl]
    exact hR _ _ ⟨Ext.refl _, by rw [if_pos hl]; rfl⟩
  · rw [decide_eq_false (by omega), Br_bool, if_neg (by decide), hv.len Ty.ints]
    refine callF_ret (one_ret (by unfold I64; omega) w) ?_
    rintro r w1 ⟨he1, hr⟩
    refine loop2 (fun x y w2 => ∃ k : Nat, k ≤ l.length ∧ y = .int .i64 k ∧ w2.ownsRow w.heap.size 5 1 x (Cod.num l.length ++ Cod.nums (l.take k)).length (bv (Cod.num l.length ++ Cod.nums (l.take k))) ∧ Ext w w2) (fun _ y _ => l.length - (intOf y).toNat)
      ⟨0, by omega, rfl, by simpa [Cod.nums] using hr, he1⟩ ?_
    rintro hh x _ w2 h4 h5 ⟨k, hk, rfl, hx, hm⟩ K hK
    have hsz := hm.size
    rw [(hv.ext hm).len Ty.ints, h5, h4, bin_lss]
    by_cases hlt : k < l.length
    · rw [decide_eq_true (by omega), Br_bool, if_pos rfl]
      obtain ⟨b, o, hc, _, hix⟩ := (hv.ext hm).index Ty.ints hi1 hs (k := .i64) hlt (by decide)
      rw [hix, load_cell Ty.int_agg (u := .int .i64 l[k]) (by rw [Nat.mul_one]; exact hc k _ (iv_get hlt))]
      have hn : I64 l[k] := hi _ (List.getElem_mem _)
      have hlen := Cod.num_length_small (n := l.length) (by omega)
      have hlen2 := Cod.nums_length (l := l.take k) fun n hn => hi n (List.mem_of_mem_take hn)
      have hlen3 := Cod.num_length hn
      rw [List.length_take] at hlen2
      refine callF_ret (one_ret hn w2) ?_
      rintro r2 w3 ⟨he2, hr2⟩
      have hs2 := he2.size
      refine app_bytes (Own.ext hx he2) (Sl.of_owns hr2) (by rw [List.length_append]; omega) (by omega) fun v' w4 h1 hm4 => ?_
      rw [bin_add, i64_wrap (by omega) (by omega)]
      refine hK _ _ _ ⟨k + 1, by omega, by simp, ?_, ?_⟩ (by simp [intOf]; omega)
      · have e : Cod.nums (l.take (k + 1)) = Cod.nums (l.take k) ++ Cod.num l[k] := by rw [List.take_succ_eq_append_getElem hlt, Cod.nums_append]; simp [Cod.nums]
        rw [e, ← List.append_assoc]; exact h1
      · refine (((Mod.of_ext hm).comp (.of_ext he2) (fun _ _ h => h) fun _ _ h => h : Mod (fun _ => False) w w3).comp hm4 (fun _ _ h => h) fun k hk h => ?_).ext fun _ _ h => h
        have := (Own.block hx h).1
        omega
    · rw [decide_eq_false (by omega), Br_bool, if_neg (by decide)]
      refine hR _ _ ⟨hm, ?_⟩
      rw [if_neg hl]
      rw [List.take_of_length_le (by omega)] at hx
      exact ⟨x, rfl, hx⟩
end Go.Proofs.Ytahplhcijlgelaa
