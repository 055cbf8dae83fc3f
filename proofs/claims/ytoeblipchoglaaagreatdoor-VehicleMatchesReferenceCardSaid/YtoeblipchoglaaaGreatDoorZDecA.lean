/- The walks of digest's Next and Sum and of the reference's. -/
import Derived.Test.YtoeblipchoglaaaGreatDoorZDigW
import Derived.Test.YtoeblipchoglaaaGreatDoorZBaseC
import Derived.Test.YtoeblipchoglaaaGreatDoorZShelf
import Derived.Lib.SmallJoins
import Derived.Lib.ItoaLen
namespace Go.Proofs.YtoeblipchoglaaaGreatDoor
set_option maxRecDepth 100000
open Sh Go.RowKit
def Tab (w : World) : Prop := Go.Lib.TabIs Tryz.prog w "internal/strconv.uint64pow10" .u64 Go.Lib.pow10Tab
theorem Tab.ext {w w' : World} (h : Tab w) (he : Ext w w') : Tab w' := by
  obtain ⟨g, hg⟩ := Option.isSome_iff_exists.1 (show (Tryz.prog.globalNamed "internal/strconv.uint64pow10").isSome = true by kernel_rfl)
  exact Go.Joins.tab_stays hg h he (Nat.le_refl _)
theorem Itoa_ret {n : Int} (h : I64 n) (w : World) (ht : Tab w) : Ret Tryz.prog 124 #[.int .i64 n] w fun r w' => r = .string ⟨(Go.Lib.itoa n).toArray⟩ ∧ Ext w w' :=
  (callF_calls (Tryz.strconv_Itoa n h.1 h.2 w ht)).mono fun r w' ⟨h1, k, os, h2⟩ => ⟨h1, by rw [h2]; exact Ext.grow k os⟩
theorem shr8_val (d : BitVec 64) {i : Nat} (hi : i < 8) {x : Int} (hx : x = 56 - 8 * (i : Int)) : IntKind.u8.wrap ((d.toNat : Int).fdiv (2 ^ min x.toNat IntKind.u64.bits)) = ((UInt8.ofBitVec ((d >>> (56 - 8 * i)).setWidth 8)).toNat : Int) := by
  have e : min x.toNat IntKind.u64.bits = 56 - 8 * i := by
    show min x.toNat 64 = _
    omega
  rw [e, Int.fdiv_eq_ediv_of_nonneg _ (Int.le_of_lt (Int.pow_pos (by decide))), u8w]
  show _ = (((d >>> (56 - 8 * i)).setWidth 8).toNat : Int)
  rw [BitVec.toNat_setWidth, BitVec.toNat_ushiftRight, Nat.shiftRight_eq_div_pow]
  simp
theorem b8_length (d : BitVec 64) : (Dig.bytes8 d).length = 8 := by simp [Dig.bytes8]
theorem b8_succ (d : BitVec 64) {i : Nat} (hi : i < 8) : (Dig.bytes8 d).take (i + 1) = (Dig.bytes8 d).take i ++ [UInt8.ofBitVec ((d >>> (56 - 8 * i)).setWidth 8)] := by
  have hl := b8_length d
  rw [List.take_succ_eq_append_getElem (by omega)]
  simp [Dig.bytes8]
theorem add_byte {base b : Nat} {x : BitVec 64} {c : UInt8} {w : World} {K : Value → World → Prop} {X : List PanicEntry → World → Prop} (hat : At w b (.cells #[u64v x] 61 (0, 0))) (hb : base ≤ b)
    (hk : ∀ r w1, At w1 b (.cells #[u64v (Dig.step x c)] 61 (0, 0)) → Mod (base ≤ ·) w w1 → Mod (fun k => k = b) w w1 → K r w1) :
    DoV Tryz.prog (Instr.buildSlice 26 1 #[(0, .int .u8 c.toNat)]) w (fun s w1 => CallV Tryz.prog (.func (.func 136) #[] #[.pointer (some ⟨b, 0, none⟩)]) #[s] w1 K X) X := by
  refine lit_bytes [c] rfl (by decide) (by decide) rfl fun v w1 x1 h1 _ => ?_
  rw [callV_func go36]
  have hlt := hat.lt
  have z1 := x1.size
  refine callF_ret (run1_ret [c] v b x w1 (Sl.of_owns h1) (hat.ext x1) fun k hk hkb => ?_) ?_
  · have := (Own.block h1 hk).1; omega
  · rintro _ w2 ⟨rfl, m2, h2⟩
    have hm : Mod (fun k => k = b) w w2 := (Mod.of_ext x1 : Mod (fun k => k = b) w w1).trans m2
    exact hk _ _ h2 (hm.mono fun k _ h => by omega) hm
theorem run_snoc (x : BitVec 64) (l : List UInt8) (c : UInt8) : Dig.run x (l ++ [c]) = Dig.step (Dig.run x l) c := by rw [Dig.run_append]; rfl
theorem next_ret {d : BitVec 64} {l : List Int} {v : Value} (hi : ∀ n ∈ l, I64 n) (w : World) (hv : Sl w 1 v l.length (iv l)) (ht : Tab w) :
    Ret Tryz.prog 99 #[u64v d, v] w fun r w' => r = u64v (Dig.next d l) ∧ Ext w w' := by
  refine ret_of (fun _ _ => sh_digest_Next_ok _ _) fun R hR => ?_
  unfold sh_digest_Next
  have hle := hv.le
  obtain ⟨ii, hii, _, his, _⟩ := Ty.info_parts Ty.int_info
  refine callF_ret (run_ret w) ?_
  rintro _ w1 ⟨b, hb, x1, hat, rfl⟩
  rw [ext2_0, ext2_1]
  refine loop1 (fun x w2 => ∃ k : Nat, k ≤ 8 ∧ x = .int .i64 (56 - 8 * (k : Int)) ∧ At w2 b (.cells #[u64v (Dig.run Dig.begin64 ((Dig.bytes8 d).take k))] 61 (0, 0)) ∧ Mod (w.heap.size ≤ ·) w w2) (fun x _ => (intOf x + 64).toNat)
    ⟨0, by omega, rfl, hat, .of_ext x1⟩ ?_
  rintro h _ w2 h7 ⟨k, hk, rfl, hat2, m2⟩ K hK
  rw [h7, bin_geq]
  refine Br_i (fun hb2 => ?_) fun hb2 => ?_
  · have hge := dec_t hb2
    rw [u64v, bin_shr (by omega), conv_int Ty.u64 Ty.u8, shr8_val d (i := k) (by omega) rfl]
    refine add_byte hat2 hb fun _ w3 h3 m3 _ => ?_
    rw [bin_sub, i64_wrap (by omega) (by omega)]
    refine hK _ _ ⟨k + 1, by omega, by congr 1; omega, ?_, m2.trans m3⟩ (by simp [intOf]; omega)
    rw [b8_succ d (by omega), run_snoc]; exact h3
  · have hlt := dec_f hb2
    have hk8 : k = 8 := by omega
    subst hk8
    rw [List.take_of_length_le (by rw [b8_length]; omega)] at hat2
    have hv2 := hv.ext m2.new
    rw [hv2.len Ty.ints]
    refine loop1 (fun x w3 => ∃ k : Nat, k ≤ l.length ∧ x = .int .i64 k ∧ At w3 b (.cells #[u64v (Dig.run Dig.begin64 (Dig.bytes8 d ++ Dig.texts (l.take k)))] 61 (0, 0)) ∧ Mod (w.heap.size ≤ ·) w w3) (fun x _ => l.length - (intOf x).toNat)
      ⟨0, by omega, rfl, by simpa [Dig.texts_nil] using hat2, m2⟩ ?_
    rintro h _ w3 h29 ⟨k, hk, rfl, hat3, m3⟩ K hK
    rw [h29, bin_lss]
    refine Br_i (fun hb2 => ?_) fun hb2 => ?_
    · have hlt := dec_t hb2
      have hlt : k < l.length := by omega
      obtain ⟨g, o, hc, hg, hix⟩ := (hv.ext m3.new).index Ty.ints hii his (k := .i64) hlt (by decide)
      rw [hix, load_cell Ty.int_agg (u := .int .i64 l[k]) (by rw [Nat.mul_one]; exact hc k _ (iv_get hlt))]
      refine callF_ret (Itoa_ret (hi _ (List.getElem_mem _)) w3 (ht.ext m3.new)) ?_
      rintro _ w4 ⟨rfl, x4⟩
      refine range_str Ty.str fun b2 w5 x5 hit hb2e _ => ?_
      have z3 := m3.size
      have z4 := x4.size
      have hblt := hat3.lt
      obtain ⟨s, hs⟩ : ∃ s, s = ByteArray.mk (Go.Lib.itoa l[k]).toArray := ⟨_, rfl⟩
      have hsz : s.size = (Go.Lib.itoa l[k]).length := by rw [hs]; simp [ByteArray.size]
      have hget : ∀ p (hp : p < s.size), s[p] = (Go.Lib.itoa l[k])[p]'(by omega) := fun p hp => by subst hs; rfl
      rw [← hs] at hit
      refine loop0 (fun w6 => ∃ p : Nat, p ≤ s.size ∧ At w6 b2 (.stringIter s p) ∧ At w6 b (.cells #[u64v (Dig.run Dig.begin64 (Dig.bytes8 d ++ Dig.texts (l.take k) ++ (Go.Lib.itoa l[k]).take p))] 61 (0, 0)) ∧ Mod (w.heap.size ≤ ·) w w6) (itLeft b2)
        ⟨0, by omega, hit, by simpa using (hat3.ext x4).ext x5, (m3.trans (.of_ext x4)).trans (.of_ext x5)⟩ ?_
      rintro h w6 ⟨p, hp, hit6, hat6, m6⟩ K2 hK2
      by_cases hpl : p < s.size
      · have hasc : (s[p]).toNat < 128 := by rw [hget p hpl]; exact Dig.itoa_ascii _ _ (List.getElem_mem _)
        refine next_str hit6 hpl hasc fun w7 m7 hit7 _ => ?_
        rw [ext3_0]
        refine br_t ?_
        rw [ext3_2, conv_int (by exact Ty.i32) Ty.u8, u8_nat, UInt8.ofNat_toNat]
        have hat7 := hat6.mod m7 (fun e => by omega)
        refine add_byte hat7 hb fun _ w8 h8 m8 m8' => ?_
        have hit8 := hit7.mod m8' (fun e => by omega)
        refine hK2 _ ⟨p + 1, by omega, hit8, ?_, (m6.trans (m7.mono fun k _ h => by omega)).trans m8⟩ (by rw [itLeft_at hit8, itLeft_at hit6]; omega)
        rw [List.take_succ_eq_append_getElem (by omega), ← List.append_assoc, run_snoc, ← hget p hpl]; exact h8
      · rw [next_end hit6 hpl, ext1_0]
        refine br_f ?_
        have hfull : (Go.Lib.itoa l[k]).take p = Go.Lib.itoa l[k] := List.take_of_length_le (by omega)
        rw [hfull] at hat6
        refine add_byte (c := 32) hat6 hb fun _ w8 h8 m8 _ => ?_
        rw [bin_add, i64_wrap (by omega) (by omega)]
        refine hK _ _ ⟨k + 1, by omega, by simp, ?_, m6.trans m8⟩ (by simp [intOf]; omega)
        rw [List.take_succ_eq_append_getElem hlt, Dig.texts_one, ← List.append_assoc, ← List.append_assoc, run_snoc]; exact h8
    · have hge := dec_f hb2
      rw [List.take_of_length_le (by omega)] at hat3
      rw [callV_func go37]
      refine callF_ret (run2_ret b _ w3 hat3) ?_
      rintro _ w4 ⟨rfl, rfl⟩
      exact hR _ _ ⟨rfl, m3.new⟩
theorem sum_int_ret {l : List Int} {v : Value} (hi : ∀ n ∈ l, I64 n) (w : World) (hv : Sl w 1 v l.length (iv l)) (ht : Tab w) :
    Ret Tryz.prog 78 #[v] w fun r w' => r = u64v (Dig.sum l) ∧ Ext w w' := by
  refine ret_of (fun _ _ => sh_digest_Sum_ok _) fun R hR => ?_
  unfold sh_digest_Sum
  have e : (Value.int IntKind.u64 14695981039346656037) = u64v Dig.begin64 := by
    have : (Dig.begin64.toNat : Int) = 14695981039346656037 := by decide
    rw [u64v, this]
  rw [e]
  refine callF_ret (next_ret (d := Dig.begin64) hi w hv ht) ?_
  rintro _ w1 ⟨rfl, x1⟩
  exact hR _ _ ⟨rfl, x1⟩
end Go.Proofs.YtoeblipchoglaaaGreatDoor
namespace Go.Proofs.YtoeblipchoglaaaGreatDoor
set_option maxRecDepth 100000
open Sh Go.RowKit
theorem neg_tmod10 (k : Nat) : (-(k : Int)).tmod 10 = -((k % 10 : Nat) : Int) := by rw [Int.neg_tmod]; rfl
theorem neg_tdiv10 (k : Nat) : (-(k : Int)).tdiv 10 = -((k / 10 : Nat) : Int) := by rw [Int.neg_tdiv]; rfl
theorem decimal_ret {n : Int} (h : I64 n) (w : World) : Ret Tryz.prog 116 #[.int .i64 n] w fun r w' => r = .string ⟨(Go.Lib.itoa n).toArray⟩ ∧ Ext w w' := by
  refine ret_of (fun _ _ => sh_landfallref05_Decimal_ok _) fun R hR => ?_
  unfold sh_landfallref05_Decimal
  have hI := h
  unfold I64 at hI
  rw [bin_eql]
  refine Br_i (fun hb => ?_) fun hb => ?_
  · have h0 := dec_t hb
    subst h0
    refine hR _ _ ⟨?_, Ext.refl _⟩
    have e : Go.Lib.itoa 0 = [48] := by unfold Go.Lib.itoa; rw [if_neg (by decide)]; exact Go.Lib.decDigits_one (by decide)
    rw [e]
  · have h0 := dec_f hb
    obtain ⟨i8, hi8, hz8, hs8, _⟩ := Ty.info_parts Ty.u8_info
    have hlen : (Dig.rdig n.natAbs).length ≤ 19 := Dig.rdig_length 19 _ (by omega)
    refine loop3 (fun x y _ w1 => ∃ (p : List UInt8) (k : Nat), k ≤ n.natAbs ∧ y = .int .i64 (if n < 0 then -(k : Int) else k) ∧ Dig.rdig n.natAbs = p ++ Dig.rdig k ∧ w1.ownsRow w.heap.size 5 1 x p.length (bv p) ∧ Mod (w.heap.size ≤ ·) w w1) (fun _ y _ _ => (intOf y).natAbs)
      ⟨[], n.natAbs, Nat.le_refl _, by congr 1; split <;> omega, rfl, Own.nil _ _ _ _, Mod.refl _ _⟩ ?_
    rintro hh x _ z w1 h3 h4 h5 ⟨p, k, hk, rfl, hp, hx, m1⟩ K hK
    have z1 := m1.size
    rw [h3, h4, bin_neq]
    refine Br_i (fun hb => ?_) fun hb => ?_
    · have hk0 : k ≠ 0 := by
        rintro rfl
        simp at hb
      rw [Dig.rdig_pos hk0] at hp
      have hpl : p.length ≤ 19 := by rw [hp] at hlen; simp at hlen; omega
      refine join2 (fun x y w2 => w2.ownsRow w.heap.size 5 1 x (p ++ [UInt8.ofNat (48 + k % 10)]).length (bv (p ++ [UInt8.ofNat (48 + k % 10)])) ∧ Mod (w.heap.size ≤ ·) w w2) ?_ fun K2 hK2 => ?_
      · rintro h2 x2 y2 w2 h3 h5 ⟨hx2, m2⟩
        have hq : (if n < 0 then -(k : Int) else (k : Int)).tdiv 10 = if n < 0 then -((k / 10 : Nat) : Int) else ((k / 10 : Nat) : Int) := by
          split
          · exact neg_tdiv10 k
          · rfl
        rw [bin_quo (by decide), hq, i64_wrap (by split <;> omega) (by split <;> omega), h3, h5]
        refine hK _ _ _ _ ⟨_, k / 10, by omega, rfl, by rw [hp]; simp, hx2, m2⟩ ?_
        simp only [intOf]
        split <;> omega
      · have hr : (if n < 0 then -(k : Int) else (k : Int)).tmod 10 = if n < 0 then -((k % 10 : Nat) : Int) else ((k % 10 : Nat) : Int) := by
          split
          · exact neg_tmod10 k
          · rfl
        rw [bin_rem (by decide), hr]
        refine join1 (fun x w2 => x = .int .i64 ((k % 10 : Nat) : Int) ∧ w2 = w1) ?_ fun K3 hK3 => ?_
        · rintro h2 _ w2 h5 ⟨rfl, hw⟩
          subst w2
          rw [h5, bin_add, i64_wrap (by omega) (by omega), conv_int Ty.int Ty.u8, show (48 : Int) + ((k % 10 : Nat) : Int) = ((48 + k % 10 : Nat) : Int) by omega, u8_nat]
          refine app_byte hx (by omega) z1 fun v' w2 h2 m2 => ?_
          exact hK2 _ _ _ ⟨h2, m1.trans m2⟩
        · rw [bin_lss]
          refine Br_i (fun hb => ?_) fun hb => ?_
          · have hneg := dec_t hb
            have hn : n < 0 := by
              refine Classical.byContradiction fun hn => ?_
              rw [if_neg hn] at hneg; omega
            rw [if_pos hn, un_neg, i64_wrap (by omega) (by omega)]
            exact hK3 _ _ ⟨by congr 1; omega, rfl⟩
          · have hnn := dec_f hb
            refine hK3 _ _ ⟨?_, rfl⟩
            congr 1
            by_cases hn : n < 0
            · rw [if_pos hn] at hnn ⊢; omega
            · rw [if_neg hn]
    · have hk0 : k = 0 := by
        refine Classical.byContradiction fun hk0 => ?_
        have hd := (by simpa using hb : (if n < 0 then -(k : Int) else (k : Int)) = 0)
        split at hd <;> omega
      subst hk0
      rw [Dig.rdig_zero, List.append_nil] at hp
      subst hp
      obtain ⟨q, hq⟩ : ∃ q, q = Dig.rdig n.natAbs ++ if n < 0 then [45] else [] := ⟨_, rfl⟩
      have hitoa := Dig.itoa_rdig h0
      rw [← hq] at hitoa
      have hql : q.length ≤ 20 := by rw [hq, List.length_append]; split <;> simp <;> omega
      refine join1 (fun x w2 => w2.ownsRow w.heap.size 5 1 x q.length (bv q) ∧ Mod (w.heap.size ≤ ·) w w2) ?_ fun K2 hK2 => ?_
      · rintro h2 x2 w2 h3 ⟨hx2, m2⟩
        have z2 := m2.size
        rw [h3, (Sl.of_owns hx2).len Ty.bytes, bin_sub, i64_wrap (by omega) (by omega)]
        refine loop2 (fun x y w3 => ∃ j : Nat, j ≤ q.length ∧ y = .int .i64 ((j : Int) - 1) ∧ w3.ownsRow w2.heap.size 5 1 x (q.drop j).reverse.length (bv (q.drop j).reverse) ∧ Mod (w2.heap.size ≤ ·) w2 w3) (fun _ y _ => (intOf y + 1).toNat)
          ⟨q.length, Nat.le_refl _, rfl, by rw [List.drop_of_length_le (Nat.le_refl _)]; exact Own.nil _ _ _ _, Mod.refl _ _⟩ ?_
        rintro h3 y2 _ w3 h6 h7 ⟨j, hj, rfl, hy, m3⟩ K4 hK4
        have z3 := m3.size
        rw [h6, h7, bin_geq]
        refine Br_i (fun hb => ?_) fun hb => ?_
        · have hge := dec_t hb
          obtain ⟨i, rfl⟩ : ∃ i, j = i + 1 := ⟨j - 1, by omega⟩
          have hil : i < q.length := by omega
          rw [show ((i + 1 : Nat) : Int) - 1 = (i : Int) by omega]
          obtain ⟨g, o, hc, hg, hix⟩ := ((Sl.of_owns hx2).ext m3.new).index Ty.bytes hi8 hs8 (k := .i64) hil (by decide)
          rw [hix, load_cell Ty.u8_agg (u := .int .u8 q[i].toNat) (by rw [Nat.mul_one]; exact hc i _ (bv_get hil))]
          have hdl : (q.drop (i + 1)).reverse.length ≤ 20 := by rw [List.length_reverse, List.length_drop]; omega
          refine app_byte hy (by omega) z3 fun v' w4 h4 m4 => ?_
          rw [bin_sub, i64_wrap (by omega) (by omega)]
          refine hK4 _ _ _ ⟨i, by omega, rfl, ?_, m3.trans m4⟩ (by simp [intOf])
          rw [List.drop_eq_getElem_cons hil, List.reverse_cons]; exact h4
        · have hlt := dec_f hb
          have : j = 0 := by omega
          subst this
          rw [str_conv (Sl.of_owns hy), List.drop_zero, ← hitoa]
          exact hR _ _ ⟨rfl, (m2.trans (m3.mono fun k _ h => by omega)).new⟩
      · rw [bin_lss]
        refine Br_i (fun hb => ?_) fun hb => ?_
        · have hn := dec_t hb
          refine app_byte (c := 45) hx (by omega) z1 fun v' w2 h2 m2 => ?_
          rw [if_pos hn] at hq
          exact hK2 _ _ ⟨by rw [hq]; exact h2, m1.trans m2⟩
        · have hn := dec_f hb
          rw [if_neg hn, List.append_nil] at hq
          exact hK2 _ _ ⟨by rw [hq]; exact hx, m1⟩
theorem ref_bytes_ret {d : BitVec 64} {l : List Int} {v : Value} (hi : ∀ n ∈ l, I64 n) (hll : l.length ≤ 1000000000) (w : World) (hv : Sl w 1 v l.length (iv l)) :
    Ret Tryz.prog 91 #[u64v d, v] w fun r w' => Ext w w' ∧ w'.ownsRow w.heap.size 5 1 r (Dig.bytes8 d ++ Dig.texts l).length (bv (Dig.bytes8 d ++ Dig.texts l)) := by
  refine ret_of (fun _ _ => sh_landfallref05_Bytes_ok _ _) fun R hR => ?_
  unfold sh_landfallref05_Bytes
  obtain ⟨i8, hi8, hz8, hs8, hb8⟩ := Ty.info_parts Ty.u8_info
  obtain ⟨ii, hii, _, his, _⟩ := Ty.info_parts Ty.int_info
  have hl8 := b8_length d
  refine loop2 (fun x y w1 => ∃ k : Nat, k ≤ 8 ∧ y = .int .i64 k ∧ w1.ownsRow w.heap.size 5 1 x ((Dig.bytes8 d).take k).length (bv ((Dig.bytes8 d).take k)) ∧ Mod (w.heap.size ≤ ·) w w1) (fun _ y _ => 8 - (intOf y).toNat) ⟨0, by omega, rfl, Own.nil _ _ _ _, Mod.refl _ _⟩ ?_
  rintro h x _ w1 h5 h6 ⟨k, hk, rfl, hx, hm⟩ K hK
  have hz := hm.size
  rw [h5, h6, bin_lss]
  refine Br_i (fun hb => ?_) fun hb => ?_
  · have hlt := dec_t hb
    rw [bin_mul, i64_wrap (by omega) (by omega), bin_sub, i64_wrap (by omega) (by omega), u64v, bin_shr (by omega), conv_int Ty.u64 Ty.u8, shr8_val d (i := k) (by omega) rfl]
    refine app_byte hx (by simp; omega) (by omega) fun v' w2 h1 hm2 => ?_
    rw [bin_add, i64_wrap (by omega) (by omega)]
    refine hK _ _ _ ⟨k + 1, by omega, by simp, ?_, hm.trans hm2⟩ (by simp [intOf]; omega)
    rw [b8_succ d (by omega)]; exact h1
  · have hge := dec_f hb
    rw [List.take_of_length_le (by omega)] at hx
    refine loop2 (fun x y w2 => ∃ k : Nat, k ≤ l.length ∧ y = .int .i64 k ∧ (Dig.bytes8 d ++ Dig.texts (l.take k)).length ≤ 8 + 22 * k ∧ w2.ownsRow w.heap.size 5 1 x (Dig.bytes8 d ++ Dig.texts (l.take k)).length (bv (Dig.bytes8 d ++ Dig.texts (l.take k))) ∧ Mod (w.heap.size ≤ ·) w w2) (fun _ y _ => l.length - (intOf y).toNat)
      ⟨0, by omega, rfl, by simp [Dig.texts_nil, hl8], by simpa [Dig.texts_nil] using hx, hm⟩ ?_
    rintro h x _ w2 h5 h7 ⟨k, hk, rfl, hlk, hx, hm⟩ K hK
    have hz := hm.size
    have hv2 := hv.ext hm.new
    rw [h5, h7, hv2.len Ty.ints, bin_lss]
    refine Br_i (fun hb => ?_) fun hb => ?_
    · have hlt := dec_t hb
      have hlt : k < l.length := by omega
      obtain ⟨g, o, hc, hg, hix⟩ := hv2.index Ty.ints hii his (k := .i64) hlt (by decide)
      have hI := hi _ (List.getElem_mem hlt)
      rw [hix, load_cell Ty.int_agg (u := .int .i64 l[k]) (by rw [Nat.mul_one]; exact hc k _ (iv_get hlt))]
      refine callF_ret (decimal_ret hI w2) ?_
      rintro _ w3 ⟨rfl, x3⟩
      have z3 := x3.size
      have hil := Go.Lib.itoa_length_le l[k] hI.1 hI.2
      have hsz : (ByteArray.mk (Go.Lib.itoa l[k]).toArray).size = (Go.Lib.itoa l[k]).length := by simp [ByteArray.size]
      refine app_string Ty.bytes Ty.str hi8 hz8 hs8 hb8 (Own.ext hx x3) (by rw [hsz]; omega) (by omega) fun v4 w4 h4 m4 => ?_
      have z4 := m4.size
      have h4' : w4.ownsRow w.heap.size 5 1 v4 (Dig.bytes8 d ++ Dig.texts (l.take k) ++ Go.Lib.itoa l[k]).length (bv (Dig.bytes8 d ++ Dig.texts (l.take k) ++ Go.Lib.itoa l[k])) := by
        have e : bv (Dig.bytes8 d ++ Dig.texts (l.take k)) ++ Go.Lib.strCells (ByteArray.mk (Go.Lib.itoa l[k]).toArray) = bv (Dig.bytes8 d ++ Dig.texts (l.take k) ++ Go.Lib.itoa l[k]) := by simp [bv, Go.Lib.strCells]
        rw [e, hsz, ← List.length_append] at h4; exact h4
      have hl4 : (Dig.bytes8 d ++ Dig.texts (l.take k) ++ Go.Lib.itoa l[k]).length ≤ 8 + 22 * k + 21 := by rw [List.length_append]; omega
      refine app_byte (c := 32) h4' (by omega) (by omega) fun v5 w5 h5 m5 => ?_
      rw [bin_add, i64_wrap (by omega) (by omega)]
      have ee : Dig.bytes8 d ++ Dig.texts (l.take (k + 1)) = Dig.bytes8 d ++ Dig.texts (l.take k) ++ Go.Lib.itoa l[k] ++ [32] := by rw [List.take_succ_eq_append_getElem hlt, Dig.texts_one]; simp
      refine hK _ _ _ ⟨k + 1, by omega, by simp, ?_, by rw [ee]; exact h5, ?_⟩ (by simp [intOf]; omega)
      · rw [ee, List.length_append]; simp only [List.length_singleton]; omega
      · exact ((hm.trans (.of_ext x3)).trans (m4.mono fun k _ h => (Own.block hx h).1)).trans m5
    · have hge := dec_f hb
      rw [List.take_of_length_le (by omega)] at hx
      exact hR _ _ ⟨hm.new, hx⟩
theorem ref_next_ret {d : BitVec 64} {l : List Int} {v : Value} (hi : ∀ n ∈ l, I64 n) (hll : l.length ≤ 1000000000) (w : World) (hv : Sl w 1 v l.length (iv l)) :
    Ret Tryz.prog 66 #[u64v d, v] w fun r w' => r = u64v (Dig.next d l) ∧ Ext w w' := by
  refine ret_of (fun _ _ => sh_landfallref05_Next_ok _ _) fun R hR => ?_
  unfold sh_landfallref05_Next
  refine callF_ret (ref_bytes_ret hi hll w hv) ?_
  rintro r w1 ⟨x1, hr⟩
  have hle := (Sl.of_owns hr).le
  rw [str_conv (Sl.of_owns hr)]
  refine callF_same (refText_ret _ (show (Dig.bytes8 d ++ Dig.texts l).toArray.size ≤ _ by simpa using hle) w1) ?_
  exact hR _ _ ⟨by simp [Dig.next], x1⟩
theorem ref_sum_ret {l : List Int} {v : Value} (hi : ∀ n ∈ l, I64 n) (hll : l.length ≤ 1000000000) (w : World) (hv : Sl w 1 v l.length (iv l)) :
    Ret Tryz.prog 68 #[v] w fun r w' => r = u64v (Dig.sum l) ∧ Ext w w' := by
  refine ret_of (fun _ _ => sh_landfallref05_Sum_ok _) fun R hR => ?_
  unfold sh_landfallref05_Sum
  refine callF_same (refText_ret _ (by decide) w) ?_
  have e : Dig.text (ByteArray.mk #[]).data.toList = Dig.begin64 := rfl
  rw [e]
  refine callF_ret (ref_next_ret hi hll w hv) ?_
  rintro _ w1 ⟨rfl, x1⟩
  exact hR _ _ ⟨rfl, x1⟩
end Go.Proofs.YtoeblipchoglaaaGreatDoor
