/- The walks of digest's Next and Sum and of the reference's. -/
import Derived.Test.YtoeblipchoglaaaDoorZDigW
import Derived.Test.YtoeblipchoglaaaDoorZBaseC
import Derived.Test.YtoeblipchoglaaaDoorZShelf
import Derived.Lib.SmallJoins
import Derived.Lib.ItoaLen
set_option linter.unusedVariables false
set_option linter.unusedSimpArgs false
namespace Go.Proofs.YtoeblipchoglaaaDoor
set_option maxRecDepth 100000
open Sh Go.RowKit
def Tab (w : World) : Prop := Go.Lib.TabIs Tryd.prog w "internal/strconv.uint64pow10" .u64 Go.Lib.pow10Tab
theorem Tab.ext {w w' : World} (h : Tab w) (he : Ext w w') : Tab w' := by
  obtain ⟨g, hg⟩ := Option.isSome_iff_exists.1 (show (Tryd.prog.globalNamed "internal/strconv.uint64pow10").isSome = true by kernel_rfl)
  exact Go.Joins.tab_stays hg h he (Nat.le_refl _)
theorem Itoa_ret {n : Int} (h : I64 n) (w : World) (ht : Tab w) : Ret Tryd.prog 71 #[.int .i64 n] w fun r w' => r = .string ⟨(Go.Lib.itoa n).toArray⟩ ∧ Ext w w' :=
  (callF_calls (Tryd.strconv_Itoa n h.1 h.2 w ht)).mono fun r w' ⟨h1, k, os, h2⟩ => ⟨h1, by rw [h2]; exact Ext.grow k os⟩
theorem shr8_val (d : BitVec 64) {i : Nat} (hi : i < 8) {x : Int} (hx : x = 56 - 8 * (i : Int)) : IntKind.u8.wrap ((d.toNat : Int).fdiv (2 ^ min x.toNat IntKind.u64.bits)) = ((UInt8.ofBitVec ((d >>> (56 - 8 * i)).setWidth 8)).toNat : Int) := by
  have e : min x.toNat IntKind.u64.bits = 56 - 8 * i := by
    show min x.toNat 64 = _
    omega
  rw [e, Int.fdiv_eq_ediv_of_nonneg _ (Int.le_of_lt (Int.pow_pos (by decide))), u8w]
  show _ = (((d >>> (56 - 8 * i)).setWidth 8).toNat : Int)
  rw [BitVec.toNat_setWidth, BitVec.toNat_ushiftRight, Nat.shiftRight_eq_div_pow]
  simp
theorem b8_length (d : BitVec 64) : (Dig.bytes8 d).length = 8 := by simp [Dig.bytes8]
theorem b8_succ (d : BitVec 64) {i : Nat} (hi : i < 8) : (Dig.bytes8 d).take (i + 1) = (Dig.bytes8 d).take i ++ [UInt8.ofBitVec ((d >>> (56 - 8 * i)).setWidth 8)] := by
  have hl := b8_length d
  rw [List.take_succ_eq_append_getElem (by omega)]
  simp [Dig.bytes8]
theorem add_byte {base b : Nat} {x : BitVec 64} {c : UInt8} {w : World} {K : Value → World → Prop} {X : List PanicEntry → World → Prop} (hat : At w b (.cells #[u64v x] 55 (0, 0))) (hb : base ≤ b)
    (hk : ∀ r w1, At w1 b (.cells #[u64v (Dig.step x c)] 55 (0, 0)) → Mod (base ≤ ·) w w1 → Mod (fun k => k = b) w w1 → K r w1) :
    DoV Tryd.prog (Instr.buildSlice 26 1 #[(0, .int .u8 c.toNat)]) w (fun s w1 => CallV Tryd.prog (.func (.func 81) #[] #[.pointer (some ⟨b, 0, none⟩)]) #[s] w1 K X) X := by
  refine lit_bytes [c] rfl (by decide) (by decide) rfl fun v w1 x1 h1 _ => ?_
  rw [callV_func go36]
  have hlt := hat.lt
  have z1 := x1.size
  refine callF_ret (run1_ret [c] v b x w1 (Sl.of_owns h1) (hat.ext x1) fun k hk hkb => ?_) ?_
  · have := (Own.block h1 hk).1; omega
  · rintro _ w2 ⟨rfl, m2, h2⟩
    have hm : Mod (fun k => k = b) w w2 := (Mod.of_ext x1 : Mod (fun k => k = b) w w1).trans m2
    exact hk _ _ h2 (hm.mono fun k _ h => by omega) hm
theorem run_snoc (x : BitVec 64) (l : List UInt8) (c : UInt8) : Dig.run x (l ++ [c]) = Dig.step (Dig.run x l) c := by rw [Dig.run_append]; rfl
theorem next_ret {d : BitVec 64} {l : List Int} {v : Value} (hi : ∀ n ∈ l, I64 n) (w : World) (hv : Sl w 1 v l.length (iv l)) (ht : Tab w) :
    Ret Tryd.prog 55 #[u64v d, v] w fun r w' => r = u64v (Dig.next d l) ∧ Ext w w' := by
  refine ret_of (fun _ _ => sh_digest_Next_ok _ _) fun R hR => ?_
  unfold sh_digest_Next
  have hle := hv.le
  obtain ⟨ii, hii, _, his, _⟩ := Ty.info_parts Ty.int_info
  refine callF_ret (run_ret w) ?_
  rintro _ w1 ⟨b, hb, x1, hat, rfl⟩
  rw [ext2_0, ext2_1]
  refine loop1 (fun x w2 => ∃ k : Nat, k ≤ 8 ∧ x = .int .i64 (56 - 8 * (k : Int)) ∧ At w2 b (.cells #[u64v (Dig.run Dig.begin64 ((Dig.bytes8 d).take k))] 55 (0, 0)) ∧ Mod (w.heap.size ≤ ·) w w2) (fun x _ => (intOf x + 64).toNat)
    ⟨0, by omega, rfl, hat, .of_ext x1⟩ ?_
  rintro h _ w2 h7 ⟨k, hk, rfl, hat2, m2⟩ K hK
  rw [h7, bin_geq]
  refine Br_i (fun hb2 => ?_) fun hb2 => ?_
  · have hge := dec_t hb2
    rw [u64v, bin_shr (by omega), conv_int Ty.u64 Ty.u8, shr8_val d (i := k) (by omega) rfl]
    refine add_byte hat2 hb fun _ w3 h3 m3 _ => ?_
    rw [bin_sub, i64_wrap (by omega) (by omega)]
    refine hK _ _ ⟨k + 1, by omega, by congr 1; omega, ?_, m2.trans m3⟩ (by simp [intOf]; omega)
    rw [b8_succ d (by omega), run_snoc]; exact h3
  · have hlt := dec_f hb2
    have hk8 : k = 8 := by omega
    subst hk8
    rw [List.take_of_length_le (by rw [b8_length]; omega)] at hat2
    have hv2 := hv.ext m2.new
    rw [hv2.len Ty.ints]
    refine loop1 (fun x w3 => ∃ k : Nat, k ≤ l.length ∧ x = .int .i64 k ∧ At w3 b (.cells #[u64v (Dig.run Dig.begin64 (Dig.bytes8 d ++ Dig.texts (l.take k)))] 55 (0, 0)) ∧ Mod (w.heap.size ≤ ·) w w3) (fun x _ => l.length - (intOf x).toNat)
      ⟨0, by omega, rfl, by simpa [Dig.texts_nil] using hat2, m2⟩ ?_
    rintro h _ w3 h29 ⟨k, hk, rfl, hat3, m3⟩ K hK
    rw [h29, bin_lss]
    refine Br_i (fun hb2 => ?_) fun hb2 => ?_
    · have hlt := dec_t hb2
      have hlt : k < l.length := by omega
      obtain ⟨g, o, hc, hg, hix⟩ := (hv.ext m3.new).index Ty.ints hii his (k := .i64) hlt (by decide)
      rw [hix, load_cell Ty.int_agg (u := .int .i64 l[k]) (by rw [Nat.mul_one]; exact hc k _ (iv_get hlt))]
      refine callF_ret (Itoa_ret (hi _ (List.getElem_mem _)) w3 (ht.ext m3.new)) ?_
      rintro _ w4 ⟨rfl, x4⟩
      refine range_str Ty.str fun b2 w5 x5 hit hb2e _ => ?_
      have z3 := m3.size
      have z4 := x4.size
      have hblt := hat3.lt
      obtain ⟨s, hs⟩ : ∃ s, s = ByteArray.mk (Go.Lib.itoa l[k]).toArray := ⟨_, rfl⟩
      have hsz : s.size = (Go.Lib.itoa l[k]).length := by rw [hs]; simp [ByteArray.size]
      have hget : ∀ p (hp : p < s.size), s[p] = (Go.Lib.itoa l[k])[p]'(by omega) := fun p hp => by subst hs; rfl
      rw [← hs] at hit
      refine loop0 (fun w6 => ∃ p : Nat, p ≤ s.size ∧ At w6 b2 (.stringIter s p) ∧ At w6 b (.cells #[u64v (Dig.run Dig.begin64 (Dig.bytes8 d ++ Dig.texts (l.take k) ++ (Go.Lib.itoa l[k]).take p))] 55 (0, 0)) ∧ Mod (w.heap.size ≤ ·) w w6) (itLeft b2)
        ⟨0, by omega, hit, by simpa using (hat3.ext x4).ext x5, (m3.trans (.of_ext x4)).trans (.of_ext x5)⟩ ?_
      rintro h w6 ⟨p, hp, hit6, hat6, m6⟩ K2 hK2
      by_cases hpl : p < s.size
      · have hasc : (s[p]).toNat < 128 := by rw [hget p hpl]; exact Dig.itoa_ascii _ _ (List.getElem_mem _)
        refine next_str hit6 hpl hasc fun w7 m7 hit7 _ => ?_
        rw [ext3_0]
        refine br_t ?_
        rw [ext3_2, conv_int (by exact Ty.i32) Ty.u8, u8_nat, UInt8.ofNat_toNat]
        have hat7 := hat6.mod m7 (fun e => by omega)
        refine add_byte hat7 hb fun _ w8 h8 m8 m8' => ?_
        have hit8 := hit7.mod m8' (fun e => by omega)
        refine hK2 _ ⟨p + 1, by omega, hit8, ?_, (m6.trans (m7.mono fun k _ h => by omega)).trans m8⟩ (by rw [itLeft_at hit8, itLeft_at hit6]; omega)
        rw [List.take_succ_eq_append_getElem (by omega), ← List.append_assoc, run_snoc, ← hget p hpl]; exact h8
      · rw [next_end hit6 hpl, ext1_0]
        refine br_f ?_
        have hfull : (Go.Lib.itoa l[k]).take p = Go.Lib.itoa l[k] := List.take_of_length_le (by omega)
        rw [hfull] at hat6
        refine add_byte (c := 32) hat6 hb fun _ w8 h8 m8 _ => ?_
        rw [bin_add, i64_wrap (by omega) (by omega)]
        refine hK _ _ ⟨k + 1, by omega, by simp, ?_, m6.trans m8⟩ (by simp [intOf]; omega)
        rw [List.take_succ_eq_append_getElem hlt, Dig.texts_one, ← List.append_assoc, ← List.append_assoc, run_snoc]; exact h8
    · have hge := dec_f hb2
      rw [List.take_of_length_le (by omega)] at hat3
      rw [callV_func go37]
      refine callF_ret (run2_ret b _ w3 hat3) ?_
      rintro _ w4 ⟨rfl, rfl⟩
      exact hR _ _ ⟨rfl, m3.new⟩
theorem sum_int_ret {l : List Int} {v : Value} (hi : ∀ n ∈ l, I64 n) (w : World) (hv : Sl w 1 v l.length (iv l)) (ht : Tab w) :
    Ret Tryd.prog 46 #[v] w fun r w' => r = u64v (Dig.sum l) ∧ Ext w w' := by
  refine ret_of (fun _ _ => sh_digest_Sum_ok _) fun R hR => ?_
  unfold sh_digest_Sum
  have e : (Value.int IntKind.u64 14695981039346656037) = u64v Dig.begin64 := by
    have : (Dig.begin64.toNat : Int) = 14695981039346656037 := by decide
    rw [u64v, this]
  rw [e]
  refine callF_ret (next_ret (d := Dig.begin64) hi w hv ht) ?_
  rintro _ w1 ⟨rfl, x1⟩
  exact hR _ _ ⟨rfl, x1⟩
end Go.Proofs.YtoeblipchoglaaaDoor
namespace Go.Proofs.YtoeblipchoglaaaDoor
set_option maxRecDepth 100000
open Sh Go.RowKit
end Go.Proofs.YtoeblipchoglaaaDoor
