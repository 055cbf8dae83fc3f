/- The walks of the codec's reader and of its reference's. -/
import Derived.Test.YtahplhcijlgelaaCodW
namespace Go.Proofs.Ytahplhcijlgelaa
set_option maxRecDepth 100000
open Sh Go.RowKit
/-- The value with which a reader panics. -/
def brokenV : Value := .iface 104 (.agg #[])
def At1 (w : World) (b : Nat) (v : Value) (t : TypeId) : Prop := At w b (.cells #[v] t (0, 0))
theorem and127 : ∀ x : Fin 256, IntKind.u8.wrap (BitVec.ofInt IntKind.u8.bits (x.val : Int) &&& BitVec.ofInt IntKind.u8.bits 127).toNat = ((x.val % 128 : Nat) : Int) := by decide +kernel
theorem byte_and (c : UInt8) : IntKind.u8.wrap (BitVec.ofInt IntKind.u8.bits (c.toNat : Int) &&& BitVec.ofInt IntKind.u8.bits 127).toNat = ((c.toNat % 128 : Nat) : Int) := and127 ⟨c.toNat, c.toBitVec.isLt⟩
theorem shift_val {c i : Nat} (hi : i ≤ 9) (hc : c < 128) (h9 : i = 9 → c ≤ 1) : IntKind.u64.wrap (IntKind.u64.wrap (c : Int) * 2 ^ min (7 * (i : Int)).toNat IntKind.u64.bits) = ((c * 2 ^ (7 * i) : Nat) : Int) := by
  have e : min (7 * (i : Int)).toNat IntKind.u64.bits = 7 * i := by
    show min (7 * (i : Int)).toNat 64 = 7 * i
    omega
  have hlt : c * 2 ^ (7 * i) < 18446744073709551616 := by
    by_cases h : i = 9
    · have := h9 h
      subst h
      have : c * 2 ^ (7 * 9) ≤ 1 * 2 ^ (7 * 9) := Nat.mul_le_mul this (Nat.le_refl _)
      omega
    · have h56 : 2 ^ (7 * i) ≤ 2 ^ 56 := Nat.pow_le_pow_right (by omega) (by omega)
      have : c * 2 ^ (7 * i) ≤ 127 * 2 ^ 56 := Nat.mul_le_mul (by omega) h56
      omega
  have hc' : (c : Int) % 18446744073709551616 = c := by omega
  have this : (c : Int) * 2 ^ (7 * i) = ((c * 2 ^ (7 * i) : Nat) : Int) := by simp
  rw [e, u64w c, hc', this, u64w, Int.emod_eq_of_lt (by omega) (by omega)]
theorem or_val {u c i : Nat} (hu : u < 2 ^ (7 * i)) (hlt : u + c * 2 ^ (7 * i) < 18446744073709551616) : IntKind.u64.wrap (BitVec.ofInt IntKind.u64.bits (u : Int) ||| BitVec.ofInt IntKind.u64.bits ((c * 2 ^ (7 * i) : Nat) : Int)).toNat = ((u + c * 2 ^ (7 * i) : Nat) : Int) := by
  show IntKind.u64.wrap ((BitVec.ofInt 64 (u : Int) ||| BitVec.ofInt 64 ((c * 2 ^ (7 * i) : Nat) : Int) : BitVec 64).toNat : Int) = _
  rw [ofInt64, ofInt64, BitVec.toNat_or, BitVec.toNat_ofNat, BitVec.toNat_ofNat, Nat.mod_eq_of_lt (by omega), Nat.mod_eq_of_lt (by omega), u64w, Nat.or_comm, Nat.mul_comm c, ← Nat.two_pow_add_eq_or_of_lt hu]
  rw [Nat.mul_comm c] at hlt
  omega
theorem i64_wrap_bv {x : BitVec 64} {n : Int} (h : (x.toNat : Int) = n % 18446744073709551616) (hn : I64 n) : IntKind.i64.wrap (x.toNat : Int) = n := by
  unfold I64 at hn
  have hx := x.isLt
  simp only [IntKind.wrap, IntKind.signed, IntKind.bits, Bool.true_and]
  rw [h]
  simp only [ge_iff_le, decide_eq_true_eq, show (2 : Int) ^ 64 = 18446744073709551616 from rfl, show (2 : Int) ^ (64 - 1) = 9223372036854775808 from rfl]
  split <;> omega
theorem zag_val {u : Nat} (h : u < 18446744073709551616) :
    IntKind.i64.wrap (BitVec.ofInt IntKind.i64.bits (IntKind.i64.wrap ((u : Int).fdiv (2 ^ min (1 : Int).toNat IntKind.u64.bits))) ^^^
      BitVec.ofInt IntKind.i64.bits (IntKind.i64.wrap (-IntKind.i64.wrap (IntKind.u64.wrap (BitVec.ofInt IntKind.u64.bits (u : Int) &&& BitVec.ofInt IntKind.u64.bits 1).toNat)))).toNat = Cod.zag u := by
  have e1 : (2 : Int) ^ min (1 : Int).toNat IntKind.u64.bits = 2 := rfl
  have e2 : IntKind.u64.wrap (BitVec.ofInt IntKind.u64.bits (u : Int) &&& BitVec.ofInt IntKind.u64.bits 1).toNat = ((u % 2 : Nat) : Int) := by
    show IntKind.u64.wrap ((BitVec.ofInt 64 (u : Int) &&& 1#64 : BitVec 64).toNat : Int) = _
    rw [ofInt64, BitVec.toNat_and, BitVec.toNat_ofNat, Nat.mod_eq_of_lt (by omega)]
    rw [show (1#64).toNat = 1 from rfl, Nat.and_one_is_mod, u64w]; omega
  rw [e1, e2, Int.fdiv_eq_ediv_of_nonneg _ (by omega)]
  have e3 : IntKind.i64.wrap ((u : Int) / 2) = ((u / 2 : Nat) : Int) := by rw [i64_wrap (by omega) (by omega)]; omega
  rw [e3, i64_wrap (x := ((u % 2 : Nat) : Int)) (by omega) (by omega)]
  have hin := Cod.zag_in h
  show IntKind.i64.wrap ((BitVec.ofInt 64 ((u / 2 : Nat) : Int) ^^^ BitVec.ofInt 64 (IntKind.i64.wrap (-((u % 2 : Nat) : Int))) : BitVec 64).toNat : Int) = _
  refine i64_wrap_bv ?_ hin
  rw [ofInt64]
  by_cases h2 : u % 2 = 0
  · rw [h2]
    rw [show BitVec.ofInt 64 (IntKind.i64.wrap (-((0 : Nat) : Int))) = 0#64 from by decide, BitVec.xor_zero, BitVec.toNat_ofNat]
    unfold Cod.zag; rw [if_pos h2]; omega
  · rw [show u % 2 = 1 by omega]
    rw [show BitVec.ofInt 64 (IntKind.i64.wrap (-((1 : Nat) : Int))) = BitVec.allOnes 64 from by decide, BitVec.xor_allOnes, BitVec.toNat_not, BitVec.toNat_ofNat]
    unfold Cod.zag; rw [if_neg h2]; omega

/-- What a reader's next gives. -/
def NextQ (b : Nat) (v : Value) (l : List UInt8) (w : World) (e : Ending) (w' : World) : Prop :=
  match Cod.next l with
  | none => e = .panicked [{ v := brokenV, recovered := false }] ∧ w' = w
  | some (n, k) => e = .returned (.int .i64 n) ∧ Mod (· = b) w w' ∧ w'.heap.size = w.heap.size ∧ ∃ v', At1 w' b v' 100 ∧ Sl w' 1 v' (l.drop k).length (bv (l.drop k)) ∧ ∀ g, v'.ownBlock = some g → v.ownBlock = some g
theorem rd_cons {i u : Nat} {c : UInt8} {b : List UInt8} : Cod.rd i u (c :: b) = if (i = 9 ∧ 1 < c.toNat) ∨ 9 < i then none
    else if 127 < c.toNat then Cod.rd (i + 1) (u + c.toNat % 128 * 2 ^ (7 * i)) b
    else if c.toNat = 0 ∧ 0 < i then none
    else some (u + c.toNat % 128 * 2 ^ (7 * i), i + 1) := rfl
theorem acc_lt {u c i : Nat} (hu : u < 2 ^ (7 * i)) (hi : i ≤ 9) (hc : c < 128) (h9 : i = 9 → c ≤ 1) : u + c * 2 ^ (7 * i) < 18446744073709551616 := by
  by_cases h : i = 9
  · have := h9 h
    subst h
    have : c * 2 ^ (7 * 9) ≤ 1 * 2 ^ (7 * 9) := Nat.mul_le_mul this (Nat.le_refl _)
    omega
  · have h56 : 2 ^ (7 * i) ≤ 2 ^ 56 := Nat.pow_le_pow_right (by omega) (by omega)
    have : c * 2 ^ (7 * i) ≤ 127 * 2 ^ 56 := Nat.mul_le_mul (by omega) h56
    omega
theorem acc_lt' {u c i : Nat} (hu : u < 2 ^ (7 * i)) (hc : c < 128) : u + c * 2 ^ (7 * i) < 2 ^ (7 * (i + 1)) := by
  have hp : 2 ^ (7 * (i + 1)) = 128 * 2 ^ (7 * i) := by rw [show 7 * (i + 1) = 7 * i + 7 by omega, Nat.pow_add]; omega
  have : c * 2 ^ (7 * i) ≤ 127 * 2 ^ (7 * i) := Nat.mul_le_mul (by omega) (Nat.le_refl _)
  omega
theorem next_ret {b : Nat} {v : Value} {l : List UInt8} (w : World) (hb : At1 w b v 100) (hv : Sl w 1 v l.length (bv l)) (hoff : l ≠ [] → Off (· = b) v) :
    Calls Try.prog 54 #[.pointer (some ⟨b, 0, none⟩)] w (NextQ b v l w) := by
  refine sh_codec_reader_next_ok _ ?_
  unfold sh_codec_reader_next
  unfold At1 at hb
  obtain ⟨i8, hi8, _, hs8, _⟩ := Ty.info_parts Ty.u8_info
  have hle := hv.le
  rw [nil_ptr, DoV_ok (Ty.reader_b w b)]
  refine load_i Ty.bytes_agg hb (u := v) rfl ?_
  rw [hv.len Ty.bytes]
  refine loop3 (fun x y z w1 => ∃ (u i : Nat), y = .int .u64 u ∧ z = .int .i64 i ∧ i ≤ l.length ∧ i ≤ 9 ∧ u < 2 ^ (7 * i) ∧ w1 = w ∧ Cod.rd i u (l.drop i) = Cod.rd 0 0 l) (fun _ _ z _ => l.length - (intOf z).toNat)
    ⟨0, 0, rfl, rfl, by omega, by omega, by simp, rfl, by simp⟩ ?_
  rintro h x _ _ w1 _ h3 h11 ⟨u, i, rfl, rfl, hil, hi9, hu, hw, hrd⟩ K hK
  subst hw
  rw [h11, bin_lss]
  by_cases hlt : i < l.length
  · rw [decide_eq_true (by omega), Br_bool, if_pos rfl]
    obtain ⟨g, o, hc, _, hix⟩ := hv.index Ty.bytes hi8 hs8 (k := .i64) hlt (by decide)
    rw [hix, load_cell Ty.u8_agg (u := .int .u8 l[i].toNat) (by rw [Nat.mul_one]; exact hc i _ (bv_get hlt))]
    rw [List.drop_eq_getElem_cons hlt, rd_cons] at hrd
    generalize l[i] = c at hrd
    have hc256 : c.toNat < 256 := c.toBitVec.isLt
    refine join0 (fun w' => w' = w1 ∧ ¬ ((i = 9 ∧ 1 < c.toNat) ∨ 9 < i)) ?_ fun K9 hK9 => ?_
    · rintro _ w2 ⟨hw2, hcn⟩
      subst w2
      rw [if_neg hcn] at hrd
      have hcn9 : i = 9 → c.toNat ≤ 1 := fun h => by omega
      have hcm9 : i = 9 → c.toNat % 128 ≤ 1 := fun h => by have := hcn9 h; omega
      rw [bin_and, byte_and, conv_int Ty.u8 Ty.u64, bin_mul, i64_wrap (by omega) (by omega), bin_shl (by omega), shift_val hi9 (by omega) hcm9, h3, bin_or, or_val hu (acc_lt hu hi9 (by omega) hcm9), bin_gtr]
      by_cases hbig : 127 < c.toNat
      · rw [if_pos hbig] at hrd
        rw [decide_eq_true (by omega), Br_bool, if_pos rfl, bin_add, i64_wrap (by omega) (by omega)]
        exact hK _ _ _ _ ⟨_, i + 1, rfl, by simp, by omega, by omega, acc_lt' hu (by omega), rfl, hrd⟩ (by simp [intOf]; omega)
      · rw [if_neg hbig] at hrd
        rw [decide_eq_false (by omega), Br_bool, if_neg (by decide)]
        refine join0 (fun w'' => w'' = w1 ∧ ¬ (c.toNat = 0 ∧ 0 < i)) ?_ fun K27 hK27 => ?_
        · rintro _ w2 ⟨hw2, hz⟩
          subst w2
          rw [if_neg hz] at hrd
          have hnx : Cod.next l = some (Cod.zag (u + c.toNat % 128 * 2 ^ (7 * i)), i + 1) := by unfold Cod.next; rw [← hrd]; rfl
          rw [nil_ptr, DoV_ok (Ty.reader_b w1 b)]
          refine load_i Ty.bytes_agg hb (u := v) rfl ?_
          rw [bin_add, i64_wrap (by omega) (by omega)]
          have hcast : ((i : Int) + 1) = ((i + 1 : Nat) : Int) := by omega
          rw [hcast]
          refine slice_from Ty.bytes hi8 hs8 (by decide) hv (l := i + 1) (by omega) fun v' hv' hown => ?_
          rw [nil_ptr, DoV_ok (Ty.reader_b w1 b)]
          have hone : v'.cells = #[v'] ∧ v'.oneCell' = true := by obtain ⟨a, cap, rfl, _⟩ := hv'; exact ⟨rfl, rfl⟩
          refine store_x Ty.bytes_size hb (by simp) hone.1 hone.2 fun w2 hm hat hsz => ?_
          rw [bin_shr (by decide), conv_int Ty.u64 Ty.int, bin_and, conv_int Ty.u64 Ty.int, un_neg, bin_xor, zag_val (acc_lt hu hi9 (by omega) hcm9)]
          refine (?_ : NextQ b v l w1 _ _)
          unfold NextQ
          rw [hnx]
          refine ⟨rfl, hm, hsz, v', hat, ?_, hown⟩
          have h1 : Sl w1 1 v' (l.drop (i + 1)).length (bv (l.drop (i + 1))) := by
            have e : (bv l).drop ((i + 1) * 1) = bv (l.drop (i + 1)) := by simp [bv, List.map_drop]
            rw [e] at hv'
            simpa using hv'
          exact h1.mod_ne hm fun hne g hg => hoff (fun e => hne (by rw [e]; simp [bv])) g (hown g hg)
        · refine join1 (fun x w' => x = .bool (decide (c.toNat = 0 ∧ 0 < i)) ∧ w' = w1) ?_ fun K hK => ?_
          · rintro h31 _ w3 h43 ⟨rfl, rfl⟩
            rw [h43, Br_bool]
            by_cases hz : c.toNat = 0 ∧ 0 < i
            · rw [decide_eq_true hz, if_pos rfl, build_i Ty.broken_new, iface_i Ty.broken_con, panic_i]
              rw [if_pos hz] at hrd
              refine (?_ : NextQ b v l w3 _ _)
              have hnx : Cod.next l = none := by unfold Cod.next; rw [← hrd]; rfl
              unfold NextQ
              rw [hnx]
              exact ⟨rfl, rfl⟩
            · rw [decide_eq_false hz, if_neg (by decide)]
              exact hK27 _ ⟨rfl, hz⟩
          · rw [bin_eql]
            by_cases hz : c.toNat = 0
            · rw [decide_eq_true (by omega), Gd_bool, if_pos rfl, bin_gtr]
              refine hK _ _ ⟨?_, rfl⟩
              congr 1; simp [hz]; try omega
            · rw [decide_eq_false (by omega), Gd_bool, if_neg (by decide)]
              exact hK _ _ ⟨by simp [hz], rfl⟩
    · refine join1 (fun x w' => x = .bool (decide ((i = 9 ∧ 1 < c.toNat) ∨ 9 < i)) ∧ w' = w1) ?_ fun K hK => ?_
      · rintro h15 _ w3 h25 ⟨rfl, rfl⟩
        rw [h25, Br_bool]
        by_cases hz : (i = 9 ∧ 1 < c.toNat) ∨ 9 < i
        · rw [decide_eq_true hz, if_pos rfl, build_i Ty.broken_new, iface_i Ty.broken_con, panic_i]
          rw [if_pos hz] at hrd
          refine (?_ : NextQ b v l w3 _ _)
          have hnx : Cod.next l = none := by unfold Cod.next; rw [← hrd]; rfl
          unfold NextQ
          rw [hnx]
          exact ⟨rfl, rfl⟩
        · rw [decide_eq_false hz, if_neg (by decide)]
          exact hK9 _ ⟨rfl, hz⟩
      · rw [bin_eql]
        by_cases h9 : i = 9
        · rw [decide_eq_true (by omega), Gd_bool, if_pos rfl, bin_gtr, Gd_bool]
          by_cases h1 : 1 < c.toNat
          · rw [decide_eq_true (by omega), if_neg (by decide)]
            exact hK _ _ ⟨by simp [h9, h1], rfl⟩
          · rw [decide_eq_false (by omega), if_pos rfl, bin_gtr]
            refine hK _ _ ⟨?_, rfl⟩
            congr 1; simp only [decide_eq_decide]; omega
        · rw [decide_eq_false (by omega), Gd_bool, if_neg (by decide), bin_gtr]
          refine hK _ _ ⟨?_, rfl⟩
          congr 1; simp only [decide_eq_decide]; omega
  · rw [decide_eq_false (by omega), Br_bool, if_neg (by decide), build_i Ty.broken_new, iface_i Ty.broken_con, panic_i]
    refine (?_ : NextQ b v l w1 _ _)
    have hnx : Cod.next l = none := by
      unfold Cod.next
      rw [← hrd, List.drop_of_length_le (by omega)]; rfl
    unfold NextQ
    rw [hnx]
    exact ⟨rfl, rfl⟩

def i64v (n : Int) : Value := .int .i64 n
/-- What the reference's read returns. -/
def readV (l : List UInt8) : Value := match Cod.next l with
  | none => .tuple #[i64v 0, i64v 0]
  | some (n, k) => .tuple #[i64v n, i64v k]
theorem byte_rem (c : UInt8) : ((c.toNat : Int).tmod 128) = ((c.toNat % 128 : Nat) : Int) := by rw [Int.tmod_eq_emod_of_nonneg (by omega)]; omega
theorem shift_val' {c i : Nat} (hi : i ≤ 9) (hc : c < 128) (h9 : i = 9 → c ≤ 1) : IntKind.u64.wrap (IntKind.u64.wrap (c : Int) * 2 ^ min (IntKind.u64.wrap (7 * IntKind.u64.wrap (i : Int))).toNat IntKind.u64.bits) = ((c * 2 ^ (7 * i) : Nat) : Int) := by
  rw [u64w (i : Int), u64w (7 * _), show 7 * ((i : Int) % 18446744073709551616) % 18446744073709551616 = 7 * (i : Int) by omega]
  exact shift_val hi hc h9
theorem zag_ref {u : Nat} (h : u < 18446744073709551616) : Cod.zag u = if u % 2 = 1 then IntKind.i64.wrap (IntKind.i64.wrap (-IntKind.i64.wrap ((u / 2 : Nat) : Int)) - 1) else IntKind.i64.wrap ((u / 2 : Nat) : Int) := by
  unfold Cod.zag
  rw [i64_wrap (x := ((u / 2 : Nat) : Int)) (by omega) (by omega)]
  by_cases h2 : u % 2 = 0
  · rw [if_pos h2, if_neg (by omega)]
  · rw [if_neg h2, if_pos (by omega), i64_wrap (x := -_) (by omega) (by omega), i64_wrap (by omega) (by omega)]
theorem read_ret {v : Value} {l : List UInt8} (w : World) (hv : Sl w 1 v l.length (bv l)) : Ret Try.prog 55 #[v] w fun r w' => r = readV l ∧ w' = w := by
  refine ret_of (fun _ _ => sh_landfallref08_read_ok _) fun R hR => ?_
  unfold sh_landfallref08_read
  obtain ⟨i8, hi8, _, hs8, _⟩ := Ty.info_parts Ty.u8_info
  have hle := hv.le
  have hnone : Cod.next l = none → R (.returned (.tuple #[.int .i64 0, .int .i64 0])) w := fun hn => hR _ _ ⟨by unfold readV; rw [hn]; rfl, rfl⟩
  refine loop2 (fun y z w1 => ∃ (u i : Nat), y = .int .u64 u ∧ z = .int .i64 i ∧ i ≤ l.length ∧ i ≤ 9 ∧ u < 2 ^ (7 * i) ∧ w1 = w ∧ Cod.rd i u (l.drop i) = Cod.rd 0 0 l) (fun _ z _ => l.length - (intOf z).toNat)
    ⟨0, 0, rfl, rfl, by omega, by omega, by simp, rfl, by simp⟩ ?_
  rintro h _ _ w1 h4 h5 ⟨u, i, rfl, rfl, hil, hi9, hu, hw, hrd⟩ K hK
  subst hw
  refine join0 (fun w' => w' = w1 ∧ i < l.length) ?_ fun K2 hK2 => ?_
  · rintro _ w2 ⟨hw, hlt⟩
    subst w2
    obtain ⟨g, o, hc, _, hix⟩ := hv.index Ty.bytes hi8 hs8 (k := .i64) hlt (by decide)
    have hld : ∀ (w1' : World) (K : Value → World → Prop) (X : List PanicEntry → World → Prop), w1' = w1 → DoV Try.prog (Instr.loadAt 5 (.pointer (some ⟨g, o + i * 1, none⟩))) w1' K X = K (.int .u8 l[i].toNat) w1' := fun w1' K X hw => by
      subst w1'
      rw [load_cell Ty.u8_agg (u := .int .u8 l[i].toNat) (by rw [Nat.mul_one]; exact hc i _ (bv_get hlt))]
    rw [List.drop_eq_getElem_cons hlt, rd_cons] at hrd
    generalize l[i] = c at hrd hld
    have hc256 : c.toNat < 256 := c.toBitVec.isLt
    refine join0 (fun w' => w' = w1 ∧ ¬ ((i = 9 ∧ 1 < c.toNat) ∨ 9 < i)) ?_ fun K9 hK9 => ?_
    · rintro _ w2 ⟨hw2, hcn⟩
      subst w2
      rw [if_neg hcn] at hrd
      have hcn9 : i = 9 → c.toNat ≤ 1 := fun h => by omega
      have hcm9 : i = 9 → c.toNat % 128 ≤ 1 := fun h => by have := hcn9 h; omega
      rw [h5, hix, hld _ _ _ rfl, bin_rem (by decide), byte_rem, conv_int Ty.u8 Ty.u64, conv_int Ty.int Ty.uint, bin_mul, bin_shl (by rw [u64w]; omega), shift_val' hi9 (by omega) hcm9, h4, bin_or, or_val hu (acc_lt hu hi9 (by omega) hcm9), hix, hld _ _ _ rfl, bin_geq]
      by_cases hbig : 127 < c.toNat
      · rw [if_pos hbig] at hrd
        rw [decide_eq_true (by omega), Br_bool, if_pos rfl, bin_add, i64_wrap (by omega) (by omega)]
        exact hK _ _ _ ⟨_, i + 1, rfl, by simp, by omega, by omega, acc_lt' hu (by omega), rfl, hrd⟩ (by simp [intOf]; omega)
      · rw [if_neg hbig] at hrd
        rw [decide_eq_false (by omega), Br_bool, if_neg (by decide)]
        refine join0 (fun w'' => w'' = w1 ∧ ¬ (c.toNat = 0 ∧ 0 < i)) ?_ fun K27 hK27 => ?_
        · rintro _ w2 ⟨hw2, hz⟩
          subst w2
          rw [if_neg hz] at hrd
          have hnx : Cod.next l = some (Cod.zag (u + c.toNat % 128 * 2 ^ (7 * i)), i + 1) := by unfold Cod.next; rw [← hrd]; rfl
          have hlt64 := acc_lt hu hi9 (show c.toNat % 128 < 128 by omega) hcm9
          rw [zag_ref hlt64] at hnx
          generalize u + c.toNat % 128 * 2 ^ (7 * i) = x at hnx hlt64
          rw [bin_rem (by decide), Int.tmod_eq_emod_of_nonneg (by omega), bin_eql]
          have hq : ((x : Int).tdiv 2) = ((x / 2 : Nat) : Int) := rfl
          have hcast : IntKind.i64.wrap ((i : Int) + 1) = ((i + 1 : Nat) : Int) := by rw [i64_wrap (by omega) (by omega)]; omega
          have hu64 : IntKind.u64.wrap ((x / 2 : Nat) : Int) = ((x / 2 : Nat) : Int) := by rw [u64w]; omega
          by_cases h2 : x % 2 = 1
          · rw [decide_eq_true (by omega), Br_bool, if_pos rfl, bin_quo (by decide), hq, conv_int Ty.u64 Ty.int, un_neg, bin_sub, bin_add, hcast, hu64]
            rw [if_pos h2] at hnx
            exact hR _ _ ⟨by unfold readV; rw [hnx]; rfl, rfl⟩
          · rw [decide_eq_false (by omega), Br_bool, if_neg (by decide), bin_quo (by decide), hq, conv_int Ty.u64 Ty.int, bin_add, hcast, hu64]
            rw [if_neg h2] at hnx
            exact hR _ _ ⟨by unfold readV; rw [hnx]; rfl, rfl⟩
        · refine join1 (fun x w' => x = .bool (decide (c.toNat = 0 ∧ 0 < i)) ∧ w' = w1) ?_ fun K hK => ?_
          · rintro h31 _ w3 h43 ⟨rfl, rfl⟩
            rw [h43, Br_bool]
            by_cases hz : c.toNat = 0 ∧ 0 < i
            · rw [decide_eq_true hz, if_pos rfl]
              rw [if_pos hz] at hrd
              exact hnone (by unfold Cod.next; rw [← hrd]; rfl)
            · rw [decide_eq_false hz, if_neg (by decide)]
              exact hK27 _ ⟨rfl, hz⟩
          · rw [bin_gtr]
            by_cases hz : 0 < i
            · rw [decide_eq_true (by omega), Gd_bool, if_pos rfl, hix, hld _ _ _ rfl, bin_eql]
              refine hK _ _ ⟨?_, rfl⟩
              congr 1; simp only [decide_eq_decide]; omega
            · rw [decide_eq_false (by omega), Gd_bool, if_neg (by decide)]
              exact hK _ _ ⟨by simp [hz], rfl⟩
    · refine join1 (fun x w' => x = .bool (decide ((i = 9 ∧ 1 < c.toNat) ∨ 9 < i)) ∧ w' = w1) ?_ fun K hK => ?_
      · rintro h15 _ w3 h25 ⟨rfl, rfl⟩
        rw [h25, Br_bool]
        by_cases hz : (i = 9 ∧ 1 < c.toNat) ∨ 9 < i
        · rw [decide_eq_true hz, if_pos rfl]
          rw [if_pos hz] at hrd
          exact hnone (by unfold Cod.next; rw [← hrd]; rfl)
        · rw [decide_eq_false hz, if_neg (by decide)]
          exact hK9 _ ⟨rfl, hz⟩
      · rw [h5, bin_eql]
        by_cases h9 : i = 9
        · rw [decide_eq_true (by omega), Gd_bool, if_pos rfl, hix, hld _ _ _ rfl, bin_gtr]
          refine hK _ _ ⟨?_, rfl⟩
          congr 1; simp only [decide_eq_decide]; omega
        · rw [decide_eq_false (by omega), Gd_bool, if_neg (by decide)]
          refine hK _ _ ⟨?_, rfl⟩
          congr 1; symm; simp only [decide_eq_false_iff_not]; omega
  · have hend : ¬ i < l.length → Cod.next l = none := fun hn => by
      unfold Cod.next
      rw [← hrd, List.drop_of_length_le (by omega)]; rfl
    rw [hv.len Ty.bytes, h5, bin_lss]
    by_cases hlt : i < l.length
    · rw [decide_eq_true (by omega), Gd_bool, if_pos rfl, bin_lss, decide_eq_true (by omega), Br_bool, if_pos rfl]
      exact hK2 _ ⟨rfl, hlt⟩
    · rw [decide_eq_false (by omega), Gd_bool, if_neg (by decide)]
      exact hnone (hend hlt)
end Go.Proofs.Ytahplhcijlgelaa
