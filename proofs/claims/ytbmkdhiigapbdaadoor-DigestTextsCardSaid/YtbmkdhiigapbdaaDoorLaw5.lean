/- The walks of the six laws of the digest. -/
import Derived.Test.YtbmkdhiigapbdaaDoorDecW
import Derived.Laws.Small
namespace Go.Proofs.YtbmkdhiigapbdaaDoor
open Sh Go.RowKit
section
variable {P : Program} {w : World} {K : Value → World → Prop} {X : List PanicEntry → World → Prop}
theorem u64_eql {t : TypeId} {ox oy : Operand} {a b : BitVec 64} : DoV P (binS .eql t ox oy (u64v a) (u64v b)) w K X = K (.bool (decide (a = b))) w := by
  rw [u64v, u64v, bin_eql]
  congr 2
  have : ((a.toNat : Int) = b.toNat) ↔ a = b := ⟨fun h => BitVec.eq_of_toNat_eq (by omega), fun h => by rw [h]⟩
  simp only [this]
theorem u64_neq {t : TypeId} {ox oy : Operand} {a b : BitVec 64} : DoV P (binS .neq t ox oy (u64v a) (u64v b)) w K X = K (.bool (!decide (a = b))) w := by
  rw [u64v, u64v, bin_neq]
  congr 3
  have : ((a.toNat : Int) = b.toNat) ↔ a = b := ⟨fun h => BitVec.eq_of_toNat_eq (by omega), fun h => by rw [h]⟩
  simp only [this]
theorem bool_eql {t : TypeId} (ht : P.underlying t = some .bool) {ox oy : Operand} {a b : Bool} : DoV P (binS .eql t ox oy (.bool a) (.bool b)) w K X = K (.bool (a == b)) w := DoV_ok (by simp [binS, eqGuard, run_eql_bool w t a b ht])
theorem str_add {t : TypeId} {ox oy : Operand} {a b : ByteArray} (h : a.size + b.size ≤ 1000000000) : DoV P (binS .add t ox oy (.string a) (.string b)) w K X = K (.string (a ++ b)) w := DoV_ok (by simp [binS, eqGuard, binOp, Op.stringOp]; omega)
theorem det_ret {f : FuncId} {args : Array Value} {w0 : World} {rest : Value → (World → Prop) → Prop} (c : Value) (h : ∀ w1, Ext w0 w1 → Ret P f args w1 fun r w' => r = c ∧ Ext w1 w') (hk : rest c fun _ => True) :
    DetOp Ext Ext w0 (fun w1 K => CallF P f args w1 K X) rest :=
  ⟨c, fun _ => True, fun _ _ _ _ => trivial, fun w1 h1 => callF_ret (h w1 h1) fun _ _ hq => ⟨hq.1, hq.2, trivial⟩, hk⟩
theorem store_f {t : TypeId} {b o : Nat} {cs : Array Value} {e : TypeId} {f : Nat × Nat} {v : Value} (ht : ∀ w, (sizeOf t).run P w = .ok 1 w) (h : At w b (.cells cs e f)) (hfz : w.frozen? ⟨b, o, none⟩ = false) (ho : o < cs.size) (hv : v.oneCell' = true)
    (hk : ∀ w1, Mod (· = b) w w1 → At w1 b (.cells (cs.setIfInBounds o v) e f) → w1.heap.size = w.heap.size → K undef w1) : DoU P (Instr.storeAt t (.pointer (some ⟨b, o, none⟩)) v) w K X := by
  have hcs : v.cells = #[v] := by cases v <;> first | rfl | exact absurd hv (by simp [Value.oneCell'])
  have e : (Instr.storeAt t (.pointer (some ⟨b, o, none⟩)) v).run P w = .ok () (w.setCell ⟨b, o, none⟩ v) := by
    have h1 : w.cell? ⟨b, o, none⟩ = some cs[o] := by rw [h.cell]; simp [ho]
    simp [Instr.storeAt, Instr.sureAddr, storeVar, hcs, ht, storeCells, Addr.add, run_store P w _ v .plain hv, h1, hfz]
  rw [DoU_ok e]
  exact hk _ (Mod.setCell ⟨b, o, none⟩ v) (h.set o v) (by simp)
end
/-- What a law gives. -/
def TrueQ (w : World) (r : Value) (w' : World) : Prop := r = .bool true ∧ Ext w w'
theorem xor_val {x : UInt8} {y : Int} (hy : 0 ≤ y ∧ y < 256) : ∃ c : UInt8, (c = x ↔ y = 0) ∧ IntKind.u8.wrap (BitVec.ofInt IntKind.u8.bits (x.toNat : Int) ^^^ BitVec.ofInt IntKind.u8.bits y).toNat = (c.toNat : Int) := by
  by_cases h0 : y = 0
  · subst h0
    refine ⟨x, by simp, ?_⟩
    have e1 : BitVec.ofInt IntKind.u8.bits (x.toNat : Int) = x.toBitVec := by
      apply BitVec.eq_of_toNat_eq
      have := x.toBitVec.isLt
      simp only [IntKind.bits, BitVec.toNat_ofInt, UInt8.toNat]
      omega
    have e2 : BitVec.ofInt IntKind.u8.bits 0 = 0#8 := rfl
    rw [e1, e2, u8w]
    show ((x.toBitVec ^^^ 0#8).toNat : Int) % 256 = _
    rw [BitVec.xor_zero]
    have := x.toBitVec.isLt
    simp only [UInt8.toNat]; omega
  · obtain ⟨c, h1, h2⟩ := xor_ne (x := x) hy h0
    exact ⟨c, ⟨fun h => absurd h h1, fun h => absurd h h0⟩, h2⟩
theorem head5 : (Dig.text [] = 14695981039346656037#64 ∧ Dig.text [97] = 12638187200555641996#64 ∧ Dig.text [102, 111, 111, 98, 97, 114] = 9625390261332436968#64) ∧ Dig.bytes8 97 ++ Dig.texts [5, -1] = [0, 0, 0, 0, 0, 0, 0, 97, 53, 32, 45, 49, 32] := by
  refine ⟨⟨by decide +kernel, by decide +kernel, by decide +kernel⟩, ?_⟩
  have h5 : Go.Lib.itoa 5 = [53] := by unfold Go.Lib.itoa; rw [if_neg (by decide)]; exact Go.Lib.decDigits_one (by decide)
  have h1 : Go.Lib.itoa (-1) = [45, 49] := by unfold Go.Lib.itoa; rw [if_pos (by decide)]; rw [show (-1 : Int).natAbs = 1 by decide, Go.Lib.decDigits_one (by decide)]; rfl
  have h8 : Dig.bytes8 97#64 = [0, 0, 0, 0, 0, 0, 0, 97] := by decide +kernel
  simp [Dig.texts, h5, h1, h8]
theorem lit_text (l : List UInt8) (h : l.length ≤ 1000) (w : World) : Ret Tryd.prog 10 #[.string ⟨l.toArray⟩] w fun r w' => r = u64v (Dig.text l) ∧ Ext w w' := by
  have := Text_ret ⟨l.toArray⟩ (show l.toArray.size ≤ _ by simp; omega) w
  simpa using this
theorem u64lit (d : BitVec 64) (n : Int) (h : (d.toNat : Int) = n) : Value.int .u64 n = u64v d := by rw [u64v, h]
theorem head_ret (w : World) (ht : Tab w) : Ret Tryd.prog 9 #[] w fun r w' => r = .bool true ∧ Ext w w' := by
  refine ret_of (fun _ _ => sh_landfalllaw05_head_ok) fun R hR => ?_
  unfold sh_landfalllaw05_head
  obtain ⟨⟨t0, t1, t2⟩, t3⟩ := head5
  have I5 : ∀ n ∈ [(5 : Int), -1], I64 n := by simp [I64]
  have I7 : ∀ n ∈ [(7 : Int)], I64 n := by simp [I64]
  refine join1 (fun b w' => b = .bool true ∧ Ext w w') ?_ fun K hK => ?_
  · rintro _ _ w1 hb ⟨rfl, x1⟩
    rw [hb]
    refine gd_t ?_
    refine lit_ints [5, -1] rfl (by decide) (by decide) rfl fun v2 w2 x2 h2 _ => ?_
    rw [u64lit 97 97 (by decide)]
    refine callF_ret (next_ret (d := 97) I5 w2 (Sl.of_owns h2) (ht.ext (x1.trans x2))) ?_
    rintro _ w3 ⟨rfl, x3⟩
    refine callF_ret (lit_text [0, 0, 0, 0, 0, 0, 0, 97, 53, 32, 45, 49, 32] (by decide) w3) ?_
    rintro _ w4 ⟨rfl, x4⟩
    have e : Dig.next 97 [5, -1] = Dig.text [0, 0, 0, 0, 0, 0, 0, 97, 53, 32, 45, 49, 32] := by unfold Dig.next; rw [t3]
    rw [u64_eql, e, decide_eq_true rfl]
    refine gd_t ?_
    have x14 := ((x1.trans x2).trans x3).trans x4
    refine lit_ints [7] rfl (by decide) (by decide) rfl fun v5 w5 x5 h5 _ => ?_
    refine callF_ret (sum_int_ret I7 w5 (Sl.of_owns h5) (ht.ext (x14.trans x5))) ?_
    rintro _ w6 ⟨rfl, x6⟩
    refine lit_ints [7] rfl (by decide) (by decide) rfl fun v7 w7 x7 h7 _ => ?_
    rw [u64lit Dig.begin64 14695981039346656037 (by decide)]
    have x17 := ((x14.trans x5).trans x6).trans x7
    refine callF_ret (next_ret (d := Dig.begin64) I7 w7 (Sl.of_owns h7) (ht.ext x17)) ?_
    rintro _ w8 ⟨rfl, x8⟩
    rw [u64_eql]
    exact hR _ _ ⟨by simp [Dig.sum], x17.trans x8⟩
  · refine callF_ret (lit_text [] (by decide) w) ?_
    rintro _ w1 ⟨rfl, x1⟩
    rw [u64lit (14695981039346656037#64) 14695981039346656037 (by decide), u64_eql, t0, decide_eq_true rfl]
    refine gd_t ?_
    refine callF_ret (lit_text [97] (by decide) w1) ?_
    rintro _ w2 ⟨rfl, x2⟩
    rw [u64lit (12638187200555641996#64) 12638187200555641996 (by decide), u64_eql, t1, decide_eq_true rfl]
    refine gd_t ?_
    refine callF_ret (lit_text [102, 111, 111, 98, 97, 114] (by decide) w2) ?_
    rintro _ w3 ⟨rfl, x3⟩
    rw [u64lit (9625390261332436968#64) 9625390261332436968 (by decide), u64_eql, t2, decide_eq_true rfl]
    exact hK _ _ ⟨rfl, (x1.trans x2).trans x3⟩
theorem DigestMatchesReference_ret {s : ByteArray} {d : BitVec 64} {v2 : Value} {l : List Int} (hs : s.size ≤ 9223372036854775807) (hi : ∀ n ∈ l, I64 n) (w : World) (h2 : Sl w 1 v2 l.length (iv l)) (ht : Tab w) :
    Ret Tryd.prog 3 #[.string s, u64v d, v2] w (TrueQ w) := by
  refine ret_of (fun _ _ => sh_landfalllaw05_DigestMatchesReference_ok _ _ _) fun R hR => ?_
  unfold sh_landfalllaw05_DigestMatchesReference
  refine callF_ret (head_ret w ht) ?_
  rintro _ w1 ⟨rfl, x1⟩
  have ht := ht.ext x1
  have h2 := h2.ext x1
  refine join0 (fun w' => w' = w1 ∧ l.length ≤ 100) ?_ fun K hK => ?_
  · rintro _ w' ⟨rfl, hl⟩
    refine gd_t ?_
    refine callF_ret (Text_ret s hs w') ?_
    rintro _ w2 ⟨rfl, x2⟩
    refine callF_same (refText_ret s hs w2) ?_
    rw [u64_eql, decide_eq_true rfl]
    refine gd_t ?_
    refine callF_ret (next_ret hi w2 (h2.ext x2) (ht.ext x2)) ?_
    rintro _ w3 ⟨rfl, x3⟩
    have x13 := x2.trans x3
    refine callF_ret (ref_next_ret hi (by omega) w3 (h2.ext x13)) ?_
    rintro _ w4 ⟨rfl, x4⟩
    have x14 := x13.trans x4
    rw [u64_eql, decide_eq_true rfl]
    refine gd_t ?_
    refine callF_ret (sum_int_ret hi w4 (h2.ext x14) (ht.ext x14)) ?_
    rintro _ w5 ⟨rfl, x5⟩
    have x15 := x14.trans x5
    refine callF_ret (ref_sum_ret hi (by omega) w5 (h2.ext x15)) ?_
    rintro _ w6 ⟨rfl, x6⟩
    rw [u64_eql, decide_eq_true rfl]
    exact hR _ _ ⟨rfl, x1.trans (x15.trans x6)⟩
  · refine join1 (fun b w' => ∃ q, b = .bool q ∧ w' = w1 ∧ (q = false → l.length ≤ 100)) ?_ fun K' hK' => ?_
    · rintro _ _ w' hb ⟨q, rfl, rfl, hl⟩
      rw [hb]
      exact Br_i (fun _ => hR _ _ ⟨rfl, x1⟩) fun hq => hK _ ⟨rfl, hl hq⟩
    · rw [len_string Ty.str, bin_gtr]
      refine Gd_i (fun _ => ?_) fun _ => hK' _ _ ⟨_, rfl, rfl, fun h => by cases h⟩
      rw [h2.len Ty.ints, bin_gtr]
      exact hK' _ _ ⟨_, rfl, rfl, fun hq => by have := dec_f hq; omega⟩
theorem DigestFollows_ret {a b c : ByteArray} (w : World) (ht : Tab w) : Ret Tryd.prog 5 #[.string a, .string b, .string c] w (TrueQ w) := by
  refine ret_of (fun _ _ => sh_landfalllaw05_DigestFollows_ok _ _ _) fun R hR => ?_
  unfold sh_landfalllaw05_DigestFollows
  refine callF_ret (head_ret w ht) ?_
  rintro _ w1 ⟨rfl, x1⟩
  refine join0 (fun w' => w' = w1 ∧ a.size ≤ 200 ∧ b.size ≤ 200 ∧ c.size ≤ 200) ?_ fun K hK => ?_
  · rintro _ w' ⟨rfl, ha, hb, hc⟩
    refine gd_t ?_
    refine callF_ret (Text_ret a (by omega) w') ?_
    rintro _ w2 ⟨rfl, x2⟩
    refine callF_ret (Text_ret b (by omega) w2) ?_
    rintro _ w3 ⟨rfl, x3⟩
    rw [u64_eql, str_add (by omega)]
    refine callF_ret (Text_ret (a ++ c) (by rw [ByteArray.size_append]; omega) w3) ?_
    rintro _ w4 ⟨rfl, x4⟩
    rw [str_add (by omega)]
    refine callF_ret (Text_ret (b ++ c) (by rw [ByteArray.size_append]; omega) w4) ?_
    rintro _ w5 ⟨rfl, x5⟩
    rw [u64_eql, bool_eql Ty.bool]
    have e : ∀ x y : ByteArray, (x ++ y).data.toList = x.data.toList ++ y.data.toList := fun x y => by simp
    have h : (Dig.text (a ++ c).data.toList = Dig.text (b ++ c).data.toList) ↔ (Dig.text a.data.toList = Dig.text b.data.toList) := by
      rw [e, e]; unfold Dig.text; rw [Dig.run_append, Dig.run_append]; exact Dig.run_inj_iff
    refine hR _ _ ⟨?_, x1.trans (((x2.trans x3).trans x4).trans x5)⟩
    simp only [h]; simp
  · refine join1 (fun x w' => ∃ q, x = .bool q ∧ w' = w1 ∧ (q = false → a.size ≤ 200 ∧ b.size ≤ 200 ∧ c.size ≤ 200)) ?_ fun K' hK' => ?_
    · rintro _ _ w' hb ⟨q, rfl, rfl, hl⟩
      rw [hb]
      exact Br_i (fun _ => hR _ _ ⟨rfl, x1⟩) fun hq => hK _ ⟨rfl, hl hq⟩
    · rw [len_string Ty.str, bin_gtr]
      refine Gd_i (fun h1 => ?_) fun _ => hK' _ _ ⟨_, rfl, rfl, fun h => by cases h⟩
      have h1 := dec_f h1
      rw [len_string Ty.str, bin_gtr]
      refine Gd_i (fun h2 => ?_) fun _ => hK' _ _ ⟨_, rfl, rfl, fun h => by cases h⟩
      have h2 := dec_f h2
      rw [len_string Ty.str, bin_gtr]
      exact hK' _ _ ⟨_, rfl, rfl, fun hq => by have := dec_f hq; omega⟩
theorem DigestTexts_ret {d : BitVec 64} {v1 : Value} {l : List Int} (hi : ∀ n ∈ l, I64 n) (w : World) (h1 : Sl w 1 v1 l.length (iv l)) (ht : Tab w) :
    Ret Tryd.prog 6 #[u64v d, v1] w (TrueQ w) := by
  refine ret_of (fun _ _ => sh_landfalllaw05_DigestTexts_ok _ _) fun R hR => ?_
  unfold sh_landfalllaw05_DigestTexts
  refine callF_ret (head_ret w ht) ?_
  rintro _ w1 ⟨rfl, x1⟩
  have ht := ht.ext x1
  have h1 := h1.ext x1
  rw [h1.len Ty.ints, bin_gtr]
  refine Br_i (fun _ => hR _ _ ⟨rfl, x1⟩) fun hb => ?_
  have hl := dec_f hb
  have text_of : ∀ (e : BitVec 64) (r : Value) (w2 : World), Sl w2 1 r (Dig.bytes8 e ++ Dig.texts l).length (bv (Dig.bytes8 e ++ Dig.texts l)) →
      Ret Tryd.prog 10 #[.string ⟨(Dig.bytes8 e ++ Dig.texts l).toArray⟩] w2 fun r w' => r = u64v (Dig.next e l) ∧ Ext w2 w' := fun e r w2 hr => by
    have hle := hr.le
    have := Text_ret ⟨(Dig.bytes8 e ++ Dig.texts l).toArray⟩ (show (Dig.bytes8 e ++ Dig.texts l).toArray.size ≤ _ by simpa using hle) w2
    simpa [Dig.next] using this
  refine callF_ret (lit_text [] (by decide) w1) ?_
  rintro _ w2 ⟨rfl, x2⟩
  refine gd_t ?_
  refine callF_ret (next_ret hi w2 (h1.ext x2) (ht.ext x2)) ?_
  rintro _ w3 ⟨rfl, x3⟩
  have x13 := x2.trans x3
  refine callF_ret (ref_bytes_ret hi (by omega) w3 (h1.ext x13)) ?_
  rintro r w4 ⟨x4, hr⟩
  rw [str_conv (Sl.of_owns hr)]
  have x14 := x13.trans x4
  refine callF_ret (text_of d r w4 (Sl.of_owns hr)) ?_
  rintro _ w5 ⟨rfl, x5⟩
  have x15 := x14.trans x5
  rw [u64_eql, decide_eq_true rfl]
  refine gd_t ?_
  refine callF_ret (sum_int_ret hi w5 (h1.ext x15) (ht.ext x15)) ?_
  rintro _ w6 ⟨rfl, x6⟩
  have x16 := x15.trans x6
  refine callF_ret (ref_bytes_ret hi (by omega) w6 (h1.ext x16)) ?_
  rintro r7 w7 ⟨x7, hr7⟩
  rw [str_conv (Sl.of_owns hr7)]
  have x17 := x16.trans x7
  refine callF_ret (text_of _ r7 w7 (Sl.of_owns hr7)) ?_
  rintro _ w8 ⟨rfl, x8⟩
  rw [u64_eql]
  exact hR _ _ ⟨by rw [decide_eq_true (show Dig.sum l = Dig.next (Dig.text []) l from rfl)], x1.trans (x17.trans x8)⟩
theorem DigestOneByte_ret {s : ByteArray} {at_ by_ : Int} (hat : 0 ≤ at_ ∧ at_ < 65536) (hby : 0 ≤ by_ ∧ by_ < 256) (w : World) (ht : Tab w) :
    Ret Tryd.prog 4 #[.string s, .int .u16 at_, .int .u8 by_] w (TrueQ w) := by
  refine ret_of (fun _ _ => sh_landfalllaw05_DigestOneByte_ok _ _ _) fun R hR => ?_
  unfold sh_landfalllaw05_DigestOneByte
  obtain ⟨i8, hi8, hz8, hs8, _⟩ := Ty.info_parts Ty.u8_info
  refine callF_ret (head_ret w ht) ?_
  rintro _ w1 ⟨rfl, x1⟩
  refine join0 (fun w' => w' = w1 ∧ 0 < s.size ∧ s.size ≤ 500) ?_ fun K hK => ?_
  · rintro _ w' ⟨rfl, hs0, hs⟩
    refine conv_str Ty.str Ty.bytes Ty.u8 (by omega) fun g c w2 x2 hg hsz hcs hbl hsl => ?_
    have hll : s.data.toList.length = s.size := rfl
    have hm := Nat.mod_lt at_.toNat hs0
    obtain ⟨i, hi⟩ : ∃ i, i = at_.toNat % s.size := ⟨_, rfl⟩
    rw [conv_int Ty.u16 Ty.int, i64_wrap (by omega) (by omega), hsl.len Ty.bytes, hll, bin_rem (by omega), tmod_nat hat.1, ← hi]
    obtain ⟨cs, f, hat2, hcsz, hfz⟩ := hbl
    have hix : ∀ (w1 : World) (K : Value → World → Prop) (X : List PanicEntry → World → Prop), DoV Tryd.prog (Instr.indexAt 32 (.slice (some ⟨g, 0, none⟩) s.size c) (.int .i64 i)) w1 K X = K (.pointer (some ⟨g, i, none⟩)) w1 := fun w1 K X => by
      refine DoV_ok ?_
      have hadd : (⟨g, 0, none⟩ : Addr).add i = ⟨g, i, none⟩ := by unfold Addr.add; split <;> simp_all
      simp [Instr.indexAt, asIntOf, run_underlying Ty.bytes, sizeOf, typeInfo, hi8, hs8, show i < s.size by omega, hadd]
    have hcell : ∀ (j : Nat) (u : Value), (bv s.data.toList)[j]? = some u → cs[j]? = some u := fun j u hu => by
      obtain ⟨a, cap, he, _, _, _, hrd⟩ := hsl
      cases he
      rcases hrd with h0 | ⟨b, o, hbo, _, hc⟩
      · rw [h0] at hu; simp at hu
      · cases hbo
        have := hc j u hu
        rw [hat2.cell, Nat.zero_add] at this
        exact this
    have hil : i < s.data.toList.length := by omega
    rw [hix, load_cell Ty.u8_agg (u := .int .u8 s.data.toList[i].toNat) (by rw [hat2.cell]; exact hcell i _ (bv_get hil)), bin_xor]
    obtain ⟨x, hx0, hxe⟩ := xor_val (x := s.data.toList[i]) hby
    rw [hxe, hix]
    refine store_f Ty.u8_size hat2 (hfz i (by omega)) (by omega) rfl fun w3 m3 hat3 hsz3 => ?_
    have x3 : Ext w' w3 := ((Mod.of_ext x2 : Mod (w'.heap.size ≤ ·) w' w2).trans (m3.mono fun k _ h => by omega)).new
    have hcap : s.size ≤ c ∧ c ≤ maxLen := by
      obtain ⟨a, cap, he, h1, h2, _⟩ := hsl
      cases he; exact ⟨by omega, h2⟩
    have hset : Sl w3 1 (.slice (some ⟨g, 0, none⟩) s.size c) (s.data.toList.set i x).length (bv (s.data.toList.set i x)) := by
      rw [List.length_set, hll]
      refine ⟨_, c, rfl, hcap.1, hcap.2, by rw [bv_length, List.length_set, hll]; omega, .inr ⟨g, 0, rfl, hat3.lt, fun j u hu => ?_⟩⟩
      rw [hat3.cell, Nat.zero_add, Array.getElem?_setIfInBounds]
      simp only [bv, List.getElem?_map, List.getElem?_set] at hu
      by_cases hij : i = j
      · subst hij
        rw [if_pos rfl, if_pos (by omega)]
        rw [if_pos rfl, if_pos hil] at hu
        exact hu
      · rw [if_neg hij]
        rw [if_neg hij] at hu
        exact hcell j u (by simp only [bv, List.getElem?_map]; exact hu)
    refine draw_ext fun w4 x4 => ?_
    refine gd_t ?_
    refine det_ret (u64v (Dig.text s.data.toList)) (fun w5 h5 => Text_ret s (by omega) w5) ?_
    refine det_pure (.string ⟨(s.data.toList.set i x).toArray⟩) Ext.refl (fun w5 h5 K hK => by show DoV _ _ _ _ _; rw [str_conv ((hset.ext x4).ext h5)]; exact hK) ?_
    refine det_ret (u64v (Dig.text (s.data.toList.set i x))) (fun w5 h5 => by
      have := Text_ret ⟨(s.data.toList.set i x).toArray⟩ (show (s.data.toList.set i x).toArray.size ≤ _ by simp; omega) w5
      simpa using this) ?_
    refine det_pure (.bool (decide (Dig.text s.data.toList = Dig.text (s.data.toList.set i x)))) Ext.refl (fun w5 h5 K hK => by show DoV _ _ _ _ _; rw [u64_eql]; exact hK) ?_
    refine det_pure (.bool (decide (by_ = 0))) Ext.refl (fun w5 h5 K hK => by show DoV _ _ _ _ _; rw [bin_eql]; exact hK) ?_
    intro w5 x5 _
    rw [bool_eql Ty.bool]
    refine hR _ _ ⟨?_, x1.trans ((x3.trans x4).trans x5)⟩
    have hsp : s.data.toList = s.data.toList.take i ++ s.data.toList[i] :: s.data.toList.drop (i + 1) := by rw [← List.drop_eq_getElem_cons hil, List.take_append_drop]
    have hsp2 : s.data.toList.set i x = s.data.toList.take i ++ x :: s.data.toList.drop (i + 1) := by rw [List.set_eq_take_append_cons_drop, if_pos hil]
    have hiff : (Dig.text s.data.toList = Dig.text (s.data.toList.set i x)) ↔ by_ = 0 := by
      rw [hsp2]
      constructor
      · intro h
        have h2 : Dig.text (s.data.toList.take i ++ s.data.toList[i] :: s.data.toList.drop (i + 1)) = Dig.text (s.data.toList.take i ++ x :: s.data.toList.drop (i + 1)) := by rw [← hsp]; exact h
        exact hx0.1 (Dig.run_one.1 h2).symm
      · intro h
        have := hx0.2 h
        rw [this, ← hsp]
    simp only [hiff]; simp
  · refine join1 (fun x w' => ∃ q, x = .bool q ∧ w' = w1 ∧ (q = false → 0 < s.size ∧ s.size ≤ 500)) ?_ fun K' hK' => ?_
    · rintro _ _ w' hb ⟨q, rfl, rfl, hl⟩
      rw [hb]
      exact Br_i (fun _ => hR _ _ ⟨rfl, x1⟩) fun hq => hK _ ⟨rfl, hl hq⟩
    · rw [len_string Ty.str, bin_eql]
      refine Gd_i (fun h1 => ?_) fun _ => hK' _ _ ⟨_, rfl, rfl, fun h => by cases h⟩
      have h1 := dec_f h1
      rw [len_string Ty.str, bin_gtr]
      exact hK' _ _ ⟨_, rfl, rfl, fun hq => by have := dec_f hq; omega⟩
theorem DigestDigits_ret {d : BitVec 64} {v1 : Value} {l : List Int} {which by_ : Int} (hwh : 0 ≤ which ∧ which < 65536) (hby : 0 ≤ by_ ∧ by_ < 256) (hi : ∀ n ∈ l, I64 n) (w : World) (h1 : Sl w 1 v1 l.length (iv l)) (ht : Tab w) :
    Ret Tryd.prog 7 #[u64v d, v1, .int .u16 which, .int .u8 by_] w (TrueQ w) := by
  refine ret_of (fun _ _ => sh_landfalllaw05_DigestDigits_ok _ _ _ _) fun R hR => ?_
  unfold sh_landfalllaw05_DigestDigits
  obtain ⟨ii, hii, hzi, his, _⟩ := Ty.info_parts Ty.int_info
  refine callF_ret (head_ret w ht) ?_
  rintro _ w1 ⟨rfl, x1⟩
  have ht := ht.ext x1
  have h1 := h1.ext x1
  refine join0 (fun w' => w' = w1 ∧ 0 < l.length ∧ l.length ≤ 100) ?_ fun K hK => ?_
  · rintro _ w' ⟨rfl, hl0, hl⟩
    refine lit0_i Ty.ints hii fun v2 w2 x2 h2 _ => ?_
    have z2 := x2.size
    have h2 : w2.ownsRow w'.heap.size 3 1 v2 ([] : List Int).length (iv []) := h2
    refine app_ints h2 (h1.ext x2) (by simp; omega) z2 fun v3 w3 h3 m3 => ?_
    rw [List.nil_append] at h3
    have x3 : Ext w' w3 := ((Mod.of_ext x2 : Mod (w'.heap.size ≤ ·) w' w2).trans (m3.mono fun k _ h => (Own.block h2 h).1)).new
    have hm := Nat.mod_lt which.toNat hl0
    obtain ⟨k, hk⟩ : ∃ k, k = which.toNat % l.length := ⟨_, rfl⟩
    have hkl : k < l.length := by omega
    rw [conv_int Ty.u16 Ty.int, i64_wrap (by omega) (by omega), (Sl.of_owns h3).len Ty.ints, bin_rem (by omega), tmod_nat hwh.1, ← hk]
    obtain ⟨g, o, hc, hg, hix⟩ := (Sl.of_owns h3).index Ty.ints hii his (k := .i64) hkl (by decide)
    rw [hix, load_cell Ty.int_agg (u := .int .i64 l[k]) (by rw [Nat.mul_one]; exact hc k _ (iv_get hkl))]
    obtain ⟨n, hn⟩ : ∃ n, n = l[k] := ⟨_, rfl⟩
    rw [← hn]
    refine join0 (fun w4 => w4 = w3 ∧ 0 ≤ n ∧ n ≤ 1000000000000) ?_ fun K hK => ?_
    · rintro _ w4 ⟨rfl, hn0, hn1⟩
      have e10 : n.tmod 10 = n % 10 := Int.tmod_eq_emod_of_nonneg hn0
      have e9 : by_.tmod 9 = by_ % 9 := Int.tmod_eq_emod_of_nonneg hby.1
      have em : (n % 10 + 1 + by_ % 9).tmod 10 = (n % 10 + 1 + by_ % 9) % 10 := Int.tmod_eq_emod_of_nonneg (by omega)
      rw [bin_rem (by decide), e10, bin_sub, i64_wrap (by omega) (by omega), bin_rem (by decide), e10, bin_add, i64_wrap (by omega) (by omega), conv_int Ty.u8 Ty.int, i64_wrap (by omega) (by omega), bin_rem (by decide), e9, bin_add, i64_wrap (by omega) (by omega), bin_rem (by decide), em, bin_add, i64_wrap (by omega) (by omega)]
      obtain ⟨m, hm⟩ : ∃ m, m = n - n % 10 + (n % 10 + 1 + by_ % 9) % 10 := ⟨_, rfl⟩
      rw [← hm]
      refine own_set Ty.ints hii his Ty.int_size h3 hkl rfl fun w5 h5 m5 _ => ?_
      have x5 : Ext w' w5 := ((Mod.of_ext x3 : Mod (w'.heap.size ≤ ·) w' w4).trans (m5.mono fun k _ h => (Own.block h3 h).1)).new
      have hset : (iv l).set k (.int .i64 m) = iv (l.set k m) := by simp [iv, List.map_set]
      rw [hset] at h5
      have h5' : Sl w5 1 v3 (l.set k m).length (iv (l.set k m)) := by rw [List.length_set]; exact Sl.of_owns h5
      have hi5 : ∀ x ∈ l.set k m, I64 x := fun x hx => by
        rcases List.mem_or_eq_of_mem_set hx with hx | rfl
        · exact hi x hx
        · unfold I64; omega
      have hsp : l = l.take k ++ n :: l.drop (k + 1) := by rw [hn, ← List.drop_eq_getElem_cons hkl, List.take_append_drop]
      have hsp2 : l.set k m = l.take k ++ m :: l.drop (k + 1) := by rw [List.set_eq_take_append_cons_drop, if_pos hkl]
      have hne : ∀ e : BitVec 64, Dig.next e l ≠ Dig.next e (l.set k m) := fun e => by
        rw [hsp2]
        intro h
        have h2 : Dig.next e (l.take k ++ n :: l.drop (k + 1)) = Dig.next e (l.take k ++ m :: l.drop (k + 1)) := by rw [← hsp]; exact h
        exact Dig.next_last hn0 (by omega) (by omega) (by omega) h2
      refine gd_t ?_
      refine callF_ret (next_ret hi w5 (h1.ext x5) (ht.ext x5)) ?_
      rintro _ w6 ⟨rfl, x6⟩
      refine callF_ret (next_ret hi5 w6 (h5'.ext x6) (ht.ext (x5.trans x6))) ?_
      rintro _ w7 ⟨rfl, x7⟩
      rw [u64_neq, decide_eq_false (hne d)]
      refine gd_t ?_
      have x57 := x6.trans x7
      refine callF_ret (sum_int_ret hi w7 (h1.ext (x5.trans x57)) (ht.ext (x5.trans x57))) ?_
      rintro _ w8 ⟨rfl, x8⟩
      refine callF_ret (sum_int_ret hi5 w8 (h5'.ext (x57.trans x8)) (ht.ext (x5.trans (x57.trans x8)))) ?_
      rintro _ w9 ⟨rfl, x9⟩
      rw [u64_neq]
      refine hR _ _ ⟨?_, x1.trans (x5.trans ((x57.trans x8).trans x9))⟩
      rw [decide_eq_false (show Dig.sum l ≠ Dig.sum (l.set k m) from hne Dig.begin64)]; rfl
    · refine join1 (fun x w' => ∃ q, x = .bool q ∧ w' = w3 ∧ (q = false → 0 ≤ n ∧ n ≤ 1000000000000)) ?_ fun K' hK' => ?_
      · rintro _ _ w4 hb ⟨q, rfl, rfl, hl⟩
        rw [hb]
        exact Br_i (fun _ => hR _ _ ⟨rfl, x1.trans x3⟩) fun hq => hK _ ⟨rfl, hl hq⟩
      · rw [bin_lss]
        refine Gd_i (fun h1 => ?_) fun _ => hK' _ _ ⟨_, rfl, rfl, fun h => by cases h⟩
        have h1 := dec_f h1
        rw [bin_gtr]
        exact hK' _ _ ⟨_, rfl, rfl, fun hq => by have := dec_f hq; omega⟩
  · refine join1 (fun x w' => ∃ q, x = .bool q ∧ w' = w1 ∧ (q = false → 0 < l.length ∧ l.length ≤ 100)) ?_ fun K' hK' => ?_
    · rintro _ _ w' hb ⟨q, rfl, rfl, hl⟩
      rw [hb]
      exact Br_i (fun _ => hR _ _ ⟨rfl, x1⟩) fun hq => hK _ ⟨rfl, hl hq⟩
    · rw [h1.len Ty.ints, bin_eql]
      refine Gd_i (fun h1 => ?_) fun _ => hK' _ _ ⟨_, rfl, rfl, fun h => by cases h⟩
      have h2 := dec_f h1
      rw [‹Sl w1 1 v1 l.length (iv l)›.len Ty.ints, bin_gtr]
      exact hK' _ _ ⟨_, rfl, rfl, fun hq => by have := dec_f hq; omega⟩
theorem b8_get (d : BitVec 64) {i : Nat} (hi : i < 8) : (Dig.bytes8 d)[i]? = some (UInt8.ofBitVec ((d >>> (56 - 8 * i)).setWidth 8)) := by simp [Dig.bytes8, hi]
theorem b8_same {d : BitVec 64} {y k i : Nat} (hy : y < 256) (hk : k < 8) (hi : i < 8) (hne : i ≠ 7 - k) : (Dig.bytes8 (d ^^^ BitVec.ofNat 64 (y * 2 ^ (8 * k))))[i]? = (Dig.bytes8 d)[i]? := by
  rw [b8_get _ hi, b8_get _ hi]
  congr 2
  apply BitVec.eq_of_getLsbD_eq
  intro t ht
  simp only [BitVec.getLsbD_setWidth, BitVec.getLsbD_ushiftRight, BitVec.getLsbD_xor, BitVec.getLsbD_ofNat, Nat.testBit_mul_two_pow]
  rw [decide_eq_true ht, Bool.true_and, Bool.true_and]
  have : (decide (8 * k ≤ 56 - 8 * i + t) && y.testBit (56 - 8 * i + t - 8 * k)) = false := by
    by_cases hle : 8 * k ≤ 56 - 8 * i + t
    · rw [decide_eq_true hle, Bool.true_and]
      apply Nat.testBit_lt_two_pow
      have : 8 ≤ 56 - 8 * i + t - 8 * k := by omega
      exact Nat.lt_of_lt_of_le hy (Nat.le_trans (by decide : 256 ≤ 2 ^ 8) (Nat.pow_le_pow_right (by decide) this))
    · rw [decide_eq_false hle]; rfl
  rw [this]; simp
theorem b8_inj {d e : BitVec 64} (h : Dig.bytes8 d = Dig.bytes8 e) : d = e := by
  have hb : ∀ i, i < 8 → (d >>> (56 - 8 * i)).setWidth 8 = (e >>> (56 - 8 * i)).setWidth 8 := fun i hi => by
    have h2 : (Dig.bytes8 d)[i]? = (Dig.bytes8 e)[i]? := by rw [h]
    rw [b8_get _ hi, b8_get _ hi, Option.some.injEq] at h2
    exact congrArg UInt8.toBitVec h2
  apply BitVec.eq_of_getLsbD_eq
  intro j hj
  have h2 := congrArg (fun x => x.getLsbD (j % 8)) (hb (7 - j / 8) (by omega))
  simp only [BitVec.getLsbD_setWidth, BitVec.getLsbD_ushiftRight] at h2
  rw [show 56 - 8 * (7 - j / 8) + j % 8 = j by omega, decide_eq_true (by omega : j % 8 < 8), Bool.true_and, Bool.true_and] at h2
  exact h2
theorem chain_iff {d : BitVec 64} {y k : Nat} {l : List Int} (hy : y < 256) (hk : k < 8) : Dig.next (d ^^^ BitVec.ofNat 64 (y * 2 ^ (8 * k))) l = Dig.next d l ↔ y = 0 := by
  constructor
  · intro h
    rcases Dig.next_inj h with h | ⟨i, j, h1, h2, h3, h4⟩
    · have h5 := b8_inj h
      have h6 : d ^^^ (d ^^^ BitVec.ofNat 64 (y * 2 ^ (8 * k))) = d ^^^ d := by rw [h5]
      rw [← BitVec.xor_assoc, BitVec.xor_self, BitVec.zero_xor] at h6
      have h7 := congrArg BitVec.toNat h6
      rw [BitVec.toNat_ofNat, BitVec.toNat_zero] at h7
      have hp : 2 ^ (8 * k) ≤ 2 ^ 56 := Nat.pow_le_pow_right (by decide) (by omega)
      have hle : y * 2 ^ (8 * k) ≤ 255 * 2 ^ 56 := Nat.mul_le_mul (by omega) hp
      rw [Nat.mod_eq_of_lt (Nat.lt_of_le_of_lt hle (by decide))] at h7
      rcases Nat.mul_eq_zero.1 h7 with h8 | h8
      · exact h8
      · exact absurd h8 (Nat.ne_of_gt (Nat.pow_pos (by decide)))
    · by_cases hi : i = 7 - k
      · exact absurd (b8_same hy hk (show j < 8 from h2) (by omega)) h4
      · exact absurd (b8_same hy hk (show i < 8 by omega) hi) h3
  · rintro rfl
    simp
theorem DigestChains_ret {d : BitVec 64} {v3 : Value} {l : List Int} {at_ by_ : Int} (hat : 0 ≤ at_ ∧ at_ < 256) (hby : 0 ≤ by_ ∧ by_ < 256) (hi : ∀ n ∈ l, I64 n) (w : World) (h3 : Sl w 1 v3 l.length (iv l)) (ht : Tab w) :
    Ret Tryd.prog 8 #[u64v d, .int .u8 at_, .int .u8 by_, v3] w (TrueQ w) := by
  refine ret_of (fun _ _ => sh_landfalllaw05_DigestChains_ok _ _ _ _) fun R hR => ?_
  unfold sh_landfalllaw05_DigestChains
  refine callF_ret (head_ret w ht) ?_
  rintro _ w1 ⟨rfl, x1⟩
  have ht := ht.ext x1
  have h3 := h3.ext x1
  rw [h3.len Ty.ints, bin_gtr]
  refine Br_i (fun _ => hR _ _ ⟨rfl, x1⟩) fun hb => ?_
  have hl := dec_f hb
  have e8 : at_.tmod 8 = at_ % 8 := Int.tmod_eq_emod_of_nonneg hat.1
  obtain ⟨y, rfl⟩ := Int.eq_ofNat_of_zero_le hby.1
  obtain ⟨k, hk⟩ : ∃ k : Nat, (k : Int) = at_ % 8 := ⟨(at_ % 8).toNat, by omega⟩
  have hk8 : k < 8 := by omega
  have hy : y < 256 := by omega
  have hp : 2 ^ (8 * k) ≤ 2 ^ 56 := Nat.pow_le_pow_right (by decide) (by omega)
  have hle : y * 2 ^ (8 * k) ≤ 255 * 2 ^ 56 := Nat.mul_le_mul (by omega) hp
  have hx : IntKind.u64.wrap ((BitVec.ofInt IntKind.u64.bits (d.toNat : Int) ^^^ BitVec.ofInt IntKind.u64.bits ((y * 2 ^ (8 * k) : Nat) : Int) : BitVec IntKind.u64.bits).toNat : Int) = ((d ^^^ BitVec.ofNat 64 (y * 2 ^ (8 * k))).toNat : Int) := by
    have e1 : BitVec.ofInt IntKind.u64.bits (d.toNat : Int) = d := by
      apply BitVec.eq_of_toNat_eq
      have := d.isLt
      simp only [IntKind.bits, BitVec.toNat_ofInt]
      omega
    have e2 : BitVec.ofInt IntKind.u64.bits ((y * 2 ^ (8 * k) : Nat) : Int) = BitVec.ofNat 64 (y * 2 ^ (8 * k)) := BitVec.ofInt_natCast _ _
    rw [e1, e2]
    exact u64_wrap _
  have hsh : IntKind.u64.wrap (IntKind.u64.wrap (y : Int) * 2 ^ min (IntKind.u8.wrap (at_ % 8 * 8)).toNat IntKind.u64.bits) = ((y * 2 ^ (8 * k) : Nat) : Int) := by
    have e1 : IntKind.u64.wrap (y : Int) = y := by rw [u64w]; omega
    have e2 : IntKind.u8.wrap (at_ % 8 * 8) = at_ % 8 * 8 := by rw [u8w]; omega
    have e3 : min (at_ % 8 * 8).toNat IntKind.u64.bits = 8 * k := by
      show min _ 64 = _
      omega
    rw [e1, e2, e3, show (y : Int) * 2 ^ (8 * k) = ((y * 2 ^ (8 * k) : Nat) : Int) by simp, u64w]
    omega
  rw [conv_int Ty.u8 Ty.u64, bin_rem (by decide), e8, bin_mul, bin_shl (by rw [u8w]; omega), hsh, u64v, bin_xor, hx]
  refine gd_t ?_
  refine callF_ret (next_ret (d := d ^^^ BitVec.ofNat 64 (y * 2 ^ (8 * k))) hi w1 h3 ht) ?_
  rintro _ w2 ⟨rfl, x2⟩
  refine callF_ret (next_ret (d := d) hi w2 (h3.ext x2) (ht.ext x2)) ?_
  rintro _ w3 ⟨rfl, x3⟩
  rw [u64_eql, bin_eql, bool_eql Ty.bool]
  refine hR _ _ ⟨?_, x1.trans (x2.trans x3)⟩
  have : ((y : Int) = 0) ↔ y = 0 := by omega
  simp only [chain_iff hy hk8, this]; simp
end Go.Proofs.YtbmkdhiigapbdaaDoor
