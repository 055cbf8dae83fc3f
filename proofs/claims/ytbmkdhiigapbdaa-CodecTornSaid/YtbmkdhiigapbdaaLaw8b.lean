/- The walks of the laws Torn, Follows and Changed. -/
import Derived.Test.YtbmkdhiigapbdaaLaw8
namespace Go.Proofs.Ytbmkdhiigapbdaa
open Sh Go.RowKit
theorem br_t {A B : Prop} (h : A) : Br (.bool true) A B := Br_i (fun _ => h) fun h => by cases h
theorem gd_f {A B : Prop} (h : A) : Gd (.bool false) false A B := Gd_i (fun _ => h) fun h => by cases h
theorem bv_take (b : List UInt8) (k : Nat) : (bv b).take (k * 1) = bv (b.take k) := by simp [bv, List.map_take]
theorem up_bytes {w : World} {K : Value → World → Prop} {X : List PanicEntry → World → Prop} {v : Value} {b : List UInt8} {k : Nat} (hv : Sl w 1 v b.length (bv b)) (hk : k ≤ b.length)
    (hK : ∀ v', Sl w 1 v' (b.take k).length (bv (b.take k)) → K v' w) : DoV Try.prog (Instr.sliceAt 23 v none (some (.int .i64 k)) none) w K X := by
  obtain ⟨i8, hi8, hz8, hs8, _⟩ := Ty.info_parts Ty.u8_info
  refine slice_upto Ty.bytes hi8 hs8 (by decide) hv hk fun v' h' _ => hK v' ?_
  rw [bv_take] at h'
  rw [List.length_take, Nat.min_eq_left hk]; exact h'
theorem tmod_nat {a : Int} {n : Nat} (ha : 0 ≤ a) : a.tmod (n : Int) = ((a.toNat % n : Nat) : Int) := by
  rw [Int.tmod_eq_emod_of_nonneg ha, Int.natCast_emod, Int.toNat_of_nonneg ha]
theorem ends_at {w : World} {ve : Value} {ll : List (List Int)} (h : Sl w 1 ve (endsOf ll ll.length).length (iv (endsOf ll ll.length))) {k : Nat} (hk : k < ll.length) : ∃ b o, b < w.heap.size ∧ w.cell? ⟨b, o, none⟩ = some (.int .i64 (Cod.all (ll.take (k + 1))).length) ∧
    ∀ (w1 : World) (K : Value → World → Prop) (X : List PanicEntry → World → Prop), DoV Try.prog (Instr.indexAt 22 ve (.int .i64 k)) w1 K X = K (.pointer (some ⟨b, o, none⟩)) w1 := by
  obtain ⟨i, hi, hz, hs, hby⟩ := Ty.info_parts Ty.int_info
  obtain ⟨b, o, hc, hb, hix⟩ := h.index Ty.ints hi hs (k := .i64) (j := k) (by rw [endsOf_length]; exact hk) (by decide)
  refine ⟨b, o + k * 1, hb, ?_, hix⟩
  rw [Nat.mul_one]
  refine hc k _ ?_
  rw [iv, List.getElem?_map, endsOf_get hk]; rfl
theorem framesV_small {b : List UInt8} (h : b.length ≤ 200000) : framesV b = ((Cod.frames b).1, (Cod.frames b).2, 0) := by unfold framesV; rw [if_neg (by omega)]
theorem few_fits {ll : List (List Int)} (hi : ∀ l ∈ ll, ∀ n ∈ l, Cod.I64 n) (hf : Few ll) : Cod.Fits ll := fun l hl => ⟨hi l hl, by have := hf.2 l hl; omega⟩
theorem CodecTorn_ret {v0 : Value} {ll : List (List Int)} {cut : Int} (hcut : 0 ≤ cut ∧ cut < 65536) (hi : ∀ l ∈ ll, ∀ n ∈ l, Cod.I64 n) (w : World) (h0 : LL w v0 ll) :
    Ret Try.prog 5 #[v0, .int .u16 cut] w (TrueQ w) := by
  refine ret_of (fun _ _ => sh_landfalllaw08_CodecTorn_ok _ _) fun R hR => ?_
  unfold sh_landfalllaw08_CodecTorn
  refine callF_ret (head_ret w) ?_
  rintro _ w1 ⟨rfl, x1⟩
  have h0 := h0.ext x1
  refine callF_ret (small_ret w1 h0) ?_
  rintro _ w' ⟨sm, rfl, hf, hw⟩
  subst w'
  rw [un_not]
  refine Br_i (fun _ => hR _ _ ⟨rfl, x1⟩) fun hsm => ?_
  have hf := hf (by simpa using hsm)
  refine callF_ret (frames_ret hi hf w1 h0) ?_
  rintro _ w2 ⟨x2, vb, ve, rfl, hb, he⟩
  have hal := all_few hi hf (Nat.le_refl _)
  rw [List.take_of_length_le (Nat.le_refl _)] at hal
  have h10 := hf.1
  have hbs := Sl.of_owns hb
  have hes := Sl.of_owns he
  rw [ext3_0, ext3_1, ext3_2, un_not]
  refine br_f ?_
  obtain ⟨at_, hat⟩ : ∃ a, a = cut.toNat % ((Cod.all ll).length + 1) := ⟨_, rfl⟩
  have hatl : at_ < (Cod.all ll).length + 1 := by rw [hat]; exact Nat.mod_lt _ (by omega)
  rw [conv_int Ty.u16 Ty.int, i64_wrap (by omega) (by omega), hbs.len Ty.bytes, bin_add, i64_wrap (by omega) (by omega), bin_rem (by omega), show ((Cod.all ll).length : Int) + 1 = (((Cod.all ll).length + 1 : Nat) : Int) by omega, tmod_nat hcut.1, ← hat]
  refine loop3 (fun x y z w3 => ∃ k j : Nat, k ≤ ll.length ∧ z = .int .i64 k ∧ j ≤ k ∧ x = .int .i64 j ∧ y = .int .i64 (Cod.all (ll.take j)).length ∧ (Cod.all (ll.take j)).length ≤ at_ ∧ (j < k → at_ < (Cod.all (ll.take (j + 1))).length) ∧ Ext w2 w3) (fun _ _ z _ => ll.length - (intOf z).toNat)
    ⟨0, 0, by omega, rfl, by omega, rfl, rfl, by simp [Cod.all], by omega, Ext.refl _⟩ ?_
  rintro h _ _ _ w3 hx hy hz ⟨k, j, hk, rfl, hj, rfl, rfl, hja, hjn, x3⟩ K hK
  rw [hx, hy, hz, (hes.ext x3).len Ty.ints, endsOf_length, bin_lss]
  refine Br_i (fun hb => ?_) fun hb => ?_
  · have hlt : k < ll.length := by have := dec_t hb; omega
    refine join2 (fun x y w4 => ∃ j : Nat, j ≤ k + 1 ∧ x = .int .i64 j ∧ y = .int .i64 (Cod.all (ll.take j)).length ∧ (Cod.all (ll.take j)).length ≤ at_ ∧ (j < k + 1 → at_ < (Cod.all (ll.take (j + 1))).length) ∧ Ext w2 w4) ?_ fun K' hK' => ?_
    · rintro h2 _ _ w4 hx hy ⟨j, q1, rfl, rfl, q2, q3, x4⟩
      rw [hx, hy, bin_add, i64_wrap (by omega) (by omega)]
      exact hK _ _ _ _ ⟨k + 1, j, by omega, by simp, q1, rfl, rfl, q2, q3, x4⟩ (by simp [intOf]; omega)
    · obtain ⟨g, o, hg, hc, hix⟩ := ends_at (hes.ext x3) hlt
      rw [hix, load_cell Ty.int_agg hc, bin_leq]
      refine Br_i (fun hb2 => ?_) fun hb2 => ?_
      · have hle := dec_t hb2
        refine draw_ext fun w4 x4 => ?_
        refine det_pure (.int .i64 ((k + 1 : Nat) : Int)) Ext.refl (fun w5 h5 K hK => by show DoV _ _ _ _ _; rw [bin_add, i64_wrap (by omega) (by omega)]; simpa using hK) ?_
        refine det_pure _ Ext.refl (fun w5 h5 K hK => by show DoV _ _ _ _ _; rw [hix]; exact hK) ?_
        refine det_pure (.int .i64 (Cod.all (ll.take (k + 1))).length) Ext.refl (fun w5 h5 K hK => by show DoV _ _ _ _ _; rw [load_cell Ty.int_agg (cell_ext hc hg (x4.trans h5))]; exact hK) ?_
        intro w5 x5 _
        exact hK' _ _ _ ⟨k + 1, by omega, rfl, rfl, by omega, by omega, (x3.trans x4).trans x5⟩
      · have hgt := dec_f hb2
        refine hK' _ _ _ ⟨j, by omega, rfl, rfl, hja, fun _ => ?_, x3⟩
        by_cases hjk : j < k
        · exact hjn hjk
        · have : j = k := by omega
          subst this; omega
  · have hge := dec_f hb
    have hkl : k = ll.length := by omega
    subst hkl
    refine up_bytes (hbs.ext x3) (by omega) fun v4 h4 => ?_
    refine callF_ret (Frames_ret w3 h4) ?_
    rintro r w5 hq
    obtain ⟨m, rfl, hm, x5⟩ := hq.use
    have hlt : ((Cod.all ll).take at_).length ≤ 200000 := by rw [List.length_take]; omega
    rw [framesV_small hlt, Cod.frames_torn (few_fits hi hf) hja hjn] at hm ⊢
    rw [ext3_0, ext3_1, ext3_2]
    refine gd_t ?_
    rw [bin_eql]
    refine gd_t ?_
    rw [bin_eql, dec_same]
    refine gd_t ?_
    have xx := (x2.trans x3).trans x5
    refine (h0.ext xx).upto hj fun v6 h6 => ?_
    refine callF_ret (SameLists_ret w5 hm h6) ?_
    rintro _ w7 ⟨rfl, x7⟩
    exact hR _ _ ⟨by simp, x1.trans (xx.trans x7)⟩
theorem CodecFollows_ret {v0 v1 : Value} {ll : List (List Int)} {b : List UInt8} (hi : ∀ l ∈ ll, ∀ n ∈ l, Cod.I64 n) (w : World) (h0 : LL w v0 ll) (h1 : Sl w 1 v1 b.length (bv b)) :
    Ret Try.prog 6 #[v0, v1] w (TrueQ w) := by
  refine ret_of (fun _ _ => sh_landfalllaw08_CodecFollows_ok _ _) fun R hR => ?_
  unfold sh_landfalllaw08_CodecFollows
  refine callF_ret (head_ret w) ?_
  rintro _ w1 ⟨rfl, x1⟩
  have h0 := h0.ext x1
  have h1 := h1.ext x1
  refine join0 (fun w' => w' = w1 ∧ Few ll ∧ b.length ≤ 1000) ?_ fun K hK => ?_
  · rintro _ w' ⟨rfl, hf, hbl⟩
    refine callF_ret (frames_ret hi hf w' h0) ?_
    rintro _ w2 ⟨x2, vb, ve, rfl, hb, he⟩
    have hal := all_few hi hf (Nat.le_refl _)
    rw [List.take_of_length_le (Nat.le_refl _)] at hal
    have h10 := hf.1
    have hbs := Sl.of_owns hb
    rw [ext3_0, ext3_1, ext3_2, un_not]
    refine br_f ?_
    refine lit_nobytes fun v3 w3 x3 h3 _ => ?_
    have z3 := x3.size
    refine app_bytes h3 (hbs.ext x3) (by simp; omega) z3 fun v4 w4 h4 m4 => ?_
    have x4 : Ext w2 w4 := ((Mod.of_ext x3 : Mod (w2.heap.size ≤ ·) w2 w3).trans (m4.mono fun k _ h => (Own.block h3 h).1)).new
    have z4 := x4.size
    refine app_bytes h4 (h1.ext (x2.trans x4)) (by simp; omega) z4 fun v5 w5 h5 m5 => ?_
    have x5 : Ext w2 w5 := ((Mod.of_ext x4 : Mod (w2.heap.size ≤ ·) w2 w4).trans (m5.mono fun k _ h => (Own.block h4 h).1)).new
    rw [List.nil_append] at h5
    refine callF_ret (Frames_ret w5 (Sl.of_owns h5)) ?_
    rintro r w6 hq
    obtain ⟨m, rfl, hm, x6⟩ := hq.use
    have hlm : (Cod.all ll ++ b).length ≤ 200000 := by rw [List.length_append]; omega
    rw [framesV_small hlm, Cod.frames_all (few_fits hi hf)] at hm ⊢
    rw [ext3_0, ext3_1, ext3_2]
    have x26 := x5.trans x6
    refine callF_ret (Frames_ret w6 (h1.ext (x2.trans x26))) ?_
    rintro r w7 hq
    obtain ⟨n, rfl, hn, x7⟩ := hq.use
    rw [framesV_small (by omega)] at hn ⊢
    rw [ext3_0, ext3_1, ext3_2]
    have x27 := x26.trans x7
    have hm7 := hm.ext x7
    have h07 := h0.ext (x2.trans x27)
    have hln := hn.le
    have hlm := hm.le
    simp only [List.length_append] at hlm
    refine join0 (fun w8 => w8 = w7) ?_ fun K hK => ?_
    · rintro _ w8 hw
      subst w8
      refine gd_t ?_
      rw [h07.len]
      refine hm7.upto (by simp) fun v8 h8 => ?_
      rw [List.take_left' rfl] at h8
      refine callF_ret (SameLists_ret w7 h8 h07) ?_
      rintro _ w9 ⟨rfl, x9⟩
      rw [dec_same]
      refine gd_t ?_
      rw [(h07.ext x9).len]
      refine (hm7.ext x9).from_ (by simp) fun v10 h10' => ?_
      rw [List.drop_left' rfl] at h10'
      refine callF_ret (SameLists_ret w9 h10' (hn.ext x9)) ?_
      rintro _ w11 ⟨rfl, x11⟩
      exact hR _ _ ⟨by simp, x1.trans (x2.trans ((x27.trans x9).trans x11))⟩
    · refine join1 (fun b w4 => b = .bool false ∧ w4 = w7) ?_ fun K' hK' => ?_
      · rintro _ _ w4 hbb ⟨rfl, rfl⟩
        rw [hbb]
        exact br_f (hK _ rfl)
      · rw [bin_neq]
        refine gd_f ?_
        rw [bin_neq]
        refine gd_f ?_
        rw [hm7.len, h07.len, hn.len, bin_add, i64_wrap (by dsimp only; omega) (by dsimp only; omega), bin_neq]
        refine Gd_i (fun _ => ?_) fun h => by simp at h
        rw [(hbs.ext x27).len Ty.bytes, bin_add]
        have hfl : (Cod.frames b).2 ≤ b.length := Cod.frames_len b
        rw [i64_wrap (by dsimp only; omega) (by dsimp only; omega), bin_neq]
        exact hK' _ _ ⟨by simp, rfl⟩
  · refine join1 (fun c w' => ∃ q, c = .bool q ∧ w' = w1 ∧ (q = false → Few ll ∧ b.length ≤ 1000)) ?_ fun K' hK' => ?_
    · rintro _ _ w' hb ⟨q, rfl, rfl, hl⟩
      rw [hb]
      exact Br_i (fun _ => hR _ _ ⟨rfl, x1⟩) fun hq => hK _ ⟨rfl, hl hq⟩
    · refine callF_ret (small_ret w1 h0) ?_
      rintro _ w' ⟨sm, rfl, hf, hw⟩
      subst w'
      rw [un_not]
      refine Gd_i (fun hb => ?_) fun _ => hK' _ _ ⟨_, rfl, rfl, fun h => by cases h⟩
      have hf := hf (by simpa using hb)
      rw [h1.len Ty.bytes, bin_gtr]
      exact hK' _ _ ⟨_, rfl, rfl, fun hb3 => ⟨hf, by have := dec_f hb3; omega⟩⟩
/-- An element of a row of one's own, written. -/
theorem own_set {P : Program} {w : World} {K : Value → World → Prop} {X : List PanicEntry → World → Prop} {base n : Nat} {T e : TypeId} {v x : Value} {xs : List Value} {i : TypeInfo} {k : IntKind} {j : Nat} (hT : P.underlying T = some (.slice e)) (hi : P.info? e = some i) (hs : i.size = 1) (hes : ∀ w, (sizeOf e).run P w = .ok 1 w)
    (h : w.ownsRow base e 1 v n xs) (hj : j < n) (hx : x.oneCell' = true) (hk : ∀ w1, w1.ownsRow base e 1 v n (xs.set j x) → Mod (fun k => v.ownBlock = some k) w w1 → w1.heap.size = w.heap.size → K undef w1) :
    DoV P (Instr.indexAt T v (.int k j)) w (fun a w1 => DoU P (Instr.storeAt e a x) w1 K X) X := by
  obtain ⟨h1, h2⟩ := h
  rcases h2 with ⟨_, rfl⟩ | ⟨g, cap, cur, rfl, hb, hg, hn, hc, hcs, ht⟩
  · omega
  · have hadd : (⟨g, 0, none⟩ : Addr).add (j * 1) = ⟨g, j, none⟩ := by unfold Addr.add; split <;> simp_all
    rw [DoV_ok (w' := w) (v := .pointer (some ⟨g, j, none⟩)) (by simp [Instr.indexAt, asIntOf, run_underlying hT, sizeOf, typeInfo, hi, hs, hj]; simpa using hadd)]
    refine store_i hes (show At w g (.cells cur e (0, 0)) from hg) (by omega) hx fun w1 m1 hat hsz => hk w1 ⟨by simpa using h1, .inr ⟨g, cap, _, rfl, hb, hat, hn, hc, by simpa using hcs, ?_⟩⟩ (m1.mono fun k _ h => by simp [Value.ownBlock, h]) hsz
    rw [← ht, Array.toList_setIfInBounds, List.take_set]
theorem xor_ne {x : UInt8} {y : Int} (hy : 0 ≤ y ∧ y < 256) (h0 : y ≠ 0) : ∃ c : UInt8, c ≠ x ∧ IntKind.u8.wrap (BitVec.ofInt IntKind.u8.bits (x.toNat : Int) ^^^ BitVec.ofInt IntKind.u8.bits y).toNat = (c.toNat : Int) := by
  refine ⟨UInt8.ofBitVec (x.toBitVec ^^^ BitVec.ofInt 8 y), fun e => h0 ?_, ?_⟩
  · have h2 := congrArg UInt8.toBitVec e
    have h3 : x.toBitVec ^^^ BitVec.ofInt 8 y = x.toBitVec := h2
    have h4 : x.toBitVec ^^^ (x.toBitVec ^^^ BitVec.ofInt 8 y) = x.toBitVec ^^^ x.toBitVec := by rw [h3]
    rw [← BitVec.xor_assoc, BitVec.xor_self, BitVec.zero_xor] at h4
    have h5 := congrArg BitVec.toNat h4
    simp only [BitVec.toNat_ofInt, BitVec.toNat_zero] at h5
    omega
  · have e1 : BitVec.ofInt IntKind.u8.bits (x.toNat : Int) = x.toBitVec := by
      apply BitVec.eq_of_toNat_eq
      have := x.toBitVec.isLt
      simp only [IntKind.bits, BitVec.toNat_ofInt, UInt8.toNat]
      omega
    rw [e1, u8w]
    show ((x.toBitVec ^^^ BitVec.ofInt 8 y).toNat : Int) % 256 = ((x.toBitVec ^^^ BitVec.ofInt 8 y).toNat : Int)
    have := (x.toBitVec ^^^ BitVec.ofInt 8 y).isLt
    omega
theorem CodecChanged_ret {v0 : Value} {ll : List (List Int)} {at_ by_ : Int} (hat : 0 ≤ at_ ∧ at_ < 65536) (hby : 0 ≤ by_ ∧ by_ < 256) (hi : ∀ l ∈ ll, ∀ n ∈ l, Cod.I64 n) (w : World) (h0 : LL w v0 ll) :
    Ret Try.prog 7 #[v0, .int .u16 at_, .int .u8 by_] w (TrueQ w) := by
  refine ret_of (fun _ _ => sh_landfalllaw08_CodecChanged_ok _ _ _) fun R hR => ?_
  unfold sh_landfalllaw08_CodecChanged
  obtain ⟨i8, hi8, hz8, hs8, _⟩ := Ty.info_parts Ty.u8_info
  refine callF_ret (head_ret w) ?_
  rintro _ w1 ⟨rfl, x1⟩
  have h0 := h0.ext x1
  refine join0 (fun w' => w' = w1 ∧ Few ll ∧ ll ≠ [] ∧ by_ ≠ 0) ?_ fun K hK => ?_
  · rintro _ w' ⟨rfl, hf, hne, hb0⟩
    refine callF_ret (frames_ret hi hf w' h0) ?_
    rintro _ w2 ⟨x2, vb, ve, rfl, hb, he⟩
    have hal := all_few hi hf (Nat.le_refl _)
    rw [List.take_of_length_le (Nat.le_refl _)] at hal
    have h10 := hf.1
    have hbs := Sl.of_owns hb
    have hes := Sl.of_owns he
    have h02 := h0.ext x2
    have hpos : 0 < ll.length := List.length_pos_iff.2 hne
    obtain ⟨n, hn⟩ : ∃ n, ll.length = n + 1 := ⟨ll.length - 1, by omega⟩
    have hlast : ll = ll.take n ++ [ll[n]'(by omega)] := by
      rw [← List.take_succ_eq_append_getElem (by omega), ← hn, List.take_of_length_le (Nat.le_refl _)]
    obtain ⟨l, hl⟩ : ∃ l, l = ll[n]'(by omega) := ⟨_, rfl⟩
    have hmem : l ∈ ll := by rw [hl]; exact List.getElem_mem _
    have hfr := frame_few (hi l hmem) (hf.2 l hmem)
    have hall : Cod.all ll = Cod.all (ll.take n) ++ Cod.frame l := by
      rw [hl, ← Cod.all_take_succ (by omega), ← hn, List.take_of_length_le (Nat.le_refl _)]
    have hlen : (Cod.all ll).length = (Cod.all (ll.take n)).length + (Cod.frame l).length := by rw [hall, List.length_append]
    rw [ext3_0, ext3_1, ext3_2]
    refine join0 (fun w8 => w8 = w2) ?_ fun K hK => ?_
    · rintro _ w8 hw
      subst w8
      refine join1 (fun x w3 => x = .int .i64 (Cod.all (ll.take n)).length ∧ w3 = w2) ?_ fun K hK => ?_
      · rintro _ _ w3 hfrom ⟨rfl, hw⟩
        subst w3
        rw [hfrom]
        refine lit_nobytes fun v3 w3 x3 h3 _ => ?_
        have z3 := x3.size
        refine app_bytes h3 (hbs.ext x3) (by simp; omega) z3 fun v4 w4 h4 m4 => ?_
        have x4 : Ext w2 w4 := ((Mod.of_ext x3 : Mod (w2.heap.size ≤ ·) w2 w3).trans (m4.mono fun k _ h => (Own.block h3 h).1)).new
        rw [List.nil_append] at h4
        obtain ⟨i, hieq⟩ : ∃ i, i = 3 + at_.toNat % ((Cod.frame l).length - 3) := ⟨_, rfl⟩
        have hm := Nat.mod_lt at_.toNat (show 0 < (Cod.frame l).length - 3 by omega)
        rw [bin_add, i64_wrap (by omega) (by omega), conv_int Ty.u16 Ty.int, i64_wrap (by omega) (by omega), (hbs.ext x4).len Ty.bytes, bin_sub, i64_wrap (by omega) (by omega), bin_sub, i64_wrap (by omega) (by omega), bin_rem (by omega),
          show ((Cod.all ll).length : Int) - (Cod.all (ll.take n)).length - 3 = (((Cod.frame l).length - 3 : Nat) : Int) by omega, tmod_nat hat.1, bin_add, i64_wrap (by omega) (by omega),
          show ((Cod.all (ll.take n)).length : Int) + 3 + ((at_.toNat % ((Cod.frame l).length - 3) : Nat) : Int) = (((Cod.all (ll.take n)).length + i : Nat) : Int) by omega]
        have hil : i < (Cod.frame l).length := by omega
        obtain ⟨g, o, hc, hg, hix⟩ := (Sl.of_owns h4).index Ty.bytes hi8 hs8 (k := .i64) (j := (Cod.all (ll.take n)).length + i) (by omega) (by decide)
        have hget : (Cod.all ll)[(Cod.all (ll.take n)).length + i]? = some (Cod.frame l)[i] := by
          rw [hall, List.getElem?_append_right (by omega), Nat.add_sub_cancel_left, List.getElem?_eq_getElem hil]
        rw [hix, load_cell Ty.u8_agg (u := .int .u8 ((Cod.frame l)[i]).toNat) (by rw [Nat.mul_one]; exact hc _ _ (by rw [bv, List.getElem?_map, hget]; rfl)), bin_xor]
        obtain ⟨c, hcne, hce⟩ := xor_ne (x := (Cod.frame l)[i]) hby hb0
        rw [hce]
        refine own_set Ty.bytes hi8 hs8 Ty.u8_size h4 (by omega) rfl fun w5 h5 m5 hsz5 => ?_
        have x5 : Ext w2 w5 := ((Mod.of_ext x4 : Mod (w2.heap.size ≤ ·) w2 w4).trans (m5.mono fun k _ h => by have := (Own.block h4 h).1; omega)).new
        have hset : (bv (Cod.all ll)).set ((Cod.all (ll.take n)).length + i) (.int .u8 c.toNat) = bv ((Cod.all ll).set ((Cod.all (ll.take n)).length + i) c) := by simp [bv, List.map_set]
        rw [hset] at h5
        have h5' : Sl w5 1 v4 ((Cod.all ll).set ((Cod.all (ll.take n)).length + i) c).length (bv ((Cod.all ll).set ((Cod.all (ll.take n)).length + i) c)) := by
          rw [List.length_set]; exact Sl.of_owns h5
        refine callF_ret (Frames_ret w5 h5') ?_
        rintro r w6 hq
        obtain ⟨m, rfl, hm', x6⟩ := hq.use
        have hfits : Cod.Fits (ll.take n) := (few_fits hi hf).take n
        rw [framesV_small (by rw [List.length_set]; omega), hall, Cod.frames_changed hfits (hi l hmem) (by have := hf.2 l hmem; omega) (by omega) hil hcne] at hm' ⊢
        rw [ext3_0, ext3_1, ext3_2]
        have x26 := x5.trans x6
        refine gd_t ?_
        rw [bin_eql]
        refine gd_t ?_
        rw [bin_eql, dec_same]
        refine gd_t ?_
        rw [(h02.ext x26).len, bin_sub, i64_wrap (by omega) (by omega), show (ll.length : Int) - 1 = (n : Int) by omega]
        refine (h02.ext x26).upto (by omega) fun v7 h7 => ?_
        refine callF_ret (SameLists_ret w6 hm' h7) ?_
        rintro _ w8 ⟨rfl, x8⟩
        exact hR _ _ ⟨by simp, x1.trans (x2.trans (x26.trans x8))⟩
      · rw [hes.len Ty.ints, endsOf_length, bin_gtr]
        refine Br_i (fun hb => ?_) fun hb => ?_
        · have h1 := dec_t hb
          rw [hes.len Ty.ints, endsOf_length, bin_sub, i64_wrap (by omega) (by omega), show (ll.length : Int) - 2 = ((n - 1 : Nat) : Int) by omega]
          obtain ⟨g, o, hg, hc, hix⟩ := ends_at hes (show n - 1 < ll.length by omega)
          rw [hix, load_cell Ty.int_agg hc, show n - 1 + 1 = n by omega]
          exact hK _ _ ⟨rfl, rfl⟩
        · have h1 := dec_f hb
          have : n = 0 := by omega
          subst this
          exact hK _ _ ⟨by simp [Cod.all], rfl⟩
    · refine join1 (fun b w4 => b = .bool false ∧ w4 = w2) ?_ fun K' hK' => ?_
      · rintro _ _ w4 hbb ⟨rfl, rfl⟩
        rw [hbb]
        exact br_f (hK _ rfl)
      · rw [un_not]
        refine gd_f ?_
        rw [hes.len Ty.ints, endsOf_length, h02.len, bin_neq]
        exact hK' _ _ ⟨by simp, rfl⟩
  · refine join1 (fun c w' => ∃ q, c = .bool q ∧ w' = w1 ∧ (q = false → Few ll ∧ ll ≠ [] ∧ by_ ≠ 0)) ?_ fun K' hK' => ?_
    · rintro _ _ w' hb ⟨q, rfl, rfl, hl⟩
      rw [hb]
      exact Br_i (fun _ => hR _ _ ⟨rfl, x1⟩) fun hq => hK _ ⟨rfl, hl hq⟩
    · refine callF_ret (small_ret w1 h0) ?_
      rintro _ w' ⟨sm, rfl, hf, hw⟩
      subst w'
      rw [un_not]
      refine Gd_i (fun hb => ?_) fun _ => hK' _ _ ⟨_, rfl, rfl, fun h => by cases h⟩
      have hf := hf (by simpa using hb)
      rw [h0.len, bin_eql]
      refine Gd_i (fun hb2 => ?_) fun _ => hK' _ _ ⟨_, rfl, rfl, fun h => by cases h⟩
      have h2 := dec_f hb2
      rw [bin_eql]
      exact hK' _ _ ⟨_, rfl, rfl, fun hb3 => ⟨hf, fun e => h2 (by rw [e]; rfl), by have := dec_f hb3; exact this⟩⟩
end Go.Proofs.Ytbmkdhiigapbdaa
