/- The walks of both whole. -/
import Derived.Test.YtahplhcijlgelaaFraW
import Derived.Test.YtahplhcijlgelaaEq
namespace Go.Proofs.Ytahplhcijlgelaa
set_option maxRecDepth 100000
open Sh Go.RowKit
/-- What whole of either kind returns. -/
def WholeQ (b : List UInt8) (w : World) (r : Value) (w' : World) : Prop :=
  Ext w w' ∧ match Cod.whole b with
    | none => r = .tuple #[.slice none 0 0, .int .i64 0]
    | some (ns, k) => ∃ v, r = .tuple #[v, .int .i64 k] ∧ w'.ownsRow w.heap.size 3 1 v ns.length (iv ns)
theorem arr_neq {w : World} {K : Value → World → Prop} {X : List PanicEntry → World → Prop} {ox oy : Operand} {a b : List UInt8} (ha : a.length = 8) (hb : b.length = 8) :
    DoV Try.prog (binS .neq 67 ox oy (.agg (bv a).toArray) (.agg (bv b).toArray)) w K X = K (.bool (!decide (a = b))) w := by
  obtain ⟨i8, hi8, hz8, hs8, _⟩ := Ty.info_parts Ty.u8_info
  refine DoV_ok ?_
  have e := equal_arr (P := Try.prog) (w := w) 9998 Ty.arr8 Ty.u8 hi8 hs8 Ty.u8_agg (a.map fun x => (x.toNat : Int)) (b.map fun x => (x.toNat : Int)) (by simpa using ha) (by simpa using hb)
  have e1 : ∀ c : List UInt8, (c.map fun x => (x.toNat : Int)).map (Value.int .u8) = bv c := fun c => by simp [bv]
  rw [e1, e1] at e
  have e2 : (a.map fun x => (x.toNat : Int)) = (b.map fun x => (x.toNat : Int)) ↔ a = b := by
    constructor
    · intro h
      exact (List.map_inj_right (fun x y hxy => UInt8.toNat_inj.1 (by have h2 : (x.toNat : Int) = y.toNat := hxy; omega))).1 h
    · rintro rfl; rfl
  simp only [e2] at e
  simp only [binS, Sem.run_bind, Ty.arr8_eq, Result.andThen_ok, run_neq_struct, e]
theorem whole_ret {v : Value} {b : List UInt8} (w : World) (hv : Sl w 1 v b.length (bv b)) : Ret Try.prog 39 #[v] w (WholeQ b w) := by
  refine ret_of (fun _ _ => sh_codec_whole_ok _) fun R hR => ?_
  unfold sh_codec_whole
  obtain ⟨i8, hi8, hz8, hs8, _⟩ := Ty.info_parts Ty.u8_info
  have hle := hv.le
  have hbad : ∀ w', Ext w w' → Cod.whole b = none → R (.returned (.tuple #[.slice none 0 0, .int .i64 0])) w' := fun w' he hn => hR _ _ ⟨he, by rw [hn]⟩
  rw [hv.len Ty.bytes, bin_lss]
  by_cases h11 : b.length < 11
  · rw [decide_eq_true (by omega), Br_bool, if_pos rfl]
    exact hbad _ (Ext.refl _) (by unfold Cod.whole; rw [if_pos (.inl h11)])
  rw [decide_eq_false (by omega), Br_bool, if_neg (by decide)]
  have hget : ∀ j (h : j < b.length), b.getD j 0 = b[j] := fun j h => by simp [h]
  have hbyte : ∀ c : UInt8, c.toNat < 256 := fun c => c.toBitVec.isLt
  have hlong : Cod.long b = b[0].toNat * 65536 + b[1].toNat * 256 + b[2].toNat := by unfold Cod.long; rw [hget 0 (by omega), hget 1 (by omega), hget 2 (by omega)]
  have h0 := hbyte b[0]
  have h1 := hbyte b[1]
  have h2 := hbyte b[2]
  refine draw_ext fun w2 he2 => ?_
  have hv2 := hv.ext he2
  have el : ∀ (j : Nat) (hj : j < b.length) {w3 : World} {g o : Nat} {K : Value → World → Prop} {X : List PanicEntry → World → Prop}, (∀ m u, (bv b)[m]? = some u → w2.cell? ⟨g, o + m, none⟩ = some u) → g < w2.heap.size → Ext w2 w3 → K (.int .u8 b[j].toNat) w3 → DoV Try.prog (Instr.loadAt 5 (.pointer (some ⟨g, o + j * 1, none⟩))) w3 K X := fun j hj w3 g o K X hc hg h3 hK => by
    rw [load_cell Ty.u8_agg (u := .int .u8 b[j].toNat) (by rw [Nat.mul_one]; exact cell_ext (hc j _ (bv_get hj)) hg h3)]; exact hK
  obtain ⟨g0, o0, hc0, hg0, hix0⟩ := hv2.index Ty.bytes hi8 hs8 (k := .i64) (show 0 < b.length by omega) (by decide)
  obtain ⟨g1, o1, hc1, hg1, hix1⟩ := hv2.index Ty.bytes hi8 hs8 (k := .i64) (show 1 < b.length by omega) (by decide)
  obtain ⟨g2, o2, hc2, hg2, hix2⟩ := hv2.index Ty.bytes hi8 hs8 (k := .i64) (show 2 < b.length by omega) (by decide)
  refine det_pure _ Ext.refl (fun w3 h3 K hK => by show DoV _ _ _ _ _; rw [show (0 : Int) = ((0 : Nat) : Int) from rfl, hix0]; exact hK) ?_
  refine det_pure _ Ext.refl (fun w3 h3 K hK => el 0 (by omega) hc0 hg0 h3 hK) ?_
  refine det_pure (.int .i64 b[0].toNat) Ext.refl (fun w3 h3 K hK => by show DoV _ _ _ _ _; rw [conv_int Ty.u8 Ty.int, i64_wrap (by omega) (by omega)]; exact hK) ?_
  refine det_pure (.int .i64 ((b[0].toNat * 65536 : Nat) : Int)) Ext.refl (fun w3 h3 K hK => by
    show DoV _ _ _ _ _; rw [bin_shl (by decide), show (2 : Int) ^ min (16 : Int).toNat IntKind.i64.bits = 65536 from rfl, i64_wrap (by omega) (by omega)]; exact hK) ?_
  refine det_pure _ Ext.refl (fun w3 h3 K hK => by show DoV _ _ _ _ _; rw [show (1 : Int) = ((1 : Nat) : Int) from rfl, hix1]; exact hK) ?_
  refine det_pure _ Ext.refl (fun w3 h3 K hK => el 1 (by omega) hc1 hg1 h3 hK) ?_
  refine det_pure (.int .i64 b[1].toNat) Ext.refl (fun w3 h3 K hK => by show DoV _ _ _ _ _; rw [conv_int Ty.u8 Ty.int, i64_wrap (by omega) (by omega)]; exact hK) ?_
  refine det_pure (.int .i64 ((b[1].toNat * 256 : Nat) : Int)) Ext.refl (fun w3 h3 K hK => by
    show DoV _ _ _ _ _; rw [bin_shl (by decide), show (2 : Int) ^ min (8 : Int).toNat IntKind.i64.bits = 256 from rfl, i64_wrap (by omega) (by omega)]; exact hK) ?_
  refine det_pure (.int .i64 ((b[0].toNat * 65536 + b[1].toNat * 256 : Nat) : Int)) Ext.refl (fun w3 h3 K hK => by show DoV _ _ _ _ _; rw [bin_add, i64_wrap (by omega) (by omega)]; simpa using hK) ?_
  refine det_pure _ Ext.refl (fun w3 h3 K hK => by show DoV _ _ _ _ _; rw [show (2 : Int) = ((2 : Nat) : Int) from rfl, hix2]; exact hK) ?_
  refine det_pure _ Ext.refl (fun w3 h3 K hK => el 2 (by omega) hc2 hg2 h3 hK) ?_
  refine det_pure (.int .i64 b[2].toNat) Ext.refl (fun w3 h3 K hK => by show DoV _ _ _ _ _; rw [conv_int Ty.u8 Ty.int, i64_wrap (by omega) (by omega)]; exact hK) ?_
  intro w3 h3 _
  have hL : ((b[0].toNat * 65536 + b[1].toNat * 256 : Nat) : Int) + b[2].toNat = (Cod.long b : Int) := by rw [hlong]; omega
  have hlt := Cod.long_lt b
  have x3 := he2.trans h3
  have hc3 : (3 : Int) + (Cod.long b : Int) = ((3 + Cod.long b : Nat) : Int) := by omega
  have hc8 : ((3 + Cod.long b : Nat) : Int) + 8 = ((Cod.long b + 11 : Nat) : Int) := by omega
  rw [bin_add, hL, i64_wrap (by omega) (by omega), bin_add, hc3, i64_wrap (by omega) (by omega), (hv.ext x3).len Ty.bytes, bin_add, hc8, i64_wrap (by omega) (by omega), bin_lss]
  by_cases hs : b.length < Cod.long b + 11
  · rw [decide_eq_true (by omega), Br_bool, if_pos rfl]
    exact hbad _ x3 (by unfold Cod.whole; rw [if_pos (.inr hs)])
  rw [decide_eq_false (by omega), Br_bool, if_neg (by decide)]
  have hw0 : Cod.whole b = if (b.drop (3 + Cod.long b)).take 8 ≠ Dig.bytes8 (Dig.text (b.take (3 + Cod.long b))) then none else (Cod.get ((b.take (3 + Cod.long b)).drop 3)).map fun l => (l, Cod.long b + 11) := by
    unfold Cod.whole; rw [if_neg (by omega)]
  refine slice_upto3 Ty.bytes hi8 hs8 (by decide) (hv.ext x3) (h := 3 + Cod.long b) (by omega) fun vb hvb _ => ?_
  have hvb3 : Sl w3 1 vb (b.take (3 + Cod.long b)).length (bv (b.take (3 + Cod.long b))) := by
    have e : (bv b).take ((3 + Cod.long b) * 1) = bv (b.take (3 + Cod.long b)) := by simp [bv, List.map_take]
    rw [e] at hvb
    rw [List.length_take, Nat.min_eq_left (by omega)]; exact hvb
  refine draw_ext fun w4 x4 => ?_
  have x04 := x3.trans x4
  refine ⟨sumV (b.take (3 + Cod.long b)), fun _ => True, fun _ _ _ _ => trivial, fun w5 h5 => callF_ret (sum_ret w5 ((hvb3.ext x4).ext h5)) fun r w6 hq => ⟨hq.1, hq.2, trivial⟩, ?_⟩
  refine det_pure (.int .i64 ((Cod.long b + 11 : Nat) : Int)) Ext.refl (fun w5 h5 K hK => by show DoV _ _ _ _ _; rw [bin_add, hc8, i64_wrap (by omega) (by omega)]; exact hK) ?_
  obtain ⟨vt, hvt, hsl⟩ := range_val (k := .i64) (k' := .i64) Ty.bytes hi8 hs8 (by decide) (hv.ext x04) (l := 3 + Cod.long b) (h := Cod.long b + 11) (by omega) (by omega)
  refine det_pure vt Ext.refl (fun w5 h5 K hK => by show DoV _ _ _ _ _; rw [hsl]; exact hK) ?_
  have hvt8 : Sl w4 1 vt 8 (bv ((b.drop (3 + Cod.long b)).take 8)) := by
    have e : ((bv b).take ((Cod.long b + 11) * 1)).drop ((3 + Cod.long b) * 1) = bv ((b.drop (3 + Cod.long b)).take 8) := by
      rw [Nat.mul_one, Nat.mul_one, List.drop_take, show Cod.long b + 11 - (3 + Cod.long b) = 8 by omega]
      simp [bv, List.map_take, List.map_drop]
    rw [e, show Cod.long b + 11 - (3 + Cod.long b) = 8 by omega] at hvt
    exact hvt
  obtain ⟨ga, oa, hca, hga, hav⟩ := arr_val Ty.arr8 (by decide) hvt8
  refine det_pure _ Ext.refl (fun w5 h5 K hK => by show DoV _ _ _ _ _; rw [hav]; exact hK) ?_
  have hl8 : ((b.drop (3 + Cod.long b)).take 8).length = 8 := by rw [List.length_take, List.length_drop]; omega
  refine det_pure (.agg (bv ((b.drop (3 + Cod.long b)).take 8)).toArray) Ext.refl (fun w5 h5 K hK => by
    show DoV _ _ _ _ _
    rw [load_arr (n := 8) (xs := bv ((b.drop (3 + Cod.long b)).take 8)) Ty.arr8_agg Ty.arr8_size (by rw [bv_length]; exact hl8) (fun j u hu => cell_ext (hca j u hu) hga h5)]
    exact hK) ?_
  intro w5 h5 _
  have x05 := x04.trans h5
  rw [sumV, arr_neq (bytes8_length _) hl8]
  by_cases hd : Dig.bytes8 (Dig.text (b.take (3 + Cod.long b))) = (b.drop (3 + Cod.long b)).take 8
  · rw [decide_eq_true hd, Br_bool, if_neg (by decide)]
    rw [if_neg (by simpa using hd.symm)] at hw0
    refine slice_from Ty.bytes hi8 hs8 (by decide) ((hvb3.ext x4).ext h5) (l := 3) (by rw [List.length_take]; omega) fun vg hvg _ => ?_
    have hvg5 : Sl w5 1 vg ((b.take (3 + Cod.long b)).drop 3).length (bv ((b.take (3 + Cod.long b)).drop 3)) := by
      have e : (bv (b.take (3 + Cod.long b))).drop (3 * 1) = bv ((b.take (3 + Cod.long b)).drop 3) := by simp [bv, List.map_drop]
      rw [e] at hvg
      rw [List.length_drop]; exact hvg
    refine callF_ret (Get_ret w5 hvg5) ?_
    rintro r w6 ⟨x6, hg⟩
    have z5 := x05.size
    cases hgt : Cod.get ((b.take (3 + Cod.long b)).drop 3) with
    | none =>
      rw [hgt] at hg hw0
      simp only at hg
      subst hg
      rw [ext2_0, ext2_1, formE, bin_neq, decide_eq_false (by decide), Br_bool, if_pos (by decide)]
      exact hbad _ (x05.trans x6) hw0
    | some ns =>
      rw [hgt] at hg hw0
      obtain ⟨vn, rfl, hn⟩ := hg
      rw [ext2_0, ext2_1, okE, bin_neq, decide_eq_true rfl, Br_bool, if_neg (by decide), bin_add, hc8, i64_wrap (by omega) (by omega)]
      refine hR _ _ ⟨x05.trans x6, ?_⟩
      rw [hw0]
      exact ⟨vn, rfl, Own.mono hn z5⟩
  · rw [decide_eq_false hd, Br_bool, if_pos (by decide)]
    rw [if_pos (fun e => hd e.symm)] at hw0
    exact hbad _ x05 hw0
end Go.Proofs.Ytahplhcijlgelaa
