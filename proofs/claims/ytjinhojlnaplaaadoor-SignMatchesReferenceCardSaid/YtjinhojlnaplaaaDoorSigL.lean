/- The walks of the six laws of sign. -/
import Derived.Test.YtjinhojlnaplaaaDoorSigP
import Derived.Test.YtjinhojlnaplaaaDoorSigW4
namespace Go.Proofs.YtjinhojlnaplaaaDoor
set_option maxRecDepth 100000
set_option maxHeartbeats 4000000
open Sh Go.RowKit
theorem min_int {P : Program} {t : TypeId} {ts : Array TypeId} {cs : Array Bool} {a b : Int} {w : World} {K : Value → World → Prop} {X : List PanicEntry → World → Prop} : CallB P .min ts t cs #[.int .i64 a, .int .i64 b] w K X = K (.int .i64 (if b < a then b else a)) w := by
  have e : (Builtin.min_ ts t #[.int .i64 a, .int .i64 b]).run P w = .ok (.int .i64 (if b < a then b else a)) w := by
    simp [Builtin.min_, Builtin.min2, List.foldlM]
  simp only [CallB, Do, builtin, Sem.run_bind, e, Result.andThen_ok, Sem.run_pure]
theorem few_ret {v : Value} {l : List Int} (w : World) (hv : Sl w 1 v l.length (iv l)) : Ret Tryd.prog 14 #[v] w fun r w' => w' = w ∧ Sl w 1 r (l.take 20).length (iv (l.take 20)) := by
  refine ret_of (fun _ _ => sh_landfalllaw11_few_ok _) fun R hR => ?_
  unfold sh_landfalllaw11_few
  obtain ⟨ii, hii, hiz, his, hib⟩ := Ty.info_parts Ty.int_info
  have e : (if (20 : Int) < (l.length : Int) then 20 else (l.length : Int)) = ((min l.length 20 : Nat) : Int) := by split <;> omega
  rw [hv.len Ty.ints, min_int, e]
  refine slice_upto (h := min l.length 20) Ty.ints hii his (by decide) hv (by omega) fun v' hv' _ => hR _ _ ⟨rfl, ?_⟩
  have e2 : (iv l).take (min l.length 20 * 1) = iv (l.take 20) := by
    rw [Nat.mul_one, iv, ← List.map_take]
    show iv _ = _
    congr 1
    rcases Nat.le_total l.length 20 with h | h
    · rw [Nat.min_eq_left h, List.take_of_length_le (Nat.le_refl _), List.take_of_length_le h]
    · rw [Nat.min_eq_right h]
  rw [e2] at hv'
  rw [List.length_take, Nat.min_comm]
  exact hv'
theorem small_few {l : List Int} (h : ∀ n ∈ l, I64 n) : SmallList (l.take 20) := ⟨fun n hn => h n (List.mem_of_mem_take hn), by rw [List.length_take]; omega⟩
theorem small_few' {l : List Int} (h : ∀ n ∈ l, I64 n) : (∀ n ∈ l.take 20, I64 n) ∧ (l.take 20).length ≤ 900000 := ⟨fun n hn => h n (List.mem_of_mem_take hn), by rw [List.length_take]; omega⟩
def sec (z : BitVec 64) : Nat := z.toNat % 1073741788 + 1
theorem sec_in (z : BitVec 64) : 1 ≤ sec z ∧ sec z < Sig.Q := by
  have hq : Sig.Q = 1073741789 := rfl
  unfold sec; omega
theorem head_ret (w : World) (ht : Tab w) : Ret Tryd.prog 13 #[] w fun r w' => r = .bool true ∧ Ext w w' := by
  refine ret_of (fun _ _ => sh_landfalllaw11_head_ok) fun R hR => ?_
  unfold sh_landfalllaw11_head
  have e1 : Sig.expV 4 3 = (64, 0) := by
    have := Sig.expV_of (a := 4) (x := 3) Sig.member_4 (by decide)
    exact this
  have e2 : Sig.pubV 5 = (1024, 0) := by
    have := Sig.pubV_of (s := 5) (by decide) (by decide)
    exact this
  have e3 : ∀ m, Sig.signV 5 7 m = (Sig.sigOf 5 7 m, 0) := fun m => by
    have := Sig.signV_of (s := 5) (o := 7) (m := m) (by decide) (by decide) (by decide) (by decide)
    exact this
  have e4 : Sig.verV 1024 (Sig.sigOf 5 7 [1, 2]) [1, 2] = (true, 0) := by
    have := Sig.sign_right 5 7 [1, 2]
    exact this
  have e5 : Sig.pubV 0 = (0, 1) := by decide
  have hm : SmallList [1, 2] := ⟨by simp [I64], by decide⟩
  refine callF_ret (Exp_ret 4 3 w) ?_
  rintro _ w1 ⟨rfl, x1⟩
  rw [e1, ext2_0, ext2_1]
  refine callF_ret (Public_ret 5 w1) ?_
  rintro _ w2 ⟨rfl, x2⟩
  rw [e2, ext2_0, ext2_1]
  refine lit_ints [1, 2] rfl (by decide) (by decide) rfl fun v3 w3 x3 h3 _ => ?_
  have x03 := (x1.trans x2).trans x3
  refine callF_ret (Sign_ret hm w3 (Sl.of_owns h3) (ht.ext x03)) ?_
  rintro _ w4 ⟨rfl, x4⟩
  rw [e3, ext2_0, ext2_1]
  refine alloc_i Ty.SSig_zero fun b w5 x5 hat hb _ => ?_
  refine SSig.set (r := SSig.zero) (s := Sig.sigOf 5 7 [1, 2]) hat fun w6 m6 h6 _ => ?_
  have x04 := x03.trans x4
  have z4 := x04.size
  have m06 : Mod (w.heap.size ≤ ·) w w6 := (Mod.of_ext (x04.trans x5) : Mod (w.heap.size ≤ ·) w w5).trans (m6.mono fun k _ h => by omega)
  rw [SSig.g_all (has_of_at h6)]
  refine lit_ints [1, 2] rfl (by decide) (by decide) rfl fun v7 w7 x7 h7 _ => ?_
  have x07 := m06.new.trans x7
  refine callF_ret (Verify_ret hm w7 (Sl.of_owns h7) (ht.ext x07)) ?_
  rintro _ w8 ⟨rfl, x8⟩
  rw [e4, ext2_0, ext2_1]
  refine callF_ret (Public_ret 0 w8) ?_
  rintro _ w9 ⟨rfl, x9⟩
  rw [e5, ext2_0, ext2_1]
  have x09 := (x07.trans x8).trans x9
  refine join1 (fun q w' => w' = w9 ∧ q = .bool true) ?_ fun K hK => ?_
  · rintro _ _ w' hq ⟨rfl, rfl⟩
    rw [hq]
    refine gd_t ?_
    rw [bin_eql, dec_same]; refine gd_t ?_
    rw [bin_eql, dec_same]; refine gd_t ?_
    refine gd_t ?_
    refine callF_ret (Member_ret 4 w') ?_
    rintro _ w10 ⟨rfl, x10⟩
    rw [Sig.member_4]; refine gd_t ?_
    refine callF_ret (Member_ret 9 w10) ?_
    rintro _ w11 ⟨rfl, x11⟩
    rw [Sig.member_9]; refine gd_t ?_
    refine callF_ret (Member_ret 2 w11) ?_
    rintro _ w12 ⟨rfl, x12⟩
    rw [Sig.member_2, un_not]; refine gd_t ?_
    refine callF_ret (Member_ret 0 w12) ?_
    rintro _ w13 ⟨rfl, x13⟩
    rw [Sig.member_0, un_not]
    exact hR _ _ ⟨rfl, (((x09.trans x10).trans x11).trans x12).trans x13⟩
  · rw [bin_eql, dec_same]; refine gd_t ?_
    rw [bin_eql, dec_same]; refine gd_t ?_
    rw [bin_eql, dec_same]; refine gd_t ?_
    rw [bin_eql, dec_same]; refine gd_t ?_
    rw [bin_eql, dec_same]
    exact hK _ _ ⟨rfl, rfl⟩
theorem mod_u64 (z : BitVec 64) : IntKind.i64.wrap ((z.toNat : Int).tmod 1073741789) = ((z.toNat % Sig.Q : Nat) : Int) := chal_val z
end Go.Proofs.YtjinhojlnaplaaaDoor
