/- The walks of sign: challenges, Sign, Verify; and of the reference's. -/
import Derived.Test.YtjinhojlnaplaaaDoorSigW2
namespace Go.Proofs.YtjinhojlnaplaaaDoor
set_option maxRecDepth 100000
set_option maxHeartbeats 2000000
open Sh Go.RowKit
def SmallList (l : List Int) : Prop := (∀ n ∈ l, I64 n) ∧ l.length ≤ 1000000
theorem chal_val (d : BitVec 64) : IntKind.i64.wrap ((d.toNat : Int).tmod 1073741789) = ((d.toNat % Sig.Q : Nat) : Int) := by
  have e : (d.toNat : Int).tmod 1073741789 = ((d.toNat % Sig.Q : Nat) : Int) := rfl
  have h := Nat.mod_lt d.toNat (show 0 < Sig.Q by decide)
  have hq : Sig.Q = 1073741789 := rfl
  rw [e, i64_wrap (by omega) (by omega)]
theorem challenge_ret {a p : Int} {v : Value} {m : List Int} (ha : I64 a) (hp : I64 p) (hm : SmallList m) (w : World) (hv : Sl w 1 v m.length (iv m)) (ht : Tab w) :
    Ret Tryd.prog 56 #[.int .i64 a, .int .i64 p, v] w fun r w' => r = .int .i64 (Sig.chal (a :: p :: m) : Nat) ∧ Ext w w' := by
  refine ret_of (fun _ _ => sh_sign_challenge_ok _ _ _) fun R hR => ?_
  unfold sh_sign_challenge
  have hl := hm.2
  refine lit_ints [a, p] rfl (by decide) (by decide) rfl fun v1 w1 x1 h1 _ => ?_
  have z1 := x1.size
  refine app_ints h1 (hv.ext x1) (by simp; omega) z1 fun v2 w2 h2 m2 => ?_
  have x2 : Ext w w2 := ((Mod.of_ext x1 : Mod (w.heap.size ≤ ·) w w1).trans (m2.mono fun k _ h => (Own.block h1 h).1)).new
  have h2 : Sl w2 1 v2 (a :: p :: m).length (iv (a :: p :: m)) := Sl.of_owns h2
  refine callF_ret (sum_int_ret (l := a :: p :: m) (by intro n hn; simp only [List.mem_cons] at hn; rcases hn with rfl | rfl | hn; exact ha; exact hp; exact hm.1 n hn) w2 h2 (ht.ext x2)) ?_
  rintro _ w3 ⟨rfl, x3⟩
  rw [u64v, bin_rem (by decide), conv_int Ty.u64 Ty.int, chal_val]
  exact hR _ _ ⟨rfl, x2.trans x3⟩
theorem Challenge_ret {v : Value} {l : List Int} (hl : SmallList l) (w : World) (hv : Sl w 1 v l.length (iv l)) : Ret Tryd.prog 26 #[v] w fun r w' => r = .int .i64 (Sig.chal l : Nat) ∧ Ext w w' := by
  refine ret_of (fun _ _ => sh_landfallref11_Challenge_ok _) fun R hR => ?_
  unfold sh_landfallref11_Challenge
  refine callF_ret (ref_sum_ret hl.1 (by have := hl.2; omega) w hv) ?_
  rintro _ w3 ⟨rfl, x3⟩
  rw [u64v, bin_rem (by decide), conv_int Ty.u64 Ty.int, chal_val]
  exact hR _ _ ⟨rfl, x3⟩
/-- after: two integers and a list. -/
theorem after_ret {a b : Int} {v : Value} {m : List Int} (hm : SmallList m) (w : World) (hv : Sl w 1 v m.length (iv m)) : Ret Tryd.prog 55 #[.int .i64 a, .int .i64 b, v] w fun r w' => Ext w w' ∧ Sl w' 1 r (a :: b :: m).length (iv (a :: b :: m)) := by
  refine ret_of (fun _ _ => sh_landfallref11_after_ok _ _ _) fun R hR => ?_
  unfold sh_landfallref11_after
  have hl := hm.2
  refine lit_ints [a, b] rfl (by decide) (by decide) rfl fun v1 w1 x1 h1 _ => ?_
  have z1 := x1.size
  refine loop2 (fun x y w2 => ∃ k : Nat, k ≤ m.length ∧ y = .int .i64 k ∧ w2.ownsRow w.heap.size 3 1 x (a :: b :: m.take k).length (iv (a :: b :: m.take k)) ∧ Mod (w.heap.size ≤ ·) w w2) (fun _ y _ => m.length - (intOf y).toNat) ⟨0, by omega, rfl, h1, .of_ext x1⟩ ?_
  rintro h x _ w2 hx hy ⟨k, hk, rfl, ho, hm2⟩ K hK
  have x2 := hm2.new
  have z2 := x2.size
  rw [hx, hy, (hv.ext x2).len Ty.ints, bin_lss]
  refine Br_i (fun hb => ?_) fun hb => ?_
  · have hlt : k < m.length := by have := dec_t hb; omega
    rw [int_elem (n := (k : Int)) hv x2 k rfl (List.getElem?_eq_getElem hlt)]
    refine lit_ints [m[k]] rfl (by decide) (by decide) rfl fun v3 w3 x3 h3 _ => ?_
    have z3 := x3.size
    refine app_ints (m := [m[k]]) (Own.ext ho x3) (Sl.of_owns h3) (by simp; omega) (by omega) fun v4 w4 h4 m4 => ?_
    rw [bin_add, i64_wrap (by omega) (by omega)]
    refine hK _ _ _ ⟨k + 1, by omega, by simp, ?_, (hm2.trans (.of_ext x3)).trans (m4.mono fun j _ h => (Own.block (Own.ext ho x3) h).1)⟩ (by simp [intOf]; omega)
    rw [List.take_succ_eq_append_getElem hlt]
    exact h4
  · have hge : m.length ≤ k := by have := dec_f hb; omega
    rw [List.take_of_length_le hge] at ho
    exact hR _ _ ⟨x2, Sl.of_owns ho⟩
theorem new_sig (e s : Int) : Tryd.prog.built 23 [(0, .int .i64 e), (1, .int .i64 s)] = some (SSig.mk e s).cells.toArray := by kernel_rfl
theorem new_nosig : Tryd.prog.built 23 [] = some SSig.zero.cells.toArray := by kernel_rfl
theorem sig_s {e o s : Nat} (he : e < Sig.Q) (ho : o < Sig.Q) (hs : s < Sig.Q) : (IntKind.i64.wrap ((o : Int) + IntKind.i64.wrap ((e : Int) * (s : Int)))).tmod 1073741789 = (((o + e * s) % Sig.Q : Nat) : Int) := by
  have hq : Sig.Q = 1073741789 := rfl
  have h := mul_small (n := 1073741789) he hs (by decide)
  have e1 : (e : Int) * (s : Int) = ((e * s : Nat) : Int) := by simp
  rw [e1, i64_wrap (x := ((e * s : Nat) : Int)) (by omega) (by omega), i64_wrap (by omega) (by omega)]
  have e2 : (o : Int) + ((e * s : Nat) : Int) = ((o + e * s : Nat) : Int) := by omega
  rw [e2]
  rfl
theorem pw_i64 (a x : Nat) : I64 (Sig.pw a x : Int) := by
  have h := Sig.pw_lt a x
  have hp : Sig.P = 2147483579 := rfl
  unfold I64; omega
theorem signature_ret {s o : Nat} {v : Value} {m : List Int} (hs : s < Sig.Q) (ho : o < Sig.Q) (hm : SmallList m) (w : World) (hv : Sl w 1 v m.length (iv m)) (ht : Tab w) :
    Ret Tryd.prog 54 #[.int .i64 s, .int .i64 o, v] w fun r w' => r = .agg (Sig.sigOf s o m).cells.toArray ∧ Ext w w' := by
  refine ret_of (fun _ _ => sh_sign_signature_ok _ _ _) fun R hR => ?_
  unfold sh_sign_signature
  have hq : Sig.Q = 1073741789 := rfl
  refine alloc_i Ty.SSig_zero fun b w1 x1 hat hb _ => ?_
  refine callF_ret (power_ret (a := 4) (by decide) (by omega) w1) ?_
  rintro _ w2 ⟨rfl, x2⟩
  refine callF_ret (power_ret (a := 4) (by decide) (by omega) w2) ?_
  rintro _ w3 ⟨rfl, x3⟩
  have x13 := x2.trans x3
  refine callF_ret (challenge_ret (pw_i64 _ _) (pw_i64 _ _) hm w3 (hv.ext (x1.trans x13)) (ht.ext (x1.trans x13))) ?_
  rintro _ w4 ⟨rfl, x4⟩
  have x14 := x13.trans x4
  rw [bin_mul, bin_add, bin_rem (by decide), sig_s (Sig.chal_lt _) ho hs, build_i (new_sig _ _)]
  refine SSig.set (r := SSig.zero) (s := Sig.sigOf s o m) (hat.ext x14) fun w5 m5 h5 _ => ?_
  have hvv : (loadVar 23 ⟨b, 0, none⟩).run Tryd.prog w5 = .ok (.agg (Sig.sigOf s o m).cells.toArray) w5 := loadVar_agg Ty.SSig_agg Ty.SSig_size (xs := (Sig.sigOf s o m).cells) rfl (has_of_at h5)
  refine res_i (rv_cell hvv (rv_nil w5)) ?_
  exact hR _ _ ⟨rfl, ((Mod.of_ext (x1.trans x14) : Mod (w.heap.size ≤ ·) w w4).trans (m5.mono fun k _ h => by omega)).new⟩
def SignQ (s o : Int) (m : List Int) (w : World) (r : Value) (w' : World) : Prop := r = .tuple #[.agg (Sig.signV s o m).1.cells.toArray, .int .i64 (Sig.signV s o m).2] ∧ Ext w w'
theorem sign_out {s o : Int} {m : List Int} {w0 w : World} {b : Nat} {g : SSig} {e : Int} {R : Ending → World → Prop} (hR : ∀ v w', SignQ s o m w0 v w' → R (.returned v) w') (hx : Ext w0 w) (hb : w0.heap.size ≤ b) (hat : At w b (.cells SSig.zero.cells.toArray 23 (0, 0))) (hv : Sig.signV s o m = (g, e)) :
    DoU Tryd.prog (Instr.storeAt 23 (.pointer (some ⟨b, 0, none⟩)) (.agg g.cells.toArray)) w (fun _ w2 => Res Tryd.prog [.cell (.pointer (some ⟨b, 0, none⟩)) 23, .tmp (.int .i64 e)] w2 R) (Pan R) := by
  refine SSig.set (r := SSig.zero) (s := g) hat fun w5 m5 h5 _ => ?_
  have hvv : (loadVar 23 ⟨b, 0, none⟩).run Tryd.prog w5 = .ok (.agg g.cells.toArray) w5 := loadVar_agg Ty.SSig_agg Ty.SSig_size (xs := g.cells) rfl (has_of_at h5)
  refine res_i (rv_cell hvv (rv_tmp (rv_nil w5))) ?_
  exact hR _ _ ⟨by rw [hv]; rfl, ((Mod.of_ext hx : Mod (w0.heap.size ≤ ·) w0 w).trans (m5.mono fun k _ h => by omega)).new⟩
theorem signV_bad {s o : Int} {m : List Int} (h : (Sig.inQ 1 s && Sig.inQ 1 o) = false) : Sig.signV s o m = (SSig.zero, 1) := by
  unfold Sig.signV
  rw [if_neg]
  rintro ⟨h1, h2⟩
  rw [h1, h2] at h; cases h
theorem signV_ok {s o : Nat} {m : List Int} (h1 : Sig.inQ 1 s = true) (h2 : Sig.inQ 1 o = true) : Sig.signV s o m = (Sig.sigOf s o m, 0) := by
  unfold Sig.signV
  rw [if_pos ⟨h1, h2⟩]; rfl
theorem Sign_ret {s o : Int} {v : Value} {m : List Int} (hm : SmallList m) (w : World) (hv : Sl w 1 v m.length (iv m)) (ht : Tab w) : Ret Tryd.prog 21 #[.int .i64 s, .int .i64 o, v] w (SignQ s o m w) := by
  refine ret_of (fun _ _ => sh_sign_Sign_ok _ _ _) fun R hR => ?_
  unfold sh_sign_Sign
  refine alloc_i Ty.SSig_zero fun b w1 x1 hat hb _ => ?_
  refine join0 (fun w' => w' = w1 ∧ Sig.inQ 1 s = true ∧ Sig.inQ 1 o = true) ?_ fun K hK => ?_
  · rintro _ w2 ⟨rfl, h1, h2⟩
    obtain ⟨s, rfl, h3, h4⟩ := Sig.inQ_nat h1 (by decide)
    obtain ⟨o, rfl, h5, h6⟩ := Sig.inQ_nat h2 (by decide)
    refine callF_ret (signature_ret h4 h6 hm w2 (hv.ext x1) (ht.ext x1)) ?_
    rintro _ w3 ⟨rfl, x3⟩
    exact sign_out hR (x1.trans x3) (by omega) (hat.ext x3) (signV_ok h1 h2)
  · refine join1 (fun q w' => w' = w1 ∧ q = .bool (!(Sig.inQ 1 s && Sig.inQ 1 o))) ?_ fun K2 hK2 => ?_
    · rintro _ _ w2 hq ⟨rfl, rfl⟩
      rw [hq]
      refine Br_i (fun hb2 => ?_) fun hb2 => ?_
      · rw [build_i new_nosig]
        exact sign_out hR x1 (by omega) hat (signV_bad (by rwa [Bool.not_eq_true'] at hb2))
      · have hb2 : (Sig.inQ 1 s && Sig.inQ 1 o) = true := by simpa using hb2
        rw [Bool.and_eq_true] at hb2
        exact hK _ ⟨rfl, hb2⟩
    · refine callF_same (within_ret s 1 w1) ?_
      rw [un_not]
      refine Gd_i (fun hb => ?_) fun hb => ?_
      · have hb : Sig.inQ 1 s = true := by simpa using hb
        refine callF_same (within_ret o 1 w1) ?_
        rw [un_not]
        exact hK2 _ _ ⟨rfl, by rw [hb, Bool.true_and]⟩
      · have hb : Sig.inQ 1 s = false := by simpa using hb
        exact hK2 _ _ ⟨rfl, by rw [hb]; rfl⟩
theorem small_cons {a b : Int} {m : List Int} (ha : I64 a) (hb : I64 b) (hm : (∀ n ∈ m, I64 n) ∧ m.length ≤ 900000) : SmallList (a :: b :: m) :=
  ⟨by intro n hn; simp only [List.mem_cons] at hn; rcases hn with rfl | rfl | hn; exact ha; exact hb; exact hm.1 n hn, by have := hm.2; simp; omega⟩
theorem refSign_ret {s o : Int} {v : Value} {m : List Int} (hm : (∀ n ∈ m, I64 n) ∧ m.length ≤ 900000) (w : World) (hv : Sl w 1 v m.length (iv m)) : Ret Tryd.prog 22 #[.int .i64 s, .int .i64 o, v] w (SignQ s o m w) := by
  refine ret_of (fun _ _ => sh_landfallref11_Sign_ok _ _ _) fun R hR => ?_
  unfold sh_landfallref11_Sign
  have hq : Sig.Q = 1073741789 := rfl
  refine alloc_i Ty.SSig_zero fun b w1 x1 hat hb _ => ?_
  refine callF_same (Secret_ret s w1) ?_
  refine callF_same (Secret_ret o w1) ?_
  refine join0 (fun w' => w' = w1 ∧ Sig.inQ 1 s = true ∧ Sig.inQ 1 o = true) ?_ fun K hK => ?_
  · rintro _ w2 ⟨rfl, h1, h2⟩
    obtain ⟨s, rfl, h3, h4⟩ := Sig.inQ_nat h1 (by decide)
    obtain ⟨o, rfl, h5, h6⟩ := Sig.inQ_nat h2 (by decide)
    refine callF_same (Power_ret (a := 4) (m := 2147483579) (by decide) (by omega) (by decide) (by decide) w2) ?_
    refine callF_same (Power_ret (a := 4) (m := 2147483579) (by decide) (by omega) (by decide) (by decide) w2) ?_
    refine callF_ret (after_ret (a := (Sig.pw 4 o : Int)) (b := (Sig.pw 4 s : Int)) ⟨hm.1, by omega⟩ w2 (hv.ext x1)) ?_
    rintro va w3 ⟨x3, hva⟩
    refine callF_ret (Challenge_ret (small_cons (pw_i64 _ _) (pw_i64 _ _) hm) w3 hva) ?_
    rintro _ w4 ⟨rfl, x4⟩
    rw [bin_mul, bin_add, bin_rem (by decide), sig_s (Sig.chal_lt _) h6 h4, build_i (new_sig _ _)]
    exact sign_out (g := Sig.sigOf s o m) hR ((x1.trans x3).trans x4) (by omega) ((hat.ext x3).ext x4) (signV_ok h1 h2)
  · refine join1 (fun q w' => w' = w1 ∧ q = .bool (!(Sig.inQ 1 s && Sig.inQ 1 o))) ?_ fun K2 hK2 => ?_
    · rintro _ _ w2 hq ⟨rfl, rfl⟩
      rw [hq]
      refine Br_i (fun hb2 => ?_) fun hb2 => ?_
      · rw [build_i new_nosig]
        exact sign_out hR x1 (by omega) hat (signV_bad (by rwa [Bool.not_eq_true'] at hb2))
      · have hb2 : (Sig.inQ 1 s && Sig.inQ 1 o) = true := by simpa using hb2
        rw [Bool.and_eq_true] at hb2
        exact hK _ ⟨rfl, hb2⟩
    · rw [un_not]
      refine Gd_i (fun hb => ?_) fun hb => ?_
      · have hb : Sig.inQ 1 s = true := by simpa using hb
        rw [un_not]
        exact hK2 _ _ ⟨rfl, by rw [hb, Bool.true_and]⟩
      · have hb : Sig.inQ 1 s = false := by simpa using hb
        exact hK2 _ _ ⟨rfl, by rw [hb]; rfl⟩
end Go.Proofs.YtjinhojlnaplaaaDoor
