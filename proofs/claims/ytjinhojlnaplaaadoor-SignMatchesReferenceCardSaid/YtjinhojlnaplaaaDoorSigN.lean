/- The walk of the law Challenges of sign. -/
import Derived.Test.YtjinhojlnaplaaaDoorSigM
namespace Go.Proofs.YtjinhojlnaplaaaDoor
set_option maxRecDepth 100000
set_option maxHeartbeats 4000000
open Sh Go.RowKit
def chalB (p : Nat) (s : SSig) (l : List Int) : Bool := decide ((Sig.chal ((Sig.back p s : Nat) :: (p : Int) :: l) : Int) = s.e)
/-- The challenge of a signature, as the reference reckons it, held against the signature. -/
theorem chal_region {p g i j k : Nat} {s : SSig} {vl : Value} {l : List Int} {w : World} {ox oy : Operand} {R : Ending → World → Prop} {K : Value → World → Prop} (hp : p < Sig.P) (he : Sig.inQ 0 s.e = true) (hs : Sig.inQ 0 s.s = true) (hm : (∀ n ∈ l, I64 n) ∧ l.length ≤ 900000)
    (hat : At w g (.cells s.cells.toArray 23 (0, 0))) (hv : Sl w 1 vl l.length (iv l)) (hk : ∀ w', Ext w w' → K (.bool (chalB p s l)) w') :
    DrawR w fun R0 S0 w0 =>
      DetOp R0 (Both R0 S0) w0 (fun w1 K => DoV Tryd.prog (Instr.loadAt 23 (.pointer (some ⟨g, 0, none⟩))) w1 K (Pan R)) fun c1 ψ1 =>
      DetOp R0 (Both R0 S0) w0 (fun w1 K => CallF Tryd.prog 27 #[.int .i64 p, c1] w1 K (Pan R)) fun c2 ψ2 =>
      DetOp R0 (Both R0 S0) w0 (fun w1 K => DoV Tryd.prog (Instr.fieldAt 23 (.pointer (some ⟨g, 0, none⟩)) 0) w1 K (Pan R)) fun c3 ψ3 =>
      DetOp R0 (Both R0 S0) w0 (fun w1 K => DoV Tryd.prog (Instr.loadAt 3 c3) w1 K (Pan R)) fun c4 ψ4 =>
      ThrE R0 S0 0 w0 (fun Θ T =>
        NdC R0 S0 0 w0 Θ (fun w1 K => DoV Tryd.prog (Instr.buildSlice 24 2 #[(0, c2), (1, .int .i64 p)]) w1 K (Pan R)) fun v1 φ1 =>
        NdC R0 S0 0 w0 φ1 (fun w1 K => CallB Tryd.prog .append #[24, 24] 24 #[false, false] #[v1, vl] w1 K (Pan R)) fun v2 φ2 =>
        NdC R0 S0 0 w0 φ2 (fun w1 K => CallF Tryd.prog 26 #[v2] w1 K (Pan R)) fun v3 φ3 =>
        T [v1, v2, v3] φ3) fun Φ =>
      ∀ (h : Nat → Value) (w1 : World), R0 w0 w1 → ((((True ∧ ψ1 w1) ∧ ψ2 w1) ∧ ψ3 w1) ∧ ψ4 w1) ∧ (True ∧ Φ [h i, h j, h k] w1) →
        DoV Tryd.prog (binS .eql 3 ox oy (h k) c4) w1 K (Pan R) := by
  have hP : Sig.P = 2147483579 := rfl
  refine drawR1 fun w3 x3 hs3 => ?_
  have hat3 := hat.ext x3
  have hh : ∀ w4, Mod (w3.heap.size ≤ ·) w3 w4 → Has w4 g 0 s.cells := fun w4 m4 => has_of_at (hat3.ext m4.new)
  refine det_r1 (.agg s.cells.toArray) (fun w4 m4 K => SSig.g_all (hh w4 m4)) ?_
  refine det_call1 (.int .i64 (Sig.back p s : Nat)) (fun w4 m4 => Back_ret hp he hs w4) ?_
  refine det_r1 _ (fun w4 m4 K => Ty.SSig_f0) ?_
  refine det_r1 (.int .i64 s.e) (fun w4 m4 K => load_cell Ty.int_agg (has_at (hh w4 m4) (d := 0) rfl rfl)) ?_
  refine thr_1 (fun vs _ => ∃ v1 v2, vs = [v1, v2, .int .i64 (Sig.chal ((Sig.back p s : Nat) :: (p : Int) :: l) : Nat)]) ?_ ?_
  · refine nd_last (fun v w4 => w4.ownsRow w3.heap.size 3 1 v 2 (iv [(Sig.back p s : Int), (p : Int)])) (fun v a b hs hx => Own.ext hs hx) (fun w4 m4 _ => ?_) fun v1 => ?_
    · refine lit_ints [(Sig.back p s : Int), (p : Int)] rfl (by decide) (by decide) rfl fun v w5 x5 h5 _ => ?_
      exact ⟨.of_ext x5, Own.mono h5 m4.size⟩
    · refine nd_last (fun v w4 => Sl w4 1 v ((Sig.back p s : Int) :: (p : Int) :: l).length (iv ((Sig.back p s : Int) :: (p : Int) :: l))) (fun v a b hs hx => hs.ext hx) (fun w4 m4 ho => ?_) fun v2 => ?_
      · refine app_ints (l := [(Sig.back p s : Int), (p : Int)]) ho (hv.ext (x3.trans m4.new)) (by have := hm.2; simp; omega) m4.size fun v w5 h5 m5 => ?_
        exact ⟨m5.mono fun j _ hj => (Own.block ho hj).1, Sl.of_owns h5⟩
      · refine nd_last (fun v _ => v = .int .i64 (Sig.chal ((Sig.back p s : Nat) :: (p : Int) :: l) : Nat)) (fun v a b hs hx => hs) (fun w4 m4 hsl => ?_) fun v3 => ?_
        · refine callF_ret (Challenge_ret (small_cons (back_i64 _ _) (by unfold I64; omega) hm) w4 hsl) ?_
          rintro _ w5 ⟨rfl, x5⟩
          exact ⟨.of_ext x5, rfl⟩
        · rintro w4 _ rfl
          exact ⟨v1, v2, rfl⟩
  · rintro hh2 w4 m4 ⟨_, _, v1, v2, e1⟩
    simp only [List.cons.injEq, and_true] at e1
    rw [e1.2.2, bin_eql]
    exact hk _ (x3.trans m4.new)
theorem norm_val {e : Nat} {z : Int} (he : e < Sig.Q) : ∃ n : Nat, n < Sig.Q ∧ (IntKind.i64.wrap ((IntKind.i64.wrap ((e : Int) + z.tmod 1073741789)).tmod 1073741789 + 1073741789)).tmod 1073741789 = (n : Int) := by
  have hq : Sig.Q = 1073741789 := rfl
  have h1 : -1073741789 < z.tmod 1073741789 ∧ z.tmod 1073741789 < 1073741789 := by
    have := Int.lt_tmod_of_pos z (show (0 : Int) < 1073741789 by decide)
    have := Int.tmod_lt_of_pos z (show (0 : Int) < 1073741789 by decide)
    omega
  generalize z.tmod 1073741789 = y at *
  rw [i64_wrap (x := (e : Int) + y) (by omega) (by omega)]
  have h2 : -1073741789 < ((e : Int) + y).tmod 1073741789 ∧ ((e : Int) + y).tmod 1073741789 < 1073741789 := by
    have := Int.lt_tmod_of_pos ((e : Int) + y) (show (0 : Int) < 1073741789 by decide)
    have := Int.tmod_lt_of_pos ((e : Int) + y) (show (0 : Int) < 1073741789 by decide)
    omega
  generalize ((e : Int) + y).tmod 1073741789 = u at *
  rw [i64_wrap (by omega) (by omega)]
  obtain ⟨n, hn⟩ : ∃ n : Nat, u + 1073741789 = n := ⟨(u + 1073741789).toNat, by omega⟩
  rw [hn]
  exact ⟨n % Sig.Q, Nat.mod_lt _ (by decide), rfl⟩
theorem verV_mem {p : Nat} {s : SSig} {l : List Int} (h1 : Sig.member p = true) (h2 : Sig.inQ 0 s.e = true ∧ Sig.inQ 0 s.s = true) : Sig.verV p s l = (chalB p s l, 0) := verV_ok h1 h2.1 h2.2
theorem SignChallenges_ret {a b o : BitVec 64} {v3 v4 : Value} {l m : List Int} {add : SSig} (hi1 : ∀ n ∈ l, I64 n) (hi2 : ∀ n ∈ m, I64 n) (w : World) (hv3 : Sl w 1 v3 l.length (iv l)) (hv4 : Sl w 1 v4 m.length (iv m)) (ht : Tab w) :
    Ret Tryd.prog 4 #[u64v a, u64v b, u64v o, v3, v4, .agg add.cells.toArray] w (TrueQ w) := by
  refine ret_of (fun _ _ => sh_landfalllaw11_SignChallenges_ok _ _ _ _ _ _) fun R hR => ?_
  unfold sh_landfalllaw11_SignChallenges
  obtain ⟨ha1, ha2⟩ := sec_in a
  obtain ⟨hb1, hb2⟩ := sec_in b
  obtain ⟨ho1, ho2⟩ := sec_in o
  have hm1 := small_few hi1
  have hm2 := small_few hi2
  have hm1' := small_few' hi1
  have hm2' := small_few' hi2
  refine box_i fun gA w1 x1 hatA _ _ => ?_
  have hatA : At w1 gA (.cells add.cells.toArray 23 (0, 0)) := hatA
  refine callF_ret (head_ret w1 (ht.ext x1)) ?_
  rintro _ w2 ⟨rfl, x2⟩
  have x12 := x1.trans x2
  refine callF_ret (few_ret w2 (hv3.ext x12)) ?_
  rintro vl w' ⟨hw, hl⟩
  subst w'
  refine callF_ret (few_ret w2 (hv4.ext x12)) ?_
  rintro vm w' ⟨hw, hl2⟩
  subst w'
  have ht2 := ht.ext x12
  refine callF_same (secret_ret a w2) ?_
  refine callF_ret (Public_ret (sec a) w2) ?_
  rintro _ w3 ⟨rfl, x3⟩
  rw [Sig.pubV_of ha1 ha2, ext2_0, ext2_1]
  refine callF_same (secret_ret o w3) ?_
  refine callF_ret (Public_ret (sec o) w3) ?_
  rintro _ w4 ⟨rfl, x4⟩
  rw [Sig.pubV_of ho1 ho2, ext2_0, ext2_1]
  refine callF_same (secret_ret a w4) ?_
  refine callF_same (secret_ret b w4) ?_
  have x24 := x3.trans x4
  refine callF_ret (Sign_ret (s := (sec a : Nat)) (o := (sec b : Nat)) hm1 w4 (hl.ext x24) (ht2.ext x24)) ?_
  rintro _ w5 ⟨rfl, x5⟩
  rw [Sig.signV_of ha1 ha2 hb1 hb2, ext2_0, ext2_1]
  refine alloc_i Ty.SSig_zero fun g1 w6 x6 hat6 hb6 _ => ?_
  refine SSig.set (r := SSig.zero) (s := Sig.sigOf (sec a) (sec b) (l.take 20)) hat6 fun w7 m7 h7 _ => ?_
  have x25 := x24.trans x5
  have z5 := x25.size
  have m27 : Mod (w2.heap.size ≤ ·) w2 w7 := (Mod.of_ext (x25.trans x6) : Mod (w2.heap.size ≤ ·) w2 w6).trans (m7.mono fun k _ h => by omega)
  have x27 := m27.new
  obtain ⟨e, q1, q2, q3, q4⟩ := Sig.sigOf_e (sec a) (sec b) (l.take 20)
  have hsin := Sig.sigOf_in (sec a) (sec b) (l.take 20)
  have mA := Sig.member_pw Sig.four_Q (sec a)
  have mO := Sig.member_pw Sig.four_Q (sec o)
  have hsec := Nat.mod_lt (sec b + e * sec a) (show 0 < Sig.Q by decide)
  generalize (sec b + e * sec a) % Sig.Q = f at *
  generalize Sig.sigOf (sec a) (sec b) (l.take 20) = s at *
  have hpA := Sig.pw_lt 4 (sec a)
  have hpO := Sig.pw_lt 4 (sec o)
  generalize Sig.pw 4 (sec a) = pA at *
  generalize Sig.pw 4 (sec o) = pO at *
  refine join0 (fun w' => w' = w7) ?_ fun K hK => ?_
  · rintro _ w' hw
    subst w'
    have hs7 : Has w7 g1 0 s.cells := has_of_at h7
    have hA7 : Has w7 gA 0 add.cells := has_of_at (hatA.ext (x2.trans x27))
    obtain ⟨n1, hn1, en1⟩ := norm_val (z := add.e) q2
    obtain ⟨n2, hn2, en2⟩ := norm_val (z := add.s) hsec
    rw [SSig.g_e hs7, SSig.g_e hA7, q1, bin_rem (by decide), bin_add, bin_rem (by decide), bin_add, bin_rem (by decide), en1]
    rw [SSig.g_s hs7, SSig.g_s hA7, q4, bin_rem (by decide), bin_add, bin_rem (by decide), bin_add, bin_rem (by decide), en2]
    rw [build_i (new_sig _ _)]
    refine alloc_i Ty.SSig_zero fun g2 w8 x8 hat8 hb8 _ => ?_
    refine SSig.set (r := SSig.zero) (s := ⟨n1, n2⟩) hat8 fun w9 m9 h9 _ => ?_
    have hg1 := h7.lt
    have z7 := m27.size
    have m29 : Mod (w2.heap.size ≤ ·) w2 w9 := (m27.trans (.of_ext x8)).trans (m9.mono fun k _ h => by omega)
    have h79 := (h7.ext x8).mod m9 (by omega)
    have x29 := m29.new
    have hcin : Sig.inQ 0 (SSig.mk n1 n2).e = true ∧ Sig.inQ 0 (SSig.mk n1 n2).s = true := ⟨Sig.inQ_of (by omega) hn1, Sig.inQ_of (by omega) hn2⟩
    generalize hce : (SSig.mk (n1 : Int) (n2 : Int)) = c at *
    rw [SSig.g_all (has_of_at h9)]
    refine callF_ret (Verify_ret (p := (pA : Int)) (s := c) hm1 w9 (hl.ext x29) (ht2.ext x29)) ?_
    rintro _ w10 ⟨rfl, x10⟩
    rw [verV_mem mA hcin, ext2_0, ext2_1, SSig.g_all (has_of_at (h79.ext x10))]
    have x2_10 := x29.trans x10
    refine callF_ret (Verify_ret (p := (pA : Int)) (s := s) hm2 w10 (hl2.ext x2_10) (ht2.ext x2_10)) ?_
    rintro _ w11 ⟨rfl, x11⟩
    rw [verV_mem mA hsin, ext2_0, ext2_1, SSig.g_all (has_of_at ((h79.ext x10).ext x11))]
    have x2_11 := x2_10.trans x11
    refine callF_ret (Verify_ret (p := (pO : Int)) (s := s) hm1 w11 (hl.ext x2_11) (ht2.ext x2_11)) ?_
    rintro _ w12 ⟨rfl, x12'⟩
    rw [verV_mem mO hsin, ext2_0, ext2_1]
    have x9_12 := (x10.trans x11).trans x12'
    have x2_12 := x29.trans x9_12
    refine chal_region hpA hcin.1 hcin.2 hm1' (h9.ext x9_12) (hl.ext x2_12) fun w13 x13 => ?_
    have x9_13 := x9_12.trans x13
    refine chal_region hpA hsin.1 hsin.2 hm2' (h79.ext x9_13) (hl2.ext (x29.trans x9_13)) fun w14 x14 => ?_
    have x9_14 := x9_13.trans x14
    refine chal_region hpO hsin.1 hsin.2 hm1' (h79.ext x9_14) (hl.ext (x29.trans x9_14)) fun w15 x15 => ?_
    refine gd_t ?_
    rw [bin_eql, dec_same]; refine gd_t ?_
    rw [bin_eql, dec_same]; refine gd_t ?_
    rw [bin_eql, dec_same]; refine gd_t ?_
    rw [bool_eql Ty.bool, beq_self_eq_true]; refine gd_t ?_
    rw [bool_eql Ty.bool, beq_self_eq_true]; refine gd_t ?_
    rw [bool_eql Ty.bool, beq_self_eq_true]
    exact hR _ _ ⟨rfl, x12.trans (x29.trans (x9_14.trans x15))⟩
  · refine join1 (fun q w' => w' = w7 ∧ q = .bool false) ?_ fun K2 hK2 => ?_
    · rintro _ _ w' hq ⟨rfl, rfl⟩
      rw [hq]
      exact br_f (hK _ rfl)
    · rw [bin_neq]
      refine gd_f ?_
      rw [bin_neq]
      refine gd_f ?_
      rw [bin_neq]
      exact hK2 _ _ ⟨rfl, by simp⟩
end Go.Proofs.YtjinhojlnaplaaaDoor
