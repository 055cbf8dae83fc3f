/- The walks of sign: powers, members, Exp, Public. -/
import Derived.Test.YtoeblipchoglaaaGreatDoorZStrA
import Derived.Test.YtoeblipchoglaaaGreatDoorZDecA
namespace Go.Proofs.YtoeblipchoglaaaGreatDoor
set_option maxRecDepth 100000
set_option maxHeartbeats 2000000
open Sh Go.RowKit
theorem mul_small {a b n : Nat} (ha : a < n) (hb : b < n) (hn : n ≤ 2147483648) : a * b ≤ 4611686018427387904 := by
  have h : a * b ≤ 2147483648 * 2147483648 := Nat.mul_le_mul (by omega) (by omega)
  omega
theorem mul_mod_val {a b m : Nat} (ha : a < m) (hb : b < m) (hm : m ≤ 2147483648) : (IntKind.i64.wrap ((a : Int) * (b : Int))).tmod (m : Int) = ((a * b % m : Nat) : Int) := by
  have h := mul_small ha hb hm
  have e : (a : Int) * (b : Int) = ((a * b : Nat) : Int) := by simp
  rw [e, i64_wrap (by omega) (by omega), tmod_nat (by omega), Int.toNat_natCast]
theorem half_val (x : Nat) (hx : x < 2147483648) : IntKind.i64.wrap ((x : Int).tdiv 2) = ((x / 2 : Nat) : Int) := by
  have e : (x : Int).tdiv 2 = ((x / 2 : Nat) : Int) := rfl
  rw [e, i64_wrap (by omega) (by omega)]
theorem odd_val (x : Nat) : (x : Int).tmod 2 = ((x % 2 : Nat) : Int) := rfl
def PowAt (m : Nat) (a0 x0 o a x : Nat) : Prop := o < m ∧ a < m ∧ x < 2147483648 ∧ o * a ^ x % m = a0 ^ x0 % m
theorem PowAt.step {m a0 x0 o a x : Nat} (h : PowAt m a0 x0 o a x) : PowAt m a0 x0 (if x % 2 = 1 then o * a % m else o) (a * a % m) (x / 2) := by
  obtain ⟨h1, h2, h3, h4⟩ := h
  have hm : 0 < m := by omega
  exact ⟨by split; exact Nat.mod_lt _ hm; exact h1, Nat.mod_lt _ hm, by omega, by rw [Sig.step_pow]; exact h4⟩
theorem PowAt.done {m a0 x0 o a : Nat} (h : PowAt m a0 x0 o a 0) : o = a0 ^ x0 % m := by
  obtain ⟨h1, _, _, h4⟩ := h
  rw [Nat.pow_zero, Nat.mul_one, Nat.mod_eq_of_lt h1] at h4; exact h4
theorem go33 : goes Tryz.prog 126 = true := by kernel_rfl
theorem times_ret {b n by_ : Nat} {e : TypeId} (hn : n < Sig.P) (hby : by_ < Sig.P) (w : World) (hb : At w b (.cells #[.int .i64 n] e (0, 0))) : Ret Tryz.prog 126 #[.pointer (some ⟨b, 0, none⟩), .int .i64 by_] w fun r w' => r = .tuple #[] ∧ Mod (· = b) w w' ∧ w'.heap.size = w.heap.size ∧ At w' b (.cells #[.int .i64 ((n * by_ % Sig.P : Nat) : Int)] e (0, 0)) := by
  refine ret_of (fun _ _ => sh_sign_power_1_ok _ _) fun R hR => ?_
  unfold sh_sign_power_1
  have e1 := mul_mod_val (m := 2147483579) (show n < 2147483579 from hn) (show by_ < 2147483579 from hby) (by decide)
  rw [nil_ptr, load_e (u := .int .i64 n) Ty.int_agg hb rfl, bin_mul, bin_rem (by decide), show (2147483579 : Int) = ((2147483579 : Nat) : Int) from rfl, e1, nil_ptr]
  refine store_i Ty.int_size hb (by simp) rfl fun w1 m1 h1 s1 => ?_
  exact hR _ _ ⟨rfl, m1, s1, h1⟩
theorem Ty.int_zero (w : World) : (zeroValue 3).run Tryz.prog w = .ok (.int .i64 0) w := by kernel_rfl
theorem power_ret {a x : Nat} (ha : a < Sig.P) (hx : x < 2147483648) (w : World) : Ret Tryz.prog 106 #[.int .i64 a, .int .i64 x] w fun r w' => r = .int .i64 (Sig.pw a x : Int) ∧ Ext w w' := by
  refine ret_of (fun _ _ => sh_sign_power_ok _ _) fun R hR => ?_
  unfold sh_sign_power
  refine box_i fun ba w1 x1 hba hba0 hs1 => ?_
  refine alloc_i Ty.int_zero fun bo w2 x2 hbo hbo0 hs2 => ?_
  refine store_i Ty.int_size hbo (by simp [Value.cells]) rfl fun w3 m3 hbo3 s3 => ?_
  have z1 := x1.size
  have z2 := x2.size
  have hne : ba ≠ bo := by omega
  have hba3 := (hba.ext x2).mod m3 (by omega)
  have hm3 : Mod (w.heap.size ≤ ·) w w3 := (Mod.of_ext (x1.trans x2) : Mod (w.heap.size ≤ ·) w w2).trans (m3.mono fun k _ h => by omega)
  refine loop1 (fun q w4 => ∃ a' x' o : Nat, q = .int .i64 x' ∧ At w4 ba (.cells #[.int .i64 a'] 3 (0, 0)) ∧ At w4 bo (.cells #[.int .i64 o] 3 (0, 0)) ∧ PowAt Sig.P a x o a' x' ∧ Mod (w.heap.size ≤ ·) w w4) (fun q _ => (intOf q).toNat) ⟨a, x, 1, rfl, hba3, hbo3, ⟨by decide, ha, hx, by rw [Nat.one_mul]⟩, hm3⟩ ?_
  rintro h _ w4 hq ⟨a', x', o, rfl, h4a, h4o, hat, hm4⟩ K hK
  have hat' := hat
  obtain ⟨q1, q2, q3, q4⟩ := hat'
  rw [hq, bin_gtr]
  refine Br_i (fun hb => ?_) fun hb => ?_
  · have hx0 := dec_t hb
    refine join0 (fun w5 => At w5 ba (.cells #[.int .i64 ((a' * a' % Sig.P : Nat) : Int)] 3 (0, 0)) ∧ At w5 bo (.cells #[.int .i64 ((if x' % 2 = 1 then o * a' % Sig.P else o : Nat) : Int)] 3 (0, 0)) ∧ Mod (w.heap.size ≤ ·) w w5) ?_ fun K6 hK6 => ?_
    · rintro h6 w5 ⟨g1, g2, g3⟩
      rw [bin_quo (by decide), half_val x' q3]
      exact hK _ _ ⟨_, _, _, rfl, g1, g2, hat.step, g3⟩ (by simp [intOf]; omega)
    · refine join0 (fun w5 => At w5 ba (.cells #[.int .i64 a'] 3 (0, 0)) ∧ At w5 bo (.cells #[.int .i64 ((if x' % 2 = 1 then o * a' % Sig.P else o : Nat) : Int)] 3 (0, 0)) ∧ Mod (w.heap.size ≤ ·) w w5) ?_ fun K7 hK7 => ?_
      · rintro h7 w5 ⟨g1, g2, g3⟩
        rw [load_e (u := .int .i64 a') Ty.int_agg g1 rfl, callV_func go33]
        refine callF_ret (times_ret q2 q2 w5 g1) ?_
        rintro _ w6 ⟨rfl, m6, s6, h6⟩
        exact hK6 _ ⟨h6, g2.mod m6 (fun e => hne e.symm), g3.trans (m6.mono fun k _ h => by omega)⟩
      · rw [bin_rem (by decide), odd_val, bin_eql]
        refine Br_i (fun hb => ?_) fun hb => ?_
        · have ho : x' % 2 = 1 := by have := dec_t hb; omega
          rw [load_e (u := .int .i64 a') Ty.int_agg h4a rfl, callV_func go33]
          refine callF_ret (times_ret q1 q2 w4 h4o) ?_
          rintro _ w6 ⟨rfl, m6, s6, h6⟩
          exact hK7 _ ⟨h4a.mod m6 hne, by rw [if_pos ho]; exact h6, hm4.trans (m6.mono fun k _ h => by omega)⟩
        · have ho : ¬ x' % 2 = 1 := by have := dec_f hb; omega
          exact hK7 _ ⟨h4a, by rw [if_neg ho]; exact h4o, hm4⟩
  · have hx0 := dec_f hb
    have : x' = 0 := by omega
    subst this
    rw [load_e (u := .int .i64 o) Ty.int_agg h4o rfl]
    exact hR _ _ ⟨by rw [hat.done]; rfl, hm4.new⟩
end Go.Proofs.YtoeblipchoglaaaGreatDoor
namespace Go.Proofs.YtoeblipchoglaaaGreatDoor
set_option maxRecDepth 100000
set_option maxHeartbeats 2000000
open Sh Go.RowKit
namespace Sig
def member (a : Int) : Bool := decide (1 ≤ a) && (decide (a < 2147483579) && decide (pw a.toNat Q = 1))
def inQ (lo n : Int) : Bool := decide (lo ≤ n) && decide (n < 1073741789)
def chal (l : List Int) : Nat := (Dig.sum l).toNat % Q
def back (p : Nat) (s : SSig) : Nat := pw 4 s.s.toNat * pw p ((Q - s.e.toNat) % Q) % P
def verV (p : Int) (s : SSig) (m : List Int) : Bool × Int := if member p = true ∧ inQ 0 s.e = true ∧ inQ 0 s.s = true then (decide ((chal ((back p.toNat s : Nat) :: p :: m) : Int) = s.e), 0) else (false, 1)
theorem member_nat {a : Int} (h : member a = true) : ∃ n : Nat, a = n ∧ 1 ≤ n ∧ n < P ∧ pw n Q = 1 := by
  simp only [member, Bool.and_eq_true, decide_eq_true_eq] at h
  obtain ⟨h1, h2, h3⟩ := h
  exact ⟨a.toNat, by omega, by omega, by unfold P; omega, h3⟩
theorem inQ_nat {lo n : Int} (h : inQ lo n = true) (h0 : 0 ≤ lo) : ∃ k : Nat, n = k ∧ lo ≤ k ∧ k < Q := by
  simp only [inQ, Bool.and_eq_true, decide_eq_true_eq] at h
  exact ⟨n.toNat, by omega, by omega, by unfold Q; omega⟩
end Sig
theorem dec_cast (k : Nat) : decide ((k : Int) = 1) = decide (k = 1) := by rw [decide_eq_decide]; omega
theorem within_ret (n lo : Int) (w : World) : Ret Tryz.prog 105 #[.int .i64 n, .int .i64 lo] w fun r w' => r = .bool (Sig.inQ lo n) ∧ w' = w := by
  refine ret_of (fun _ _ => sh_sign_within_ok _ _) fun R hR => ?_
  unfold sh_sign_within
  rw [bin_leq]
  refine Gd_i (fun hb => ?_) fun hb => ?_
  · rw [bin_lss]; exact hR _ _ ⟨by unfold Sig.inQ; rw [hb]; rfl, rfl⟩
  · exact hR _ _ ⟨by unfold Sig.inQ; rw [hb]; rfl, rfl⟩
theorem Member_ret (a : Int) (w : World) : Ret Tryz.prog 104 #[.int .i64 a] w fun r w' => r = .bool (Sig.member a) ∧ Ext w w' := by
  refine ret_of (fun _ _ => sh_sign_Member_ok _) fun R hR => ?_
  unfold sh_sign_Member
  rw [bin_geq]
  refine Gd_i (fun hb => ?_) fun hb => ?_
  · have h1 := dec_t hb
    rw [bin_lss]
    refine Gd_i (fun hb2 => ?_) fun hb2 => ?_
    · have h2 := dec_t hb2
      obtain ⟨n, rfl⟩ : ∃ n : Nat, a = n := ⟨a.toNat, by omega⟩
      refine callF_ret (power_ret (a := n) (x := Sig.Q) (by unfold Sig.P; omega) (by decide) w) ?_
      rintro _ w1 ⟨rfl, x1⟩
      rw [bin_eql]
      refine hR _ _ ⟨?_, x1⟩
      unfold Sig.member
      rw [hb, hb2, Bool.true_and, Bool.true_and, Int.toNat_natCast]
      exact congrArg Value.bool (dec_cast (Sig.pw n Sig.Q))
    · exact hR _ _ ⟨by unfold Sig.member; rw [hb, hb2]; rfl, Ext.refl _⟩
  · exact hR _ _ ⟨by unfold Sig.member; rw [hb]; rfl, Ext.refl _⟩
end Go.Proofs.YtoeblipchoglaaaGreatDoor
namespace Go.Proofs.YtoeblipchoglaaaGreatDoor
set_option maxRecDepth 100000
set_option maxHeartbeats 2000000
open Sh Go.RowKit
def SmallList (l : List Int) : Prop := (∀ n ∈ l, I64 n) ∧ l.length ≤ 1000000
theorem chal_val (d : BitVec 64) : IntKind.i64.wrap ((d.toNat : Int).tmod 1073741789) = ((d.toNat % Sig.Q : Nat) : Int) := by
  have e : (d.toNat : Int).tmod 1073741789 = ((d.toNat % Sig.Q : Nat) : Int) := rfl
  have h := Nat.mod_lt d.toNat (show 0 < Sig.Q by decide)
  have hq : Sig.Q = 1073741789 := rfl
  rw [e, i64_wrap (by omega) (by omega)]
theorem challenge_ret {a p : Int} {v : Value} {m : List Int} (ha : I64 a) (hp : I64 p) (hm : SmallList m) (w : World) (hv : Sl w 1 v m.length (iv m)) (ht : Tab w) :
    Ret Tryz.prog 107 #[.int .i64 a, .int .i64 p, v] w fun r w' => r = .int .i64 (Sig.chal (a :: p :: m) : Nat) ∧ Ext w w' := by
  refine ret_of (fun _ _ => sh_sign_challenge_ok _ _ _) fun R hR => ?_
  unfold sh_sign_challenge
  have hl := hm.2
  refine lit_ints [a, p] rfl (by decide) (by decide) rfl fun v1 w1 x1 h1 _ => ?_
  have z1 := x1.size
  refine app_ints h1 (hv.ext x1) (by simp; omega) z1 fun v2 w2 h2 m2 => ?_
  have x2 : Ext w w2 := ((Mod.of_ext x1 : Mod (w.heap.size ≤ ·) w w1).trans (m2.mono fun k _ h => (Own.block h1 h).1)).new
  have h2 : Sl w2 1 v2 (a :: p :: m).length (iv (a :: p :: m)) := Sl.of_owns h2
  refine callF_ret (sum_int_ret (l := a :: p :: m) (by intro n hn; simp only [List.mem_cons] at hn; rcases hn with rfl | rfl | hn; exact ha; exact hp; exact hm.1 n hn) w2 h2 (ht.ext x2)) ?_
  rintro _ w3 ⟨rfl, x3⟩
  rw [u64v, bin_rem (by decide), conv_int Ty.u64 Ty.int, chal_val]
  exact hR _ _ ⟨rfl, x2.trans x3⟩
theorem new_sig (e s : Int) : Tryz.prog.built 95 [(0, .int .i64 e), (1, .int .i64 s)] = some (SSig.mk e s).cells.toArray := by kernel_rfl
end Go.Proofs.YtoeblipchoglaaaGreatDoor
namespace Go.Proofs.YtoeblipchoglaaaGreatDoor
set_option maxRecDepth 100000
set_option maxHeartbeats 2000000
open Sh Go.RowKit
theorem qe_val {e : Nat} (h : e < Sig.Q) : (IntKind.i64.wrap (1073741789 - (e : Int))).tmod 1073741789 = (((Sig.Q - e) % Sig.Q : Nat) : Int) := by
  have hq : Sig.Q = 1073741789 := rfl
  have e1 : (1073741789 : Int) - (e : Int) = ((Sig.Q - e : Nat) : Int) := by omega
  rw [e1, i64_wrap (by omega) (by omega)]
  rfl
theorem qe_lt (e : Nat) : (Sig.Q - e) % Sig.Q < 2147483648 := by
  have h := Nat.mod_lt (Sig.Q - e) (show 0 < Sig.Q by decide)
  have hq : Sig.Q = 1073741789 := rfl
  omega
theorem back_val (a b : Nat) (ha : a < Sig.P) (hb : b < Sig.P) : (IntKind.i64.wrap ((a : Int) * (b : Int))).tmod 2147483579 = ((a * b % Sig.P : Nat) : Int) :=
  mul_mod_val (m := 2147483579) ha hb (by decide)
def VerQ (p : Int) (s : SSig) (m : List Int) (w : World) (r : Value) (w' : World) : Prop := r = .tuple #[.bool (Sig.verV p s m).1, .int .i64 (Sig.verV p s m).2] ∧ Ext w w'
theorem verV_bad {p : Int} {s : SSig} {m : List Int} (h : (Sig.member p && (Sig.inQ 0 s.e && Sig.inQ 0 s.s)) = false) : Sig.verV p s m = (false, 1) := by
  unfold Sig.verV
  rw [if_neg]
  rintro ⟨h1, h2, h3⟩
  rw [h1, h2, h3] at h; cases h
theorem verV_ok {p : Nat} {s : SSig} {m : List Int} (h1 : Sig.member p = true) (h2 : Sig.inQ 0 s.e = true) (h3 : Sig.inQ 0 s.s = true) : Sig.verV p s m = (decide ((Sig.chal ((Sig.back p s : Nat) :: (p : Int) :: m) : Int) = s.e), 0) := by
  unfold Sig.verV
  rw [if_pos ⟨h1, h2, h3⟩]; rfl
theorem back_lt (p : Nat) (s : SSig) : Sig.back p s < Sig.P := Nat.mod_lt _ (by decide)
theorem back_i64 (p : Nat) (s : SSig) : I64 (Sig.back p s : Int) := by
  have h := back_lt p s
  have hp : Sig.P = 2147483579 := rfl
  unfold I64; omega
theorem Verify_ret {p : Int} {s : SSig} {v : Value} {m : List Int} (hm : SmallList m) (w : World) (hv : Sl w 1 v m.length (iv m)) (ht : Tab w) : Ret Tryz.prog 84 #[.int .i64 p, .agg s.cells.toArray, v] w (VerQ p s m w) := by
  refine ret_of (fun _ _ => sh_sign_Verify_ok _ _ _) fun R hR => ?_
  unfold sh_sign_Verify
  have hq : Sig.Q = 1073741789 := rfl
  have hP : Sig.P = 2147483579 := rfl
  refine box_i fun g w1 x1 hat hg _ => ?_
  have hat : At w1 g (.cells s.cells.toArray 95 (0, 0)) := hat
  have h : ∀ w2, Ext w1 w2 → Has w2 g 0 s.cells := fun w2 x2 => has_of_at (hat.ext x2)
  refine join0 (fun w' => Ext w1 w' ∧ Sig.member p = true ∧ Sig.inQ 0 s.e = true ∧ Sig.inQ 0 s.s = true) ?_ fun K hK => ?_
  · rintro _ w2 ⟨x2, h1, h2, h3⟩
    obtain ⟨se, ss⟩ := s
    obtain ⟨n, rfl, g1, g2, g3⟩ := Sig.member_nat h1
    obtain ⟨e, rfl, _, g4⟩ := Sig.inQ_nat h2 (by decide)
    obtain ⟨k, rfl, _, g6⟩ := Sig.inQ_nat h3 (by decide)
    refine draw_ext fun w3 x3 => ?_
    have x13 := x2.trans x3
    refine det_read _ (fun w4 x4 K => Ty.SSig_f1) ?_
    refine det_read (.int .i64 k) (fun w4 x4 K => load_cell Ty.int_agg (has_at (h w4 (x13.trans x4)) (d := 1) rfl rfl)) ?_
    refine det_ret (.int .i64 (Sig.pw 4 k : Nat)) (fun w4 _ => power_ret (a := 4) (by decide) (by omega) w4) ?_
    refine det_read _ (fun w4 x4 K => Ty.SSig_f0) ?_
    refine det_read (.int .i64 e) (fun w4 x4 K => load_cell Ty.int_agg (has_at (h w4 (x13.trans x4)) (d := 0) rfl rfl)) ?_
    refine det_read _ (fun w4 x4 K => bin_sub) ?_
    refine det_read (.int .i64 ((Sig.Q - e) % Sig.Q : Nat)) (fun w4 x4 K => by rw [bin_rem (by decide), qe_val g4]) ?_
    intro w4 x4 _
    refine callF_ret (power_ret g2 (qe_lt e) w4) ?_
    rintro _ w5 ⟨rfl, x5⟩
    have e1 := back_val (Sig.pw 4 k) (Sig.pw n ((Sig.Q - e) % Sig.Q)) (Sig.pw_lt _ _) (Sig.pw_lt _ _)
    rw [bin_mul, bin_rem (by decide), e1]
    have x15 := (x13.trans x4).trans x5
    refine draw_ext fun w6 x6 => ?_
    have x16 := x15.trans x6
    refine det_read (.agg (SSig.mk e k).cells.toArray) (fun w7 x7 K => SSig.g_all (h w7 (x16.trans x7))) ?_
    refine det_ret (.int .i64 (Sig.chal ((Sig.back n ⟨e, k⟩ : Nat) :: (n : Int) :: m) : Nat)) (fun w7 x7 => challenge_ret (a := (Sig.back n ⟨e, k⟩ : Nat)) (back_i64 _ _) (by unfold I64; omega) hm w7 (hv.ext ((x1.trans x16).trans x7)) (ht.ext ((x1.trans x16).trans x7))) ?_
    refine det_read _ (fun w7 x7 K => Ty.SSig_f1) ?_
    refine det_read (.int .i64 k) (fun w7 x7 K => load_cell Ty.int_agg (has_at (h w7 (x16.trans x7)) (d := 1) rfl rfl)) ?_
    refine det_read _ (fun w7 x7 K => build_i (new_sig _ _)) ?_
    intro w7 x7 _
    rw [SSig.eql]
    refine hR _ _ ⟨?_, (x1.trans x16).trans x7⟩
    rw [verV_ok h1 h2 h3]
    have e2 : decide ((⟨e, k⟩ : SSig) = ⟨(Sig.chal ((Sig.back n ⟨e, k⟩ : Nat) :: (n : Int) :: m) : Nat), k⟩) = decide ((Sig.chal ((Sig.back n ⟨e, k⟩ : Nat) :: (n : Int) :: m) : Int) = e) := by
      rw [decide_eq_decide, SSig.mk.injEq]
      exact ⟨fun h => h.1.symm, fun h => ⟨h.symm, rfl⟩⟩
    rw [e2]
  · refine join1 (fun q w' => Ext w1 w' ∧ q = .bool (!(Sig.member p && (Sig.inQ 0 s.e && Sig.inQ 0 s.s)))) ?_ fun K2 hK2 => ?_
    · rintro _ _ w2 hq ⟨x2, rfl⟩
      rw [hq]
      refine Br_i (fun hb => ?_) fun hb => ?_
      · rw [Bool.not_eq_true'] at hb
        exact hR _ _ ⟨by rw [verV_bad hb], x1.trans x2⟩
      · have hb : (Sig.member p && (Sig.inQ 0 s.e && Sig.inQ 0 s.s)) = true := by simpa using hb
        rw [Bool.and_eq_true, Bool.and_eq_true] at hb
        exact hK _ ⟨x2, hb⟩
    · refine callF_ret (Member_ret p w1) ?_
      rintro _ w2 ⟨rfl, x2⟩
      rw [un_not]
      refine Gd_i (fun hb => ?_) fun hb => ?_
      · have hb : Sig.member p = true := by simpa using hb
        rw [SSig.g_e (h w2 x2)]
        refine callF_same (within_ret s.e 0 w2) ?_
        rw [un_not]
        refine Gd_i (fun hb2 => ?_) fun hb2 => ?_
        · have hb2 : Sig.inQ 0 s.e = true := by simpa using hb2
          rw [SSig.g_s (h w2 x2)]
          refine callF_same (within_ret s.s 0 w2) ?_
          rw [un_not]
          exact hK2 _ _ ⟨x2, by rw [hb, hb2, Bool.true_and, Bool.true_and]⟩
        · have hb2 : Sig.inQ 0 s.e = false := by simpa using hb2
          exact hK2 _ _ ⟨x2, by rw [hb, hb2]; rfl⟩
      · have hb : Sig.member p = false := by simpa using hb
        exact hK2 _ _ ⟨x2, by rw [hb]; rfl⟩
end Go.Proofs.YtoeblipchoglaaaGreatDoor
namespace Go.Proofs.YtoeblipchoglaaaGreatDoor
set_option maxRecDepth 100000
set_option maxHeartbeats 2000000
namespace Sig
theorem member_4 : member 4 = true := by
  have : member ((4 : Nat) : Int) = true := by
    simp only [member, Bool.and_eq_true, decide_eq_true_eq, Int.toNat_natCast]
    exact ⟨by decide, by decide, four_Q⟩
  exact this
end Sig
end Go.Proofs.YtoeblipchoglaaaGreatDoor
