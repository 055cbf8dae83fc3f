/- Another digit of one number, also of a negative one; cells of one's own rows, written. -/
import Derived.Test.YtdfpdfahcbflpabDoorHChbO
set_option linter.unusedVariables false
set_option linter.unusedSimpArgs false
namespace Go.Proofs.YtdfpdfahcbflpabDoor
set_option maxRecDepth 100000
set_option maxHeartbeats 16000000
open Sh Go.RowKit
namespace Dig
theorem itoa_minus {n : Int} (h : n < 0) : Go.Lib.itoa n = 45 :: Go.Lib.itoa (-n) := by
  rw [itoa_rdig (by omega), itoa_rdig (n := -n) (by omega), if_pos h, if_neg (by omega), List.append_nil, List.reverse_append, Int.natAbs_neg]; rfl
def Turned (n m : Int) : Prop := (0 ≤ n ∧ 0 ≤ m ∧ n / 10 = m / 10 ∧ n % 10 ≠ m % 10) ∨ (n < 0 ∧ m < 0 ∧ (-n) / 10 = (-m) / 10 ∧ (-n) % 10 ≠ (-m) % 10)
theorem turned_ne {d : BitVec 64} {p q : List Int} {n m : Int} (h : Turned n m) : next d (p ++ n :: q) ≠ next d (p ++ m :: q) := by
  rcases h with ⟨h1, h2, h3, h4⟩ | ⟨h1, h2, h3, h4⟩
  · exact next_last h1 h2 h3 h4
  · obtain ⟨r, b, c, e1, e2, e3⟩ := itoa_last (n := -n) (m := -m) (by omega) (by omega) h3 h4
    unfold next text
    rw [texts_append, texts_append, texts_cons, texts_cons, itoa_minus h1, itoa_minus h2, e1, e2]
    have e : ∀ x : UInt8, bytes8 d ++ (texts p ++ (45 :: (r ++ [x]) ++ 32 :: texts q)) = (bytes8 d ++ (texts p ++ 45 :: r)) ++ x :: (32 :: texts q) := by intro x; simp
    rw [e, e]
    exact run_one' e3
end Dig
namespace Cha
def turnV (n b : Int) : Int := if n < 0 then -((-n) - (-n) % 10 + ((-n) % 10 + 1 + b % 9) % 10) else n - n % 10 + (n % 10 + 1 + b % 9) % 10
def One (l m : List Int) : Prop := m = l ∨ ∃ (p q : List Int) (a b : Int), l = p ++ a :: q ∧ m = p ++ b :: q ∧ (Dig.Turned a b ∨ (a < 0 ∧ b = 0))
theorem turnV_one {n b : Int} : Dig.Turned n (turnV n b) ∨ (n < 0 ∧ turnV n b = 0) := by
  unfold Dig.Turned turnV
  by_cases h : n < 0
  · rw [if_pos h]
    omega
  · rw [if_neg h]
    omega
theorem turnV_rng {n b : Int} (h : -1000000000 ≤ n ∧ n ≤ 1000000000) : -1000000009 ≤ turnV n b ∧ turnV n b ≤ 1000000009 := by
  unfold turnV
  split <;> omega
theorem One.len {l m : List Int} (h : One l m) : m.length = l.length := by
  rcases h with rfl | ⟨p, q, a, b, rfl, rfl, _⟩
  · rfl
  · simp
theorem One.mid {l m : List Int} (p q : List Int) (h : One l m) : One (p ++ l ++ q) (p ++ m ++ q) := by
  rcases h with rfl | ⟨p', q', a, b, rfl, rfl, h⟩
  · exact .inl rfl
  · exact .inr ⟨p ++ p', q' ++ q, a, b, by simp, by simp, h⟩
theorem One.flat {α : Type} {f : α → List Int} {l : List α} {k : Nat} (hk : k < l.length) {a' : α} (h : One (f l[k]) (f a')) : One (l.flatMap f) ((l.set k a').flatMap f) := by
  have e1 : l.flatMap f = (l.take k).flatMap f ++ f l[k] ++ (l.drop (k + 1)).flatMap f := by
    conv => lhs; rw [← List.take_append_drop k l, List.drop_eq_getElem_cons hk, List.flatMap_append, List.flatMap_cons]
    rw [List.append_assoc]
  have e2 : (l.set k a').flatMap f = (l.take k).flatMap f ++ f a' ++ (l.drop (k + 1)).flatMap f := by
    rw [List.set_eq_take_append_cons_drop, if_pos hk, List.flatMap_append, List.flatMap_cons, List.append_assoc]
  rw [e1, e2]
  exact h.mid _ _
theorem One.digest {d : BitVec 64} {l m : List Int} (h : One l m) (hz : ∀ i (h1 : i < l.length) (h2 : i < m.length), ¬ (l[i] < 0 ∧ m[i] = 0)) : Dig.next d l = Dig.next d m ↔ l = m := by
  rcases h with rfl | ⟨p, q, a, b, rfl, rfl, h⟩
  · simp
  · have hab : Dig.Turned a b := by
      rcases h with h | h
      · exact h
      · have := hz p.length (by simp) (by simp)
        simp only [List.getElem_append_right (Nat.le_refl _), Nat.sub_self, List.getElem_cons_zero] at this
        exact absurd h this
    constructor
    · intro h; exact absurd h (Dig.turned_ne hab)
    · intro h; rw [h]
end Cha
theorem turned15_ret {n b : Int} (hn : -1000000000 ≤ n ∧ n ≤ 1000000000) (hb : 0 ≤ b ∧ b < 256) (w : World) : Ret Tryd.prog 30 #[.int .i64 n, .int .u8 b] w fun r w' => r = .int .i64 (Cha.turnV n b) ∧ Ext w w' := by
  refine ret_of (fun _ _ => sh_landfalllaw15_turned_ok _ _) fun R hR => ?_
  unfold sh_landfalllaw15_turned
  refine join1 (fun x W => x = .int .i64 (if n < 0 then -1 else 1) ∧ W = w) ?_ fun K hK => ?_
  · rintro h x W hx ⟨rfl, hW⟩
    subst W
    rw [hx]
    have fin : ∀ sg m : Int, (sg = 1 ∨ sg = -1) → sg * n = m → 0 ≤ m → m ≤ 1000000000 → sg * (m - m % 10 + (m % 10 + 1 + b % 9) % 10) = Cha.turnV n b →
        DoV Tryd.prog (binS .mul 3 (.tmp 8) (.tmp 9) (.int .i64 sg) (.int .i64 n)) w (fun t10 w4 =>
        DoV Tryd.prog (binS .rem 3 (.tmp 13) (.const (.int .i64 10)) t10 (.int .i64 10)) w4 (fun t14 w5 =>
        DoV Tryd.prog (binS .sub 3 (.tmp 12) (.tmp 14) t10 t14) w5 (fun t15 w6 =>
        DoV Tryd.prog (binS .rem 3 (.tmp 16) (.const (.int .i64 10)) t10 (.int .i64 10)) w6 (fun t17 w7 =>
        DoV Tryd.prog (binS .add 3 (.tmp 17) (.const (.int .i64 1)) t17 (.int .i64 1)) w7 (fun t18 w8 =>
        DoV Tryd.prog (convert 5 3 (.int .u8 b)) w8 (fun t20 w9 =>
        DoV Tryd.prog (binS .rem 3 (.tmp 20) (.const (.int .i64 9)) t20 (.int .i64 9)) w9 (fun t21 w10 =>
        DoV Tryd.prog (binS .add 3 (.tmp 18) (.tmp 21) t18 t21) w10 (fun t22 w11 =>
        DoV Tryd.prog (binS .rem 3 (.tmp 22) (.const (.int .i64 10)) t22 (.int .i64 10)) w11 (fun t23 w12 =>
        DoV Tryd.prog (binS .add 3 (.tmp 15) (.tmp 23) t15 t23) w12 (fun t24 w13 =>
        DoV Tryd.prog (binS .mul 3 (.tmp 11) (.tmp 24) (.int .i64 sg) t24) w13 (fun t25 w14 =>
        R (.returned t25) w14) (Pan R)) (Pan R)) (Pan R)) (Pan R)) (Pan R)) (Pan R)) (Pan R)) (Pan R)) (Pan R)) (Pan R)) (Pan R) := by
      intro sg m hs hm h0 h1 he
      rw [bin_mul, hm, i64_wrap (by omega) (by omega), bin_rem (by decide), Int.tmod_eq_emod_of_nonneg h0, bin_sub, i64_wrap (by omega) (by omega), bin_rem (by decide), Int.tmod_eq_emod_of_nonneg h0, bin_add, i64_wrap (by omega) (by omega),
        conv_int Ty.u8 Ty.int, i64_wrap (by omega) (by omega), bin_rem (by decide), Int.tmod_eq_emod_of_nonneg hb.1, bin_add, i64_wrap (by omega) (by omega), bin_rem (by decide), Int.tmod_eq_emod_of_nonneg (by omega), bin_add, i64_wrap (by omega) (by omega), bin_mul]
      rw [i64_wrap (by rcases hs with rfl | rfl <;> omega) (by rcases hs with rfl | rfl <;> omega)]
      exact hR _ _ ⟨by rw [he], Ext.refl _⟩
    by_cases hneg : n < 0
    · rw [if_pos hneg]
      exact fin (-1) (-n) (.inr rfl) (by omega) (by omega) (by omega) (by unfold Cha.turnV; rw [if_pos hneg]; omega)
    · rw [if_neg hneg]
      exact fin 1 n (.inl rfl) (by omega) (by omega) (by omega) (by unfold Cha.turnV; rw [if_neg hneg]; omega)
  · rw [bin_lss]
    refine Br_i (fun h => hK _ _ ⟨by rw [if_pos (dec_t h)], rfl⟩) fun h => hK _ _ ⟨by rw [if_neg (dec_f h)], rfl⟩
theorem fl_set_cell {α : Type} {c : α → List Value} {sz j : Nat} {u : Value} (hc : ∀ a, (c a).length = sz) (hj : j < sz) : ∀ {l : List α} {k : Nat} (hk : k < l.length) {a' : α}, c a' = (c l[k]).set j u → (fl c l).set (k * sz + j) u = fl c (l.set k a')
  | [], k, hk, _, _ => by cases hk
  | a :: l, 0, hk, a', ha => by
    have h1 := hc a
    rw [fl_cons, List.set_cons_zero, fl_cons, ha, Nat.zero_mul, Nat.zero_add, List.set_append_left _ _ (by omega)]
    rfl
  | a :: l, k + 1, hk, a', ha => by
    have h1 := hc a
    have h2 : k < l.length := by simpa using hk
    rw [fl_cons, List.set_cons_succ, fl_cons, Nat.add_mul, Nat.one_mul, List.set_append_right _ _ (by omega), h1, show k * sz + sz + j - sz = k * sz + j by omega, fl_set_cell hc hj h2 (by simpa using ha)]
theorem own_idx {P : Program} {w : World} {K : Value → World → Prop} {X : List PanicEntry → World → Prop} {T e : TypeId} {i : TypeInfo} {sz : Nat} (hT : P.underlying T = some (.slice e)) (hi : P.info? e = some i) (hs : i.size = sz) {g o n c j : Nat} (hj : j < n) : DoV P (Instr.indexAt T (.slice (some ⟨g, o, none⟩) n c) (.int .i64 j)) w K X = K (.pointer (some ⟨g, o + j * sz, none⟩)) w := by
  exact DoV_ok (by simp [Instr.indexAt, asIntOf, run_underlying hT, sizeOf, typeInfo, hi, hs, hj, addr_add15])
theorem own_open {w : World} {base sz n : Nat} {e : TypeId} {v : Value} {xs : List Value} (h : w.ownsRow base e sz v n xs) (hn : 0 < n) : ∃ g cap, v = .slice (some ⟨g, 0, none⟩) n cap ∧ base ≤ g ∧ g < w.heap.size := by
  rcases h.2 with ⟨_, h0⟩ | ⟨g, cap, cur, rfl, hb, hg, _⟩
  · omega
  · exact ⟨g, cap, rfl, hb, (Array.getElem?_eq_some_iff.1 hg).1⟩
theorem own_cell {P : Program} {α : Type} {c : α → List Value} {w : World} {K : Value → World → Prop} {X : List PanicEntry → World → Prop} {base sz j k g n cap : Nat} {e t : TypeId} {l : List α} {a' : α} {u : Value} (hc : ∀ a, (c a).length = sz) (h : w.ownsRow base e sz (.slice (some ⟨g, 0, none⟩) n cap) l.length (fl c l)) (hk : k < l.length) (hj : j < sz) (hu : u.oneCell' = true) (ht : ∀ w, (sizeOf t).run P w = .ok 1 w) (ha : c a' = (c l[k]).set j u)
    (hK : ∀ W, Mod (· = g) w W → W.ownsRow base e sz (.slice (some ⟨g, 0, none⟩) n cap) (l.set k a').length (fl c (l.set k a')) → K undef W) : DoU P (Instr.storeAt t (.pointer (some ⟨g, k * sz + j, none⟩)) u) w K X := by
  obtain ⟨h1, h2⟩ := h
  rcases h2 with ⟨h, _⟩ | ⟨g', cap', cur, hv, hb, hg, hn, hcm, hcs, htk⟩
  · cases h
  · injection hv with hv1 hv2 hv3
    injection hv1 with hv1; injection hv1 with hv1
    subst hv1 hv2 hv3
    have hlt : k * sz + j < l.length * sz := by
      have : (k + 1) * sz ≤ l.length * sz := Nat.mul_le_mul_right _ hk
      rw [Nat.add_mul, Nat.one_mul] at this; omega
    have hle : l.length * sz ≤ cap * sz := Nat.mul_le_mul_right _ hn
    refine store_i ht (show At w g (.cells cur e (0, 0)) from hg) (by omega) hu fun w1 m1 hat hsz => hK w1 m1 ⟨?_, .inr ⟨g, cap, _, by rw [List.length_set], hb, hat, by rw [List.length_set]; exact hn, hcm, by simpa using hcs, ?_⟩⟩
    · rw [List.length_set, fl_length hc, List.length_set]
    · rw [List.length_set, Array.toList_setIfInBounds, List.take_set, htk, fl_set_cell hc hj hk ha]
end Go.Proofs.YtdfpdfahcbflpabDoor
