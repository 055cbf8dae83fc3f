/- The plain law of polygons: the two ways in which a polygon's corners are checked agree. -/
import Derived.Test.YtoeblipchoglaaaGreatDoorZStrA
import Derived.Test.YtoeblipchoglaaaGreatDoorZBaseC
import Derived.Test.YtoeblipchoglaaaGreatDoorZT2
namespace Go.Proofs.YtoeblipchoglaaaGreatDoor
set_option maxRecDepth 100000
namespace Hul
def place (p : SPoint) : Bool := decide (-500000 ≤ p.x ∧ p.x ≤ 500000 ∧ -500000 ≤ p.y ∧ p.y ≤ 500000)
def less (a b : SPoint) : Bool := decide (a.x < b.x ∨ (a.x = b.x ∧ a.y < b.y))
def cross (a b c : SPoint) : Int := (b.x - a.x) * (c.y - a.y) - (b.y - a.y) * (c.x - a.x)
theorem place_iff {p : SPoint} : place p = true ↔ -500000 ≤ p.x ∧ p.x ≤ 500000 ∧ -500000 ≤ p.y ∧ p.y ≤ 500000 := by simp [place]
theorem less_irrefl (a : SPoint) : less a a = false := by simp [less]
theorem cross_swap (a b c : SPoint) : cross a b c = -cross a c b := by unfold cross; rw [Int.neg_sub, Int.mul_comm (c.y - a.y), Int.mul_comm (b.y - a.y)]
theorem cross_same (a c : SPoint) : cross a a c = 0 := by simp [cross]
def at_ (l : List SPoint) (i : Nat) : SPoint := (l[i]?).getD default
theorem at_of {l : List SPoint} {i : Nat} (h : i < l.length) : at_ l i = l[i] := by simp [at_, h]
def common (l : List SPoint) : Prop := (1 ≤ l.length ∧ l.length ≤ 64) ∧ (∀ p ∈ l, place p = true) ∧ ∀ i, 1 ≤ i → i < l.length → less (at_ l 0) (at_ l i) = true
def sidesP (l : List SPoint) : Prop := 3 ≤ l.length → ∀ i, i < l.length → ∀ k, k < l.length → at_ l k = at_ l i ∨ at_ l k = at_ l ((i + 1) % l.length) ∨ 0 < cross (at_ l i) (at_ l ((i + 1) % l.length)) (at_ l k)
def sidesR (l : List SPoint) : Prop := 3 ≤ l.length → ∀ i, i < l.length → ∀ k, k < l.length → k ≠ i → k ≠ (i + 1) % l.length → 0 < cross (at_ l i) (at_ l ((i + 1) % l.length)) (at_ l k)
theorem no_twice {l : List SPoint} (hc : common l) (h3 : 3 ≤ l.length) (h : sidesP l) : ∀ (m j k : Nat), j < k → k < l.length → l.length - k ≤ m → at_ l j ≠ at_ l k := by
  have hs := h h3
  have h0 : ∀ i, 1 ≤ i → i < l.length → at_ l 0 ≠ at_ l i := fun i h1 h2 e => by
    have := hc.2.2 i h1 h2
    rw [e, less_irrefl] at this; cases this
  intro m
  induction m with
  | zero => intro j k hj hk hm; omega
  | succ m ih =>
    intro j k hjk hk hm he
    have hj1 : 1 ≤ j := by
      rcases Nat.eq_zero_or_pos j with h | h
      · subst h; exact absurd he (h0 k (by omega) hk)
      · exact h
    have mj : (j + 1) % l.length = j + 1 := Nat.mod_eq_of_lt (by omega)
    have zero : ∀ i, 1 ≤ i → i < l.length → at_ l ((i + 1) % l.length) ≠ at_ l i := fun i hi1 hi e => by
      rcases hs i hi 0 (by omega) with h | h | h
      · exact h0 i hi1 hi h
      · rw [e] at h; exact h0 i hi1 hi h
      · rw [e, cross_same] at h; omega
    have zj := zero j hj1 (by omega)
    have zk := zero k (by omega) hk
    have hlt : (k + 1) % l.length < l.length := Nat.mod_lt _ (by omega)
    rw [mj] at zj
    by_cases hce : at_ l (j + 1) = at_ l ((k + 1) % l.length)
    · by_cases hk1 : k + 1 < l.length
      · rw [Nat.mod_eq_of_lt hk1] at hce
        exact ih (j + 1) (k + 1) (by omega) hk1 (by omega) hce
      · have : k + 1 = l.length := by omega
        rw [this, Nat.mod_self] at hce
        exact h0 (j + 1) (by omega) (by omega) hce.symm
    · have c1 : 0 < cross (at_ l j) (at_ l (j + 1)) (at_ l ((k + 1) % l.length)) := by
        rcases hs j (by omega) ((k + 1) % l.length) hlt with h | h | h
        · rw [he] at h; exact absurd h zk
        · rw [mj] at h; exact absurd h.symm hce
        · rw [mj] at h; exact h
      have c2 : 0 < cross (at_ l k) (at_ l ((k + 1) % l.length)) (at_ l (j + 1)) := by
        rcases hs k hk (j + 1) (by omega) with h | h | h
        · rw [← he] at h; exact absurd h zj
        · exact absurd h hce
        · exact h
      rw [← he, cross_swap] at c2
      omega
theorem sides_iff {l : List SPoint} (hc : common l) : sidesP l ↔ sidesR l := by
  constructor
  · intro h h3 i hi k hk hki hkn
    have hn : ∀ a b, a < l.length → b < l.length → a ≠ b → at_ l a ≠ at_ l b := fun a b ha hb hab => by
      rcases Nat.lt_or_gt_of_ne hab with h' | h'
      · exact no_twice hc h3 h _ a b h' hb (Nat.le_refl _)
      · exact fun e => no_twice hc h3 h _ b a h' ha (Nat.le_refl _) e.symm
    rcases h h3 i hi k hk with h' | h' | h'
    · exact absurd h' (hn k i hk hi hki)
    · exact absurd h' (hn k _ hk (Nat.mod_lt _ (by omega)) hkn)
    · exact h'
  · intro h h3 i hi k hk
    by_cases hki : k = i
    · subst hki; exact .inl rfl
    · by_cases hkn : k = (i + 1) % l.length
      · rw [← hkn]; exact .inr (.inl rfl)
      · exact .inr (.inr (h h3 i hi k hk hki hkn))
def Valid (l : List SPoint) : Prop := common l ∧ sidesR l
noncomputable def valid (l : List SPoint) : Bool := by classical exact decide (Valid l)
theorem valid_iff {l : List SPoint} : valid l = true ↔ Valid l := by simp [valid]
theorem valid_iffP {l : List SPoint} : valid l = true ↔ common l ∧ sidesP l := by
  rw [valid_iff]
  exact ⟨fun h => ⟨h.1, (sides_iff h.1).2 h.2⟩, fun h => ⟨h.1, (sides_iff h.1).1 h.2⟩⟩
end Hul
end Go.Proofs.YtoeblipchoglaaaGreatDoor
namespace Go.Proofs.YtoeblipchoglaaaGreatDoor
set_option maxRecDepth 100000
set_option maxHeartbeats 2000000
open Sh Go.RowKit
namespace Sh
variable {P : Program} {w : World} {K : Value → World → Prop} {X : List PanicEntry → World → Prop} {ts : Array TypeId} {t : TypeId} {cs : Array Bool}
def mx (x y : Int) : Int := if x < y then y else x
def mn (x y : Int) : Int := if y < x then y else x
theorem max4 {a b c d : Int} : CallB P .max ts t cs #[.int .i64 a, .int .i64 b, .int .i64 c, .int .i64 d] w K X = K (.int .i64 (mx (mx (mx a b) c) d)) w := by
  simp [CallB, Do, builtin, Builtin.max_, Builtin.max2, mx]
  exact Iff.rfl
theorem min2 {a b : Int} : CallB P .min ts t cs #[.int .i64 a, .int .i64 b] w K X = K (.int .i64 (mn a b)) w := by
  simp [CallB, Do, builtin, Builtin.min_, Builtin.min2, mn]
end Sh
theorem neg_wrap {x : Int} (h : I64 x) : IntKind.i64.wrap (-x) = -x ∨ x = -9223372036854775808 ∧ IntKind.i64.wrap (-x) = -9223372036854775808 := by
  unfold I64 at h
  by_cases hx : x = -9223372036854775808
  · subst hx; exact .inr ⟨rfl, by decide⟩
  · exact .inl (i64_wrap (by omega) (by omega))
theorem isPlace_ret {p : SPoint} (hp : p.Ok) (w : World) : Ret Tryz.prog 109 #[.agg p.cells.toArray] w fun r w' => r = .bool (Hul.place p) ∧ Ext w w' := by
  refine ret_of (fun _ _ => sh_hull_isPlace_ok _) fun R hR => ?_
  unfold sh_hull_isPlace
  refine box_i fun b w1 x1 hat _ _ => ?_
  have h : Has w1 b 0 p.cells := has_of_at hat
  simp only [SPoint.g_x h, SPoint.g_y h, un_neg, max4, bin_leq, min2, bin_geq, Gd_bool]
  have hk : R (.returned (.bool (Hul.place p))) w1 := hR _ _ ⟨rfl, x1⟩
  obtain ⟨h1, h2⟩ := hp
  have e1 := neg_wrap h1
  have e2 := neg_wrap h2
  generalize IntKind.i64.wrap (-p.x) = a at *
  generalize IntKind.i64.wrap (-p.y) = c at *
  split
  · rename_i hb
    have hb := of_decide_eq_true hb
    have e : decide (-500000 ≤ mn p.x p.y) = Hul.place p := by
      unfold Hul.place
      rw [decide_eq_decide]
      unfold mx mn at *
      split <;> split at hb <;> split at hb <;> split at hb <;> omega
    rw [e]; exact hk
  · rename_i hb
    have e : false = Hul.place p := by
      unfold Hul.place
      rw [eq_comm, decide_eq_false_iff_not]
      rw [decide_eq_true_eq] at hb
      unfold mx at *
      split at hb <;> split at hb <;> split at hb <;> omega
    rw [e]; exact hk
theorem Place_ret {p : SPoint} (w : World) : Ret Tryz.prog 130 #[.agg p.cells.toArray] w fun r w' => r = .bool (Hul.place p) ∧ Ext w w' := by
  refine ret_of (fun _ _ => sh_landfallref03_Place_ok _) fun R hR => ?_
  unfold sh_landfallref03_Place
  refine box_i fun b w1 x1 hat _ _ => ?_
  have h : Has w1 b 0 p.cells := has_of_at hat
  simp only [SPoint.g_x h, SPoint.g_y h, bin_leq, bin_geq, Gd_bool]
  have hk : ∀ c, c = Hul.place p → R (.returned (.bool c)) w1 := fun c hc => hR _ _ ⟨by rw [hc], x1⟩
  unfold Hul.place at hk
  simp only [decide_eq_true_eq]
  split
  · split
    · split
      · exact hk _ (by rw [decide_eq_decide]; omega)
      · exact hk _ (by rw [eq_comm, decide_eq_false_iff_not]; omega)
    · exact hk _ (by rw [eq_comm, decide_eq_false_iff_not]; omega)
  · exact hk _ (by rw [eq_comm, decide_eq_false_iff_not]; omega)
theorem Less_ret {a b : SPoint} (w : World) : Ret Tryz.prog 114 #[.agg a.cells.toArray, .agg b.cells.toArray] w fun r w' => r = .bool (Hul.less a b) ∧ Ext w w' := by
  refine ret_of (fun _ _ => sh_landfallref03_Less_ok _ _) fun R hR => ?_
  unfold sh_landfallref03_Less
  refine box_i fun b1 w1 x1 hat1 _ _ => ?_
  refine box_i fun b2 w2 x2 hat2 _ _ => ?_
  have h1 : Has w2 b1 0 a.cells := has_of_at (hat1.ext x2)
  have h2 : Has w2 b2 0 b.cells := has_of_at hat2
  simp only [SPoint.g_x h1, SPoint.g_y h1, SPoint.g_x h2, SPoint.g_y h2, bin_lss, bin_eql, Gd_bool]
  have hk : ∀ c, c = Hul.less a b → R (.returned (.bool c)) w2 := fun c hc => hR _ _ ⟨by rw [hc], x1.trans x2⟩
  unfold Hul.less at hk
  simp only [decide_eq_true_eq, decide_eq_false_iff_not]
  split
  · split
    · exact hk _ (by rw [decide_eq_decide]; omega)
    · exact hk _ (by rw [eq_comm, decide_eq_false_iff_not]; omega)
  · exact hk _ (by rw [eq_comm, decide_eq_true_eq]; omega)
theorem mul_in {a b m n : Int} (h1 : -m ≤ a ∧ a ≤ m) (h2 : -n ≤ b ∧ b ≤ n) : -(m * n) ≤ a * b ∧ a * b ≤ m * n := by
  have e1 : 0 ≤ (m - a) * (n - b) := Int.mul_nonneg (by omega) (by omega)
  have e2 : 0 ≤ (m + a) * (n + b) := Int.mul_nonneg (by omega) (by omega)
  have e3 : 0 ≤ (m - a) * (n + b) := Int.mul_nonneg (by omega) (by omega)
  have e4 : 0 ≤ (m + a) * (n - b) := Int.mul_nonneg (by omega) (by omega)
  simp only [Int.sub_mul, Int.mul_sub, Int.add_mul, Int.mul_add] at e1 e2 e3 e4
  constructor <;> omega
theorem cross_val {a b c : SPoint} (ha : Hul.place a = true) (hb : Hul.place b = true) (hc : Hul.place c = true) :
    IntKind.i64.wrap (IntKind.i64.wrap (IntKind.i64.wrap (b.x - a.x) * IntKind.i64.wrap (c.y - a.y)) - IntKind.i64.wrap (IntKind.i64.wrap (b.y - a.y) * IntKind.i64.wrap (c.x - a.x))) = Hul.cross a b c := by
  rw [Hul.place_iff] at ha hb hc
  have m1 := mul_in (a := b.x - a.x) (b := c.y - a.y) (m := 1000000) (n := 1000000) (by omega) (by omega)
  have m2 := mul_in (a := b.y - a.y) (b := c.x - a.x) (m := 1000000) (n := 1000000) (by omega) (by omega)
  unfold Hul.cross
  rw [i64_wrap (x := b.x - a.x) (by omega) (by omega), i64_wrap (x := c.y - a.y) (by omega) (by omega), i64_wrap (x := b.y - a.y) (by omega) (by omega), i64_wrap (x := c.x - a.x) (by omega) (by omega)]
  generalize (b.x - a.x) * (c.y - a.y) = p at *
  generalize (b.y - a.y) * (c.x - a.x) = q at *
  rw [i64_wrap (x := p) (by omega) (by omega), i64_wrap (x := q) (by omega) (by omega), i64_wrap (by omega) (by omega)]
theorem turn_ret {a b c : SPoint} (ha : Hul.place a = true) (hb : Hul.place b = true) (hc : Hul.place c = true) (w : World) : Ret Tryz.prog 112 #[.agg a.cells.toArray, .agg b.cells.toArray, .agg c.cells.toArray] w fun r w' => r = .int .i64 (Hul.cross a b c) ∧ Ext w w' := by
  refine ret_of (fun _ _ => sh_hull_turn_ok _ _ _) fun R hR => ?_
  unfold sh_hull_turn
  refine box_i fun b1 w1 x1 hat1 _ _ => ?_
  refine box_i fun b2 w2 x2 hat2 _ _ => ?_
  refine box_i fun b3 w3 x3 hat3 _ _ => ?_
  have h1 : Has w3 b1 0 a.cells := has_of_at ((hat1.ext x2).ext x3)
  have h2 : Has w3 b2 0 b.cells := has_of_at (hat2.ext x3)
  have h3 : Has w3 b3 0 c.cells := has_of_at hat3
  simp only [SPoint.g_x h1, SPoint.g_y h1, SPoint.g_x h2, SPoint.g_y h2, SPoint.g_x h3, SPoint.g_y h3, bin_sub, bin_mul]
  exact hR _ _ ⟨by rw [cross_val ha hb hc], (x1.trans x2).trans x3⟩
theorem Cross_ret {a b c : SPoint} (ha : Hul.place a = true) (hb : Hul.place b = true) (hc : Hul.place c = true) (w : World) : Ret Tryz.prog 115 #[.agg a.cells.toArray, .agg b.cells.toArray, .agg c.cells.toArray] w fun r w' => r = .int .i64 (Hul.cross a b c) ∧ Ext w w' := by
  refine ret_of (fun _ _ => sh_landfallref03_Cross_ok _ _ _) fun R hR => ?_
  unfold sh_landfallref03_Cross
  refine box_i fun b1 w1 x1 hat1 _ _ => ?_
  refine box_i fun b2 w2 x2 hat2 _ _ => ?_
  refine box_i fun b3 w3 x3 hat3 _ _ => ?_
  have h1 : Has w3 b1 0 a.cells := has_of_at ((hat1.ext x2).ext x3)
  have h2 : Has w3 b2 0 b.cells := has_of_at (hat2.ext x3)
  have h3 : Has w3 b3 0 c.cells := has_of_at hat3
  simp only [SPoint.g_x h1, SPoint.g_y h1, SPoint.g_x h2, SPoint.g_y h2, SPoint.g_x h3, SPoint.g_y h3, bin_sub, bin_mul]
  exact hR _ _ ⟨by rw [cross_val ha hb hc], (x1.trans x2).trans x3⟩
theorem isNaN_ret {a : Int} (w : World) : Ret Tryz.prog 139 #[.int .i64 a] w fun r w' => r = .bool false ∧ w' = w := by
  refine ret_of (fun _ _ => sh_cmp_isNaN_int__ok _) fun R hR => ?_
  unfold sh_cmp_isNaN_int_
  rw [bin_neq]
  exact hR _ _ ⟨by simp, rfl⟩
def cmpI (a b : Int) : Int := if a < b then -1 else if b < a then 1 else 0
theorem Compare_ret {a b : Int} (w : World) : Ret Tryz.prog 128 #[.int .i64 a, .int .i64 b] w fun r w' => r = .int .i64 (cmpI a b) ∧ w' = w := by
  refine ret_of (fun _ _ => sh_cmp_Compare_int__ok _ _) fun R hR => ?_
  unfold sh_cmp_Compare_int_
  refine callF_same (isNaN_ret w) ?_
  refine callF_same (isNaN_ret w) ?_
  refine br_f (br_f ?_)
  have hk : ∀ c, c = cmpI a b → R (.returned (.int .i64 c)) w := fun c hc => hR _ _ ⟨by rw [hc], rfl⟩
  unfold cmpI at hk
  rw [bin_lss]
  refine Br_i (fun hb => ?_) fun hb => ?_
  · exact hk _ (by rw [if_pos (dec_t hb)])
  · rw [bin_gtr]
    refine Br_i (fun hb2 => ?_) fun hb2 => ?_
    · exact hk _ (by rw [if_neg (dec_f hb), if_pos (dec_t hb2)])
    · exact hk _ (by rw [if_neg (dec_f hb), if_neg (dec_f hb2)])
theorem Or_ret {a b : Int} {v : Value} (w : World) (hv : Sl w 1 v 2 (iv [a, b])) : Ret Tryz.prog 127 #[v] w fun r w' => r = .int .i64 (if a = 0 then b else a) ∧ w' = w := by
  refine ret_of (fun _ _ => sh_cmp_Or_int__ok _) fun R hR => ?_
  unfold sh_cmp_Or_int_
  rw [hv.len Ty.ints]
  refine loop1 (fun x w1 => w1 = w ∧ (x = .int .i64 0 ∨ (x = .int .i64 1 ∧ a = 0) ∨ (x = .int .i64 2 ∧ a = 0 ∧ b = 0))) (fun x _ => 3 - (intOf x).toNat) ⟨rfl, .inl rfl⟩ ?_
  rintro h x w1 hx ⟨rfl, hI⟩ K hK
  have hv' : Sl w1 1 v [a, b].length (iv [a, b]) := hv
  rcases hI with rfl | ⟨rfl, ha⟩ | ⟨rfl, ha, hb⟩
  · rw [hx, bin_lss]
    refine Br_i (fun _ => ?_) fun hb => ?_
    · rw [int_elem (l := [a, b]) (n := 0) hv' (Ext.refl _) 0 rfl rfl, bin_neq]
      refine Br_i (fun hb => ?_) fun hb => ?_
      · exact hR _ _ ⟨by rw [if_neg (by simpa using hb)], rfl⟩
      · rw [bin_add, i64_wrap (by omega) (by omega)]
        exact hK _ _ ⟨rfl, .inr (.inl ⟨rfl, by simpa using hb⟩)⟩ (by simp [intOf])
    · exact absurd (dec_f hb) (by decide)
  · rw [hx, bin_lss]
    refine Br_i (fun _ => ?_) fun hb => ?_
    · rw [int_elem (l := [a, b]) (n := 1) hv' (Ext.refl _) 1 rfl rfl, bin_neq]
      refine Br_i (fun hb => ?_) fun hb => ?_
      · exact hR _ _ ⟨by rw [if_pos ha], rfl⟩
      · rw [bin_add, i64_wrap (by omega) (by omega)]
        exact hK _ _ ⟨rfl, .inr (.inr ⟨rfl, ha, by simpa using hb⟩)⟩ (by simp [intOf])
    · exact absurd (dec_f hb) (by decide)
  · rw [hx, bin_lss]
    refine Br_i (fun hb => ?_) fun hb' => ?_
    · exact absurd (dec_t hb) (by decide)
    · exact hR _ _ ⟨by rw [if_pos ha, hb], rfl⟩
def cmpP (a b : SPoint) : Int := if cmpI a.x b.x = 0 then cmpI a.y b.y else cmpI a.x b.x
theorem cmpP_less (a b : SPoint) : decide (0 ≤ cmpP a b) = !Hul.less a b := by
  unfold cmpP cmpI Hul.less
  rw [← decide_not, decide_eq_decide]
  split <;> split <;> (try split) <;> (try split) <;> (try split) <;> (try split) <;> omega
theorem compare_ret {a b : SPoint} (w : World) : Ret Tryz.prog 110 #[.agg a.cells.toArray, .agg b.cells.toArray] w fun r w' => r = .int .i64 (cmpP a b) ∧ Ext w w' := by
  refine ret_of (fun _ _ => sh_hull_compare_ok _ _) fun R hR => ?_
  unfold sh_hull_compare
  refine box_i fun b1 w1 x1 hat1 _ _ => ?_
  refine box_i fun b2 w2 x2 hat2 _ _ => ?_
  have h1 : ∀ w3, Ext w2 w3 → Has w3 b1 0 a.cells := fun w3 x3 => has_of_at ((hat1.ext x2).ext x3)
  have h2 : ∀ w3, Ext w2 w3 → Has w3 b2 0 b.cells := fun w3 x3 => has_of_at (hat2.ext x3)
  refine draw_ext fun w3 x3 => ?_
  refine det_read _ (fun w4 x4 K => Ty.SPoint_f0) ?_
  refine det_read (.int .i64 a.x) (fun w4 x4 K => load_cell Ty.int_agg (has_at (h1 w4 (x3.trans x4)) (d := 0) rfl rfl)) ?_
  refine det_read _ (fun w4 x4 K => Ty.SPoint_f0) ?_
  refine det_read (.int .i64 b.x) (fun w4 x4 K => load_cell Ty.int_agg (has_at (h2 w4 (x3.trans x4)) (d := 0) rfl rfl)) ?_
  refine det_ret _ (fun w4 x4 => Ret.mono (Compare_ret w4) fun r w' h => ⟨h.1, by rw [h.2]; exact Ext.refl _⟩) ?_
  refine det_read _ (fun w4 x4 K => Ty.SPoint_f1) ?_
  refine det_read (.int .i64 a.y) (fun w4 x4 K => load_cell Ty.int_agg (has_at (h1 w4 (x3.trans x4)) (d := 1) rfl rfl)) ?_
  refine det_read _ (fun w4 x4 K => Ty.SPoint_f1) ?_
  refine det_read (.int .i64 b.y) (fun w4 x4 K => load_cell Ty.int_agg (has_at (h2 w4 (x3.trans x4)) (d := 1) rfl rfl)) ?_
  intro w4 x4 _
  refine callF_same (Compare_ret w4) ?_
  refine lit_ints [cmpI a.x b.x, cmpI a.y b.y] rfl (by decide) (by decide) rfl fun v w5 x5 h5 _ => ?_
  refine callF_same (Or_ret w5 (Sl.of_owns h5)) ?_
  exact hR _ _ ⟨rfl, (((x1.trans x2).trans x3).trans x4).trans x5⟩
end Go.Proofs.YtoeblipchoglaaaGreatDoor
namespace Go.Proofs.YtoeblipchoglaaaGreatDoor
set_option maxRecDepth 100000
set_option maxHeartbeats 2000000
open Sh Go.RowKit
theorem callF_sh {P : Program} {f : FuncId} {args : Array Value} {w : World} {K : Value → World → Prop} {X : List PanicEntry → World → Prop} {F : (Ending → World → Prop) → World → Prop} (hF : ∀ R w, F R w → Calls P f args w R)
    (h : ∀ R : Ending → World → Prop, (∀ v w', K v w' → R (.returned v) w') → F R w) : CallF P f args w K X := hF _ _ (h _ fun _ _ hq => hq)
theorem Ty.points_agg (w : World) : (isAgg 53).run Tryz.prog w = .ok false w := by kernel_rfl
def sideXs (l : List SPoint) (k : Nat) : List Value := [.agg (Hul.at_ l k).cells.toArray, .agg (Hul.at_ l ((k + 1) % l.length)).cells.toArray]
theorem sides_seq {bp : Nat} {pv : Value} {l : List SPoint} {f : Nat × Nat} (hl : l.length ≤ 1000000) :
    SeqOf Tryz.prog (.func (.func 129) #[] #[.pointer (some ⟨bp, 0, none⟩)]) l.length (sideXs l) (fun W => At W bp (.cells #[pv] 53 f) ∧ SPoint.Row W pv l) := by
  refine ⟨_, _, rfl, by kernel_rfl, fun y I S w1 h0 hI hRd hS hy => ?_⟩
  refine callF_sh (fun _ _ => sh_hull_sides_1_ok y (.pointer (some ⟨bp, 0, none⟩))) fun R hR => ?_
  unfold sh_hull_sides_1
  obtain ⟨hat, hrow⟩ := hRd _ _ h0
  rw [load_e (u := pv) Ty.points_agg hat rfl, SPoint.row_len hrow]
  refine loop1 (fun x W => ∃ k : Nat, k ≤ l.length ∧ x = .int .i64 k ∧ I k W) (fun x _ => l.length - (intOf x).toNat) ⟨0, by omega, rfl, h0⟩ ?_
  rintro h _ W hx ⟨k, hk, rfl, hIk⟩ K hK
  rw [hx, bin_lss]
  refine Br_i (fun hb => ?_) fun hb => ?_
  · have hlt : k < l.length := by have := dec_t hb; omega
    have hlt2 : (k + 1) % l.length < l.length := Nat.mod_lt _ (by omega)
    obtain ⟨hatW, hrowW⟩ := hRd _ _ hIk
    obtain ⟨g, o, hh, _, hix⟩ := SPoint.row_at hrowW hlt
    obtain ⟨g2, o2, hh2, _, hix2⟩ := SPoint.row_at hrowW hlt2
    rw [hix, SPoint.g_all (hh W (Ext.refl _))]
    refine alloc_i Ty.SPoint_zero fun b W2 x2 hat2 hb2 _ => ?_
    refine SPoint.set (r := SPoint.zero) (s := l[k]) hat2 fun W3 m3 h3 _ => ?_
    have x3 : Ext W W3 := ((Mod.of_ext x2 : Mod (W.heap.size ≤ ·) W W2).trans (m3.mono fun j _ h => by omega)).new
    refine draw_ext fun W4 x4 => ?_
    have x34 := x3.trans x4
    have e2 : (IntKind.i64.wrap ((k : Int) + 1)).tmod (l.length : Int) = (((k + 1) % l.length : Nat) : Int) := by
      rw [i64_wrap (by omega) (by omega)]; rfl
    refine det_read (.agg (Hul.at_ l k).cells.toArray) (fun W5 x5 K => by rw [Hul.at_of hlt]; exact SPoint.g_all (has_of_at (h3.ext (x4.trans x5)))) ?_
    refine det_read pv (fun W5 x5 K => load_e Ty.points_agg (hatW.ext (x34.trans x5)) rfl) ?_
    refine det_read _ (fun W5 x5 K => bin_add) ?_
    refine det_read pv (fun W5 x5 K => load_e Ty.points_agg (hatW.ext (x34.trans x5)) rfl) ?_
    refine det_read _ (fun W5 x5 K => SPoint.row_len (Sl.ext hrowW (x34.trans x5))) ?_
    refine det_read (.int .i64 (((k + 1) % l.length : Nat) : Int)) (fun W5 x5 K => by rw [bin_rem (by omega), e2]) ?_
    refine det_read _ (fun W5 x5 K => hix2 W5 K _) ?_
    refine det_read (.agg (Hul.at_ l ((k + 1) % l.length)).cells.toArray) (fun W5 x5 K => by rw [Hul.at_of hlt2]; exact SPoint.g_all (hh2 W5 (x34.trans x5))) ?_
    intro W5 x5 _
    refine hy k W5 _ _ hlt (hI k _ _ hIk (x34.trans x5)) (fun W6 h6 => ?_) fun W6 h6 => ?_
    · rw [un_not]
      refine br_f ?_
      rw [bin_add, i64_wrap (by omega) (by omega)]
      exact hK _ _ ⟨k + 1, by omega, by simp, h6⟩ (by simp [intOf]; omega)
    · rw [un_not]
      exact br_t (hR _ _ (.inr h6))
  · have : k = l.length := by have := dec_f hb; omega
    subst this
    exact hR _ _ (.inl hIk)
end Go.Proofs.YtoeblipchoglaaaGreatDoor
namespace Go.Proofs.YtoeblipchoglaaaGreatDoor
set_option maxRecDepth 100000
set_option maxHeartbeats 4000000
open Sh Go.RowKit
theorem Ty.bool_zeroR (w : World) : (zeroValue 4).run Tryz.prog w = .ok (.bool false) w := by kernel_rfl
theorem sides_ret {pv : Value} (hc : pv.cells = #[pv]) (w : World) : Ret Tryz.prog 111 #[pv] w fun r w' => ∃ bp, r = .func (.func 129) #[] #[.pointer (some ⟨bp, 0, none⟩)] ∧ At w' bp (.cells #[pv] 53 (0, 0)) ∧ Ext w w' := by
  refine ret_of (fun _ _ => sh_hull_sides_ok _) fun R hR => ?_
  unfold sh_hull_sides
  refine box_i fun b w1 x1 hat _ _ => ?_
  rw [hc] at hat
  rw [mk_func]
  exact hR _ _ ⟨b, rfl, hat, x1⟩
def sideOk (l : List SPoint) (i k : Nat) : Prop := Hul.at_ l k = Hul.at_ l i ∨ Hul.at_ l k = Hul.at_ l ((i + 1) % l.length) ∨ 0 < Hul.cross (Hul.at_ l i) (Hul.at_ l ((i + 1) % l.length)) (Hul.at_ l k)
theorem mem_at {l : List SPoint} {p : SPoint} (h : p ∈ l) : ∃ i, i < l.length ∧ Hul.at_ l i = p := by
  obtain ⟨i, hi⟩ := List.getElem?_of_mem h
  have := (List.getElem?_eq_some_iff.1 hi).1
  exact ⟨i, this, by simp [Hul.at_, hi]⟩
theorem at_mem {l : List SPoint} {i : Nat} (h : i < l.length) : Hul.at_ l i ∈ l := by rw [Hul.at_of h]; exact List.getElem_mem h
theorem hullValid_ret {pv : Value} {l : List SPoint} (hok : ∀ p ∈ l, p.Ok) (w : World) (hv : SPoint.Row w pv l) : Ret Tryz.prog 88 #[pv] w fun r w' => r = .bool (Hul.valid l) ∧ Ext w w' := by
  refine ret_of (fun _ _ => sh_hull_Valid_ok _) fun R hR => ?_
  unfold sh_hull_Valid
  have hle := hv.le
  have hpv := Sl.cells hv
  refine box_i fun bp w1 x1 hatp hbp _ => ?_
  rw [hpv] at hatp
  refine alloc_i Ty.bool_zeroR fun br w2 x2 hatr hbr _ => ?_
  have hatr : At w2 br (.cells #[.bool false] 4 (0, 0)) := hatr
  have hatp := hatp.ext x2
  have hv := (hv.ext x1).ext x2
  have hbr2 := hatr.lt
  have hbp2 := hatp.lt
  have x02 := x1.trans x2
  have fin : ∀ (c : Bool) (W : World), Ext w2 W → c = Hul.valid l → DoU Tryz.prog (Instr.storeAt 4 (.pointer (some ⟨br, 0, none⟩)) (.bool c)) W (fun _ w12 => Res Tryz.prog [.cell (.pointer (some ⟨br, 0, none⟩)) 4] w12 R) (Pan R) := fun c W hx hc => by
    refine store_i Ty.bool_size (hatr.ext hx) (by simp) rfl fun W1 m1 h1 _ => ?_
    refine res_i (rv_cell (loadVar_at Ty.bool_agg h1 rfl) (rv_nil _)) (hR _ _ ⟨by rw [hc]; rfl, ?_⟩)
    exact ((Mod.of_ext (x02.trans hx) : Mod (w.heap.size ≤ ·) w W).trans (m1.mono fun k _ h => by have := x1.size; omega)).new
  refine join0 (fun W => W = w2 ∧ 1 ≤ l.length ∧ l.length ≤ 64) ?_ fun K hK => ?_
  · rintro _ W0 ⟨hW0, h1, h64⟩
    subst W0
    rw [load_e (u := pv) Ty.points_agg hatp rfl, SPoint.row_len hv]
    refine loop1 (fun x W => ∃ k : Nat, k ≤ l.length ∧ x = .int .i64 k ∧ Ext w2 W ∧ (∀ i, i < k → Hul.place (Hul.at_ l i) = true) ∧ ∀ i, 1 ≤ i → i < k → Hul.less (Hul.at_ l 0) (Hul.at_ l i) = true) (fun x _ => l.length - (intOf x).toNat)
      ⟨0, by omega, rfl, Ext.refl _, fun i hi => by omega, fun i _ hi => by omega⟩ ?_
    rintro h _ W hx ⟨k, hk, rfl, xW, hpl, hls⟩ K hK
    rw [hx, bin_lss]
    refine Br_i (fun hb => ?_) fun hb => ?_
    · have hlt : k < l.length := by have := dec_t hb; omega
      obtain ⟨bad, hbad⟩ : ∃ b : Bool, b = (!Hul.place (Hul.at_ l k) || (decide (0 < k) && !Hul.less (Hul.at_ l 0) (Hul.at_ l k))) := ⟨_, rfl⟩
      refine join0 (fun W' => Ext w2 W' ∧ bad = false) ?_ fun K2 hK2 => ?_
      · rintro _ W' ⟨xW', hf⟩
        rw [bin_add, i64_wrap (by omega) (by omega)]
        rw [hf] at hbad
        have hb2 : Hul.place (Hul.at_ l k) = true ∧ (0 < k → Hul.less (Hul.at_ l 0) (Hul.at_ l k) = true) := by
          have := hbad.symm
          simp only [Bool.or_eq_false_iff, Bool.not_eq_false', Bool.and_eq_false_iff, decide_eq_false_iff_not] at this
          exact ⟨this.1, fun h => this.2.resolve_left (by omega)⟩
        refine hK _ _ ⟨k + 1, by omega, by simp, xW', fun i hi => ?_, fun i h1 hi => ?_⟩ (by simp [intOf]; omega)
        · rcases Nat.lt_succ_iff_lt_or_eq.1 hi with h | rfl
          · exact hpl i h
          · exact hb2.1
        · rcases Nat.lt_succ_iff_lt_or_eq.1 hi with h | rfl
          · exact hls i h1 h
          · exact hb2.2 h1
      · obtain ⟨g, o, hh, _, hix⟩ := SPoint.row_at hv hlt
        obtain ⟨g0, o0, hh0, _, hix0⟩ := SPoint.row_at hv (show 0 < l.length by omega)
        rw [hix, SPoint.g_all (hh W xW)]
        refine alloc_i Ty.SPoint_zero fun b W2 x2 hat2 hb2 _ => ?_
        refine SPoint.set (r := SPoint.zero) (s := l[k]) hat2 fun W3 m3 h3 _ => ?_
        have x3 : Ext W W3 := ((Mod.of_ext x2 : Mod (W.heap.size ≤ ·) W W2).trans (m3.mono fun j _ h => by omega)).new
        have xW3 := xW.trans x3
        refine join1 (fun q W' => Ext w2 W' ∧ q = .bool bad) ?_ fun K3 hK3 => ?_
        · rintro _ _ W' hq ⟨xW', rfl⟩
          rw [hq]
          refine Br_i (fun hb => ?_) fun hb => ?_
          · refine fin false W' xW' ?_
            rw [eq_comm, ← Bool.not_eq_true, Hul.valid_iff]
            rintro ⟨⟨_, hp, hl⟩, _⟩
            rw [hb] at hbad
            have := hbad.symm
            simp only [Bool.or_eq_true, Bool.not_eq_true', Bool.and_eq_true, decide_eq_true_eq] at this
            rcases this with h | ⟨h0, h⟩
            · rw [hp _ (at_mem hlt)] at h; cases h
            · rw [hl k h0 hlt] at h; cases h
          · exact hK2 _ ⟨xW', hb⟩
        · refine draw_ext fun W4 x4 => ?_
          have xW4 := xW3.trans x4
          refine det_read (.agg l[k].cells.toArray) (fun W5 x5 K => SPoint.g_all (has_of_at (h3.ext (x4.trans x5)))) ?_
          refine det_ret _ (fun W5 x5 => isPlace_ret (hok _ (List.getElem_mem hlt)) W5) ?_
          refine det_read _ (fun W5 x5 K => un_not) ?_
          rw [Hul.at_of hlt] at hbad
          refine Gd_i (fun hb => ?_) fun hb => ?_
          · refine det_read _ (fun W5 x5 K => bin_gtr) ?_
            refine Gd_i (fun hb2 => ?_) fun hb2 => ?_
            · refine det_read pv (fun W5 x5 K => load_e Ty.points_agg (hatp.ext (xW4.trans x5)) rfl) ?_
              refine det_read _ (fun W5 x5 K => hix0 W5 K _) ?_
              refine det_read (.agg (l[0]'(by omega)).cells.toArray) (fun W5 x5 K => SPoint.g_all (hh0 W5 (xW4.trans x5))) ?_
              refine det_read (.agg l[k].cells.toArray) (fun W5 x5 K => SPoint.g_all (has_of_at (h3.ext (x4.trans x5)))) ?_
              intro W5 x5 _
              refine callF_ret (compare_ret W5) ?_
              rintro _ W6 ⟨rfl, x6⟩
              rw [bin_geq, cmpP_less]
              refine hK3 _ _ ⟨(xW4.trans x5).trans x6, ?_⟩
              rw [hbad, hb, Hul.at_of (show 0 < l.length by omega)]
              have : decide (0 < k) = true := by have := dec_t hb2; rw [decide_eq_true_eq]; omega
              rw [this]; rfl
            · intro W5 x5 _
              refine hK3 _ _ ⟨xW4.trans x5, ?_⟩
              rw [hbad, hb]
              have : decide (0 < k) = false := by have := dec_f hb2; rw [decide_eq_false_iff_not]; omega
              rw [this]; rfl
          · intro W5 x5 _
            refine hK3 _ _ ⟨xW4.trans x5, ?_⟩
            rw [hbad, hb]; rfl
    · have hkn : k = l.length := by have := dec_f hb; omega
      subst hkn
      have hcom : Hul.common l := ⟨⟨h1, h64⟩, fun p hp => by obtain ⟨i, hi, rfl⟩ := mem_at hp; exact hpl i hi, hls⟩
      rw [load_e (u := pv) Ty.points_agg (hatp.ext xW) rfl, SPoint.row_len (Sl.ext hv xW), bin_lss]
      refine Br_i (fun hb => ?_) fun hb => ?_
      · refine fin true W xW ?_
        rw [eq_comm, Hul.valid_iff]
        exact ⟨hcom, fun h3 => by have := dec_t hb; omega⟩
      · have h3 : 3 ≤ l.length := by have := dec_f hb; omega
        rw [load_e (u := pv) Ty.points_agg (hatp.ext xW) rfl]
        refine callF_ret (sides_ret hpv W) ?_
        rintro _ w3 ⟨bs, rfl, hats, x3⟩
        have xw3 := xW.trans x3
        have z3 := xw3.size
        have hv3 := Sl.ext hv xw3
        have hbs := hats.lt
        refine range_seq (sides_seq (f := (0, 0)) (by omega)) (fun k _ => rfl) (fun k V => Ext w3 V ∧ w3.heap.size + 2 ≤ V.heap.size ∧ ∀ i, i < k → ∀ j, j < l.length → sideOk l i j)
          (fun e V => e = .ret ∧ ¬ Hul.sidesP l ∧ w3.heap.size + 2 ≤ V.heap.size ∧ Mod (· = br) w3 V ∧ At V br (.cells #[.bool false] 4 (0, 0)))
          (fun V xV zV => ⟨xV, zV, fun i hi => by omega⟩) (fun k V h => h.2.1) (fun e V h => h.2.2.1)
          (fun k a b h he => ⟨h.1.trans he, by have := he.size; omega, h.2.2⟩)
          (fun e a b h he => ⟨h.1, h.2.1, by have := he.size; have := h.2.2.1; omega, h.2.2.2.1.trans (.of_ext he), h.2.2.2.2.ext he⟩)
          (fun k V h => ⟨hats.ext h.1, Sl.ext hv3 h.1⟩) (fun e V h => .inl h.1) ?_ ?_ ?_ (fun p hp => by cases hp)
        · rintro k V Q hk ⟨xV, zV, hside⟩ hQn hQe
          have hk2 : (k + 1) % l.length < l.length := Nat.mod_lt _ (by omega)
          refine alloc_i Ty.SPoint_zero fun b5 V1 y1 at1 hb5 _ => ?_
          refine SPoint.set (r := SPoint.zero) (s := Hul.at_ l k) at1 fun V2 m2 at2 _ => ?_
          have y2 : Ext V V2 := ((Mod.of_ext y1 : Mod (V.heap.size ≤ ·) V V1).trans (m2.mono fun j _ h => by omega)).new
          refine alloc_i Ty.SPoint_zero fun b6 V3 y3 at3 hb6 _ => ?_
          refine SPoint.set (r := SPoint.zero) (s := Hul.at_ l ((k + 1) % l.length)) at3 fun V4 m4 at4 hs4 => ?_
          have y24 : Ext V2 V4 := ((Mod.of_ext y3 : Mod (V2.heap.size ≤ ·) V2 V3).trans (m4.mono fun j _ h => by omega)).new
          have y4 := y2.trans y24
          have z2 := y2.size
          have at2 := at2.ext y24
          have zz : w3.heap.size + 1 < V.heap.size := by omega
          refine ⟨KeepL.of_ext y4 zz, fun o5 => ?_⟩
          have m5 := Mod.putObj V4 (w3.heap.size + 1) o5
          have hs5 : (V4.putObj (w3.heap.size + 1) o5).heap.size = V4.heap.size := by simp
          generalize V4.putObj (w3.heap.size + 1) o5 = V5 at *
          have z4 := y4.size
          have h5lt := at2.lt
          have h6lt := at4.lt
          have at25 := at2.mod m5 (by omega)
          have at45 := at4.mod m5 (by omega)
          have y5 : Ext w3 V5 := ((Mod.of_ext (xV.trans y4) : Mod (w3.heap.size ≤ ·) w3 V4).trans (m5.mono fun j _ h => by omega)).new
          have hvV := Sl.ext hv3 y5
          have hpV := (hatp.ext xw3).ext y5
          rw [load_e (u := pv) Ty.points_agg hpV rfl, SPoint.row_len hvV]
          refine loop1 (fun x U => ∃ j : Nat, j ≤ l.length ∧ x = .int .i64 j ∧ Ext V5 U ∧ ∀ i, i < j → sideOk l k i) (fun x _ => l.length - (intOf x).toNat) ⟨0, by omega, rfl, Ext.refl _, fun i hi => by omega⟩ ?_
          rintro h' _ U hx ⟨j, hj, rfl, xU, hsd⟩ K hK
          rw [hx, bin_lss]
          refine Br_i (fun hb => ?_) fun hb => ?_
          · have hjlt : j < l.length := by have := dec_t hb; omega
            obtain ⟨bad, hbad⟩ : ∃ b : Bool, b = (!decide (Hul.at_ l j = Hul.at_ l k) && (!decide (Hul.at_ l j = Hul.at_ l ((k + 1) % l.length)) && decide (Hul.cross (Hul.at_ l k) (Hul.at_ l ((k + 1) % l.length)) (Hul.at_ l j) ≤ 0))) := ⟨_, rfl⟩
            have hnb : bad = false → sideOk l k j := fun hf => by
              rw [hf] at hbad
              have := hbad.symm
              simp only [Bool.and_eq_false_iff, Bool.not_eq_false', decide_eq_true_eq, decide_eq_false_iff_not] at this
              exact this.imp id (Or.imp id fun h => by omega)
            have hib : bad = true → ¬ Hul.sidesP l := fun hf hs => by
              rw [hf] at hbad
              have := hbad.symm
              simp only [Bool.and_eq_true, Bool.not_eq_true', decide_eq_true_eq, decide_eq_false_iff_not] at this
              rcases hs h3 k hk j hjlt with h | h | h
              · exact this.1 h
              · exact this.2.1 h
              · omega
            refine join0 (fun U' => Ext V5 U' ∧ bad = false) ?_ fun K2 hK2 => ?_
            · rintro _ U' ⟨xU', hf⟩
              rw [bin_add, i64_wrap (by omega) (by omega)]
              refine hK _ _ ⟨j + 1, by omega, by simp, xU', fun i hi => ?_⟩ (by simp [intOf]; omega)
              rcases Nat.lt_succ_iff_lt_or_eq.1 hi with h | rfl
              · exact hsd i h
              · exact hnb hf
            · obtain ⟨g, o, hh, _, hix⟩ := SPoint.row_at hvV hjlt
              rw [hix, SPoint.g_all (hh U xU)]
              refine alloc_i Ty.SPoint_zero fun b8 U2 u2 hat8 hb8 _ => ?_
              refine SPoint.set (r := SPoint.zero) (s := l[j]) hat8 fun U3 n3 h8 _ => ?_
              have u3 : Ext U U3 := ((Mod.of_ext u2 : Mod (U.heap.size ≤ ·) U U2).trans (n3.mono fun i _ h => by omega)).new
              have xU3 := xU.trans u3
              have hx8 : Has U3 b8 0 l[j].cells := has_of_at h8
              have hx5 : Has U3 b5 0 (Hul.at_ l k).cells := has_of_at (at25.ext xU3)
              have hx6 : Has U3 b6 0 (Hul.at_ l ((k + 1) % l.length)).cells := has_of_at (at45.ext xU3)
              rw [Hul.at_of hjlt] at hbad
              refine join1 (fun q U' => Ext V5 U' ∧ q = .bool bad) ?_ fun K3 hK3 => ?_
              · rintro _ _ U' hq ⟨xU', rfl⟩
                rw [hq]
                refine Br_i (fun hb => ?_) fun hb => ?_
                · have hrU : At U' br (.cells #[.bool false] 4 (0, 0)) := (((hatr.ext xw3).ext y5).ext xU')
                  refine store_i Ty.bool_size hrU (by simp) rfl fun U'' m'' h'' hs'' => ?_
                  have zU' := xU'.size
                  have zV5 := y5.size
                  have mm : Mod (· = br) V5 U'' := (Mod.of_ext xU' : Mod (· = br) V5 U').trans m''
                  refine round_end mm (by omega) (by omega) (by omega) fun U3 m3 hs3 => ?_
                  refine hQe .ret U3 ⟨rfl, hib hb, by omega, ?_, h''.mod m3 (by omega)⟩
                  exact ((Mod.of_ext y5 : Mod (· = br) w3 V5).trans mm).comp m3 (fun _ _ h => h) (fun i hi h => by omega)
                · exact hK2 _ ⟨xU', hb⟩
              · rw [SPoint.g_all hx8, SPoint.g_all hx5, SPoint.neq]
                refine Gd_i (fun hb1 => ?_) fun hb1 => ?_
                · rw [SPoint.g_all hx8, SPoint.g_all hx6, SPoint.neq]
                  refine Gd_i (fun hb2 => ?_) fun hb2 => ?_
                  · rw [SPoint.g_all hx5, SPoint.g_all hx6, SPoint.g_all hx8]
                    refine callF_ret (turn_ret (hcom.2.1 _ (at_mem hk)) (hcom.2.1 _ (at_mem hk2)) (hcom.2.1 _ (List.getElem_mem hjlt)) U3) ?_
                    rintro _ U4 ⟨rfl, u4⟩
                    rw [bin_leq]
                    refine hK3 _ _ ⟨xU3.trans u4, ?_⟩
                    rw [hbad, hb1, hb2]; rfl
                  · refine hK3 _ _ ⟨xU3, ?_⟩
                    rw [hbad, hb1, hb2]; rfl
                · refine hK3 _ _ ⟨xU3, ?_⟩
                  rw [hbad, hb1]; rfl
          · have hjn : j = l.length := by have := dec_f hb; omega
            subst hjn
            have zU := xU.size
            refine round_end (S := fun _ => False) (.of_ext xU) (by omega) id id fun U3 m3 hs3 => ?_
            refine hQn U3 ⟨?_, by omega, fun i hi => ?_⟩
            · exact ((Mod.of_ext (y5.trans xU) : Mod (w3.heap.size ≤ ·) w3 U).trans (m3.mono fun i _ h => by omega)).new
            · rcases Nat.lt_succ_iff_lt_or_eq.1 hi with h | rfl
              · exact hside i h
              · exact hsd
        · rintro V ⟨xV, zV, hside⟩ V' m' hs' hD
          have xV' : Ext w3 V' := ((Mod.of_ext xV : Mod (w3.heap.size ≤ ·) w3 V).trans (m'.mono fun i _ h => by omega)).new
          refine store_i Ty.bool_size ((hatr.ext xw3).ext xV') (by simp) rfl fun U m1 h1 hs1 => ?_
          refine mark_i (hD.mod m1 (by omega)) fun U' m2 hs2 => ?_
          have h2 := h1.mod m2 (by omega)
          refine res_i (rv_cell (loadVar_at Ty.bool_agg h2 rfl) (rv_nil _)) (hR _ _ ⟨?_, ?_⟩)
          · have : true = Hul.valid l := by
              rw [eq_comm, Hul.valid_iffP]
              exact ⟨hcom, fun _ i hi k hk => hside i hi k hk⟩
            rw [← this]; rfl
          · have := x02.size
            have := x1.size
            exact (((Mod.of_ext ((x02.trans xw3).trans xV') : Mod (w.heap.size ≤ ·) w V').trans (m1.mono fun k _ h => by omega)).trans (m2.mono fun k _ h => by omega)).new
        · rintro V ⟨_, hns, zV, mV, hV⟩ V' m' hs' hD
          refine mark_i hD fun U' m2 hs2 => ?_
          have h2 := (hV.mod m' (by omega)).mod m2 (by omega)
          refine res_i (rv_cell (loadVar_at Ty.bool_agg h2 rfl) (rv_nil _)) (hR _ _ ⟨?_, ?_⟩)
          · have : false = Hul.valid l := by
              rw [eq_comm, ← Bool.not_eq_true, Hul.valid_iffP]
              exact fun h => hns h.2
            rw [← this]; rfl
          · have := x02.size
            have := x1.size
            exact ((((Mod.of_ext (x02.trans xw3) : Mod (w.heap.size ≤ ·) w w3).trans (mV.mono fun k _ h => by omega)).trans (m'.mono fun k _ h => by omega)).trans (m2.mono fun k _ h => by omega)).new
  · refine join1 (fun q W => W = w2 ∧ q = .bool (decide (l.length < 1) || decide (64 < l.length))) ?_ fun K3 hK3 => ?_
    · rintro _ _ W0 hq ⟨hW0, rfl⟩
      subst W0
      rw [hq]
      refine Br_i (fun hb => ?_) fun hb => ?_
      · refine fin false _ (Ext.refl _) ?_
        rw [eq_comm, ← Bool.not_eq_true, Hul.valid_iff]
        rintro ⟨⟨h, _⟩, _⟩
        simp only [Bool.or_eq_true, decide_eq_true_eq] at hb
        omega
      · simp only [Bool.or_eq_false_iff, decide_eq_false_iff_not] at hb
        exact hK _ ⟨rfl, by omega, by omega⟩
    · rw [load_e (u := pv) Ty.points_agg hatp rfl, SPoint.row_len hv, bin_lss]
      refine Gd_i (fun hb => ?_) fun hb => ?_
      · rw [load_e (u := pv) Ty.points_agg hatp rfl, SPoint.row_len hv, bin_gtr]
        refine hK3 _ _ ⟨rfl, ?_⟩
        have := dec_f hb
        rw [decide_eq_false (p := l.length < 1) (by omega)]
        simp only [Bool.false_or]
        congr 1
        rw [decide_eq_decide]; omega
      · refine hK3 _ _ ⟨rfl, ?_⟩
        have := dec_t hb
        rw [decide_eq_true (p := l.length < 1) (by omega)]; rfl
end Go.Proofs.YtoeblipchoglaaaGreatDoor
namespace Go.Proofs.YtoeblipchoglaaaGreatDoor
set_option maxRecDepth 100000
set_option maxHeartbeats 4000000
open Sh Go.RowKit
theorem places_ret {pv : Value} {l : List SPoint} (w : World) (hv : SPoint.Row w pv l) : Ret Tryz.prog 113 #[pv] w fun r w' => r = .bool (l.all Hul.place) ∧ Ext w w' := by
  refine ret_of (fun _ _ => sh_landfallref03_places_ok _) fun R hR => ?_
  unfold sh_landfallref03_places
  have hle := hv.le
  refine loop1 (fun x W => ∃ k : Nat, k ≤ l.length ∧ x = .int .i64 k ∧ Ext w W ∧ ∀ p ∈ l.take k, Hul.place p = true) (fun x _ => l.length - (intOf x).toNat) ⟨0, by omega, rfl, Ext.refl _, by simp⟩ ?_
  rintro h _ W hx ⟨k, hk, rfl, xW, hpl⟩ K hK
  rw [hx, SPoint.row_len (Sl.ext hv xW), bin_lss]
  refine Br_i (fun hb => ?_) fun hb => ?_
  · have hlt : k < l.length := by have := dec_t hb; omega
    obtain ⟨g, o, hh, _, hix⟩ := SPoint.row_at hv hlt
    rw [hix, SPoint.g_all (hh W xW)]
    refine callF_ret (Place_ret W) ?_
    rintro _ W2 ⟨rfl, x2⟩
    rw [un_not]
    refine Br_i (fun hb2 => ?_) fun hb2 => ?_
    · refine hR _ _ ⟨?_, xW.trans x2⟩
      congr 1
      rw [eq_comm, ← Bool.not_eq_true, List.all_eq_true]
      intro h
      rw [h _ (List.getElem_mem hlt)] at hb2; cases hb2
    · rw [bin_add, i64_wrap (by omega) (by omega)]
      refine hK _ _ ⟨k + 1, by omega, by simp, xW.trans x2, fun p hp => ?_⟩ (by simp [intOf]; omega)
      rw [List.take_succ_eq_append_getElem hlt, List.mem_append, List.mem_singleton] at hp
      rcases hp with hp | rfl
      · exact hpl p hp
      · simpa using hb2
  · have hge : l.length ≤ k := by have := dec_f hb; omega
    rw [List.take_of_length_le hge] at hpl
    refine hR _ _ ⟨?_, xW⟩
    congr 1
    rw [eq_comm, List.all_eq_true]; exact hpl
theorem refHullValid_ret {pv : Value} {l : List SPoint} (w : World) (hv : SPoint.Row w pv l) : Ret Tryz.prog 89 #[pv] w fun r w' => r = .bool (Hul.valid l) ∧ Ext w w' := by
  refine ret_of (fun _ _ => sh_landfallref03_Valid_ok _) fun R hR => ?_
  unfold sh_landfallref03_Valid
  have hle := hv.le
  rw [SPoint.row_len hv]
  have no : ¬ Hul.Valid l → (false : Bool) = Hul.valid l := fun h => by rw [eq_comm, ← Bool.not_eq_true, Hul.valid_iff]; exact h
  refine join0 (fun W => Ext w W ∧ (1 ≤ l.length ∧ l.length ≤ 64) ∧ l.all Hul.place = true) ?_ fun K hK => ?_
  · rintro _ W0 ⟨x0, ⟨h1, h64⟩, hpl⟩
    have hpl : ∀ p ∈ l, Hul.place p = true := List.all_eq_true.1 hpl
    have hv0 := Sl.ext hv x0
    refine loop1 (fun x W => ∃ k : Nat, 1 ≤ k ∧ k ≤ l.length ∧ x = .int .i64 k ∧ Ext w W ∧ ∀ i, 1 ≤ i → i < k → Hul.less (Hul.at_ l 0) (Hul.at_ l i) = true) (fun x _ => l.length - (intOf x).toNat)
      ⟨1, by omega, h1, rfl, x0, fun i _ hi => by omega⟩ ?_
    rintro h _ W hx ⟨k, hk1, hk, rfl, xW, hls⟩ K hK
    rw [hx, bin_lss]
    refine Br_i (fun hb => ?_) fun hb => ?_
    · have hlt : k < l.length := by have := dec_t hb; omega
      obtain ⟨g, o, hh, _, hix⟩ := SPoint.row_at hv hlt
      obtain ⟨g0, o0, hh0, _, hix0⟩ := SPoint.row_at hv (show 0 < l.length by omega)
      refine draw_ext fun W4 x4 => ?_
      have x14 := xW.trans x4
      refine det_read _ (fun W5 x5 K => hix0 W5 K _) ?_
      refine det_read (.agg (l[0]'(by omega)).cells.toArray) (fun W5 x5 K => SPoint.g_all (hh0 W5 (x14.trans x5))) ?_
      refine det_read _ (fun W5 x5 K => hix W5 K _) ?_
      refine det_read (.agg l[k].cells.toArray) (fun W5 x5 K => SPoint.g_all (hh W5 (x14.trans x5))) ?_
      intro W5 x5 _
      refine callF_ret (Less_ret W5) ?_
      rintro _ W6 ⟨rfl, x6⟩
      have x16 := (x14.trans x5).trans x6
      rw [un_not]
      refine Br_i (fun hb2 => ?_) fun hb2 => ?_
      · refine hR _ _ ⟨?_, x16⟩
        congr 1
        refine no fun hval => ?_
        have := hval.1.2.2 k hk1 hlt
        rw [Hul.at_of (show 0 < l.length by omega), Hul.at_of hlt] at this
        rw [this] at hb2; cases hb2
      · rw [bin_add, i64_wrap (by omega) (by omega)]
        refine hK _ _ ⟨k + 1, by omega, by omega, by simp, x16, fun i h1 hi => ?_⟩ (by simp [intOf]; omega)
        rcases Nat.lt_succ_iff_lt_or_eq.1 hi with h | rfl
        · exact hls i h1 h
        · rw [Hul.at_of (show 0 < l.length by omega), Hul.at_of hlt]; simpa using hb2
    · have hkn : k = l.length := by have := dec_f hb; omega
      subst hkn
      have hcom : Hul.common l := ⟨⟨h1, h64⟩, hpl, hls⟩
      refine loop2 (fun x y W' => ∃ k : Nat, k ≤ l.length ∧ x = .int .i64 k ∧ Ext w W' ∧ (3 ≤ l.length → ∀ i, i < k → ∀ j, j < l.length → j ≠ i → j ≠ (i + 1) % l.length → 0 < Hul.cross (Hul.at_ l i) (Hul.at_ l ((i + 1) % l.length)) (Hul.at_ l j)))
        (fun x _ _ => l.length - (intOf x).toNat) ⟨0, by omega, rfl, xW, fun _ i hi => by omega⟩ ?_
      rintro h2 _ y V hx2 hy2 ⟨k, hk, rfl, xV, hsd⟩ K2 hK2
      have yes : (3 ≤ l.length → k = l.length) → (true : Bool) = Hul.valid l := fun hkn => by
        rw [eq_comm, Hul.valid_iff]
        refine ⟨hcom, fun h3 i hi => ?_⟩
        have := hkn h3
        subst this
        exact hsd h3 i hi
      refine join0 (fun V' => V' = V ∧ k < l.length ∧ 3 ≤ l.length) ?_ fun K3 hK3 => ?_
      · rintro _ V' ⟨hV', hklt, h3⟩
        subst V'
        have hk2 : (k + 1) % l.length < l.length := Nat.mod_lt _ (by omega)
        have e2 : (IntKind.i64.wrap ((k : Int) + 1)).tmod (l.length : Int) = (((k + 1) % l.length : Nat) : Int) := by
          rw [i64_wrap (by omega) (by omega)]; rfl
        obtain ⟨gk, ok, hhk, _, hixk⟩ := SPoint.row_at hv hklt
        obtain ⟨gn, on, hhn, _, hixn⟩ := SPoint.row_at hv hk2
        refine loop1 (fun x V' => ∃ j : Nat, j ≤ l.length ∧ x = .int .i64 j ∧ Ext w V' ∧ ∀ i, i < j → i ≠ k → i ≠ (k + 1) % l.length → 0 < Hul.cross (Hul.at_ l k) (Hul.at_ l ((k + 1) % l.length)) (Hul.at_ l i)) (fun x _ => l.length - (intOf x).toNat)
          ⟨0, by omega, rfl, xV, fun i hi => by omega⟩ ?_
        rintro h3' _ U hx3 ⟨j, hj, rfl, xU, hin⟩ K4 hK4
        rw [hx3, bin_lss]
        refine Br_i (fun hb3 => ?_) fun hb3 => ?_
        · have hjlt : j < l.length := by have := dec_t hb3; omega
          obtain ⟨gj, oj, hhj, _, hixj⟩ := SPoint.row_at hv hjlt
          obtain ⟨bad, hbad⟩ : ∃ b : Bool, b = (!decide (j = k) && (!decide (j = (k + 1) % l.length) && decide (Hul.cross (Hul.at_ l k) (Hul.at_ l ((k + 1) % l.length)) (Hul.at_ l j) ≤ 0))) := ⟨_, rfl⟩
          refine join0 (fun U' => Ext w U' ∧ bad = false) ?_ fun K5 hK5 => ?_
          · rintro _ U' ⟨xU', hf⟩
            rw [bin_add, i64_wrap (by omega) (by omega)]
            refine hK4 _ _ ⟨j + 1, by omega, by simp, xU', fun i hi h1 h2 => ?_⟩ (by simp [intOf]; omega)
            rcases Nat.lt_succ_iff_lt_or_eq.1 hi with h | rfl
            · exact hin i h h1 h2
            · rw [hf] at hbad
              have := hbad.symm
              simp only [Bool.and_eq_false_iff, Bool.not_eq_false', decide_eq_true_eq, decide_eq_false_iff_not] at this
              rcases this with h | h | h
              · exact absurd h h1
              · exact absurd h h2
              · omega
          · refine join1 (fun q U' => Ext w U' ∧ q = .bool bad) ?_ fun K6 hK6 => ?_
            · rintro _ _ U' hq ⟨xU', rfl⟩
              rw [hq]
              refine Br_i (fun hb4 => ?_) fun hb4 => ?_
              · refine hR _ _ ⟨?_, xU'⟩
                congr 1
                refine no fun hval => ?_
                rw [hb4] at hbad
                have := hbad.symm
                simp only [Bool.and_eq_true, Bool.not_eq_true', decide_eq_true_eq, decide_eq_false_iff_not] at this
                have := hval.2 h3 k hklt j hjlt this.1 this.2.1
                omega
              · exact hK5 _ ⟨xU', hb4⟩
            · refine draw_ext fun V4 x4 => ?_
              have xU4 := xU.trans x4
              rw [hx2]
              refine det_read _ (fun W5 x5 K => bin_neq) ?_
              refine Gd_i (fun hb4 => ?_) fun hb4 => ?_
              · refine det_read _ (fun W5 x5 K => bin_add) ?_
                refine det_read (.int .i64 (((k + 1) % l.length : Nat) : Int)) (fun W5 x5 K => by rw [bin_rem (by omega), e2]) ?_
                refine det_read _ (fun W5 x5 K => bin_neq) ?_
                have hjk : ¬ j = k := by have := hb4; simp only [Bool.not_eq_true', decide_eq_false_iff_not] at this; omega
                refine Gd_i (fun hb5 => ?_) fun hb5 => ?_
                · have hjn : ¬ j = (k + 1) % l.length := by have := hb5; simp only [Bool.not_eq_true', decide_eq_false_iff_not] at this; omega
                  refine det_read _ (fun W5 x5 K => hixk W5 K _) ?_
                  refine det_read (.agg l[k].cells.toArray) (fun W5 x5 K => SPoint.g_all (hhk W5 (xU4.trans x5))) ?_
                  refine det_read _ (fun W5 x5 K => bin_add) ?_
                  refine det_read (.int .i64 (((k + 1) % l.length : Nat) : Int)) (fun W5 x5 K => by rw [bin_rem (by omega), e2]) ?_
                  refine det_read _ (fun W5 x5 K => hixn W5 K _) ?_
                  refine det_read (.agg (l[(k + 1) % l.length]'hk2).cells.toArray) (fun W5 x5 K => SPoint.g_all (hhn W5 (xU4.trans x5))) ?_
                  refine det_read _ (fun W5 x5 K => hixj W5 K _) ?_
                  refine det_read (.agg l[j].cells.toArray) (fun W5 x5 K => SPoint.g_all (hhj W5 (xU4.trans x5))) ?_
                  intro W5 x5 _
                  refine callF_ret (Cross_ret (hpl _ (List.getElem_mem hklt)) (hpl _ (List.getElem_mem hk2)) (hpl _ (List.getElem_mem hjlt)) W5) ?_
                  rintro _ W6 ⟨rfl, x6⟩
                  rw [bin_leq]
                  refine hK6 _ _ ⟨(xU4.trans x5).trans x6, ?_⟩
                  rw [hbad, decide_eq_false hjk, decide_eq_false hjn, Hul.at_of hklt, Hul.at_of hk2, Hul.at_of hjlt]; rfl
                · intro W5 x5 _
                  have hjn : j = (k + 1) % l.length := by have := hb5; simp only [Bool.not_true, Bool.not_eq_false', decide_eq_true_eq] at this; omega
                  refine hK6 _ _ ⟨xU4.trans x5, ?_⟩
                  rw [hbad, decide_eq_false hjk, decide_eq_true hjn]; rfl
              · intro W5 x5 _
                have hjk : j = k := by have := hb4; simp only [Bool.not_true, Bool.not_eq_false', decide_eq_true_eq] at this; omega
                refine hK6 _ _ ⟨xU4.trans x5, ?_⟩
                rw [hbad, decide_eq_true hjk]; rfl
        · have hjn : j = l.length := by have := dec_f hb3; omega
          subst hjn
          rw [hx2, bin_add, i64_wrap (by omega) (by omega)]
          refine hK2 _ _ _ ⟨k + 1, by omega, by simp, xU, fun h3 i hi j hj => ?_⟩ (by simp [intOf]; omega)
          rcases Nat.lt_succ_iff_lt_or_eq.1 hi with h | rfl
          · exact hsd h3 i h j hj
          · exact hin j hj
      · rw [hx2, bin_lss]
        refine Gd_i (fun hb3 => ?_) fun hb3 => ?_
        · rw [bin_gtr]
          refine Br_i (fun hb4 => ?_) fun hb4 => ?_
          · exact hK3 _ ⟨rfl, by have := dec_t hb3; omega, by have := dec_t hb4; omega⟩
          · exact hR _ _ ⟨by rw [yes fun h3 => by have := dec_f hb4; omega], xV⟩
        · exact hR _ _ ⟨by rw [yes fun h3 => by have := dec_f hb3; omega], xV⟩
  · refine join1 (fun q W => Ext w W ∧ q = .bool (!decide (1 ≤ l.length ∧ l.length ≤ 64) || !l.all Hul.place)) ?_ fun K3 hK3 => ?_
    · rintro _ _ W0 hq ⟨x0, rfl⟩
      rw [hq]
      refine Br_i (fun hb => ?_) fun hb => ?_
      · refine hR _ _ ⟨?_, x0⟩
        congr 1
        refine no fun hval => ?_
        have e1 := hval.1.1
        have e2 : l.all Hul.place = true := List.all_eq_true.2 hval.1.2.1
        rw [decide_eq_true e1, e2] at hb; cases hb
      · simp only [Bool.or_eq_false_iff, Bool.not_eq_false', decide_eq_true_eq] at hb
        exact hK _ ⟨x0, hb.1, hb.2⟩
    · rw [bin_lss]
      refine Gd_i (fun hb => ?_) fun hb => ?_
      · rw [bin_gtr]
        refine Gd_i (fun hb2 => ?_) fun hb2 => ?_
        · refine callF_ret (places_ret w hv) ?_
          rintro _ W1 ⟨rfl, x1⟩
          rw [un_not]
          refine hK3 _ _ ⟨x1, ?_⟩
          rw [decide_eq_true (p := 1 ≤ l.length ∧ l.length ≤ 64) (by have := dec_f hb; have := dec_f hb2; omega)]; rfl
        · refine hK3 _ _ ⟨Ext.refl _, ?_⟩
          rw [decide_eq_false (p := 1 ≤ l.length ∧ l.length ≤ 64) (by have := dec_t hb2; omega)]; rfl
      · refine hK3 _ _ ⟨Ext.refl _, ?_⟩
        rw [decide_eq_false (p := 1 ≤ l.length ∧ l.length ≤ 64) (by have := dec_t hb; omega)]; rfl
end Go.Proofs.YtoeblipchoglaaaGreatDoor
namespace Go.Proofs.YtoeblipchoglaaaGreatDoor
set_option maxRecDepth 100000
set_option maxHeartbeats 4000000
open Sh Go.RowKit
theorem Ty.polys : Tryz.prog.underlying 22 = some (.slice 53) := by kernel_rfl
theorem Ty.points_info : (Tryz.prog.info? 53).map (fun i => (i.zero, i.size, i.bytes)) = some (some (.slice none 0 0), 1, 24) := by kernel_rfl
theorem Ty.points_cells : Tryz.prog.cellsOf 53 = 1 := by kernel_rfl
def RL (w : World) (v : Value) (rs : List (List SPoint)) : Prop := ∃ vs, Sl w 1 v rs.length vs ∧ ∀ (j : Nat) (u : Value) (l : List SPoint), vs[j]? = some u → rs[j]? = some l → SPoint.Row w u l
theorem RL.ext {w w' : World} {v : Value} {rs : List (List SPoint)} (h : RL w v rs) (he : Ext w w') : RL w' v rs := by
  obtain ⟨vs, h1, h2⟩ := h
  exact ⟨vs, h1.ext he, fun j u l hu hl => Sl.ext (h2 j u l hu hl) he⟩
theorem RL.len {w : World} {v : Value} {rs : List (List SPoint)} (h : RL w v rs) {K : Value → World → Prop} {X : List PanicEntry → World → Prop} {cs : Array Bool} :
    CallB Tryz.prog .len #[22] 3 cs #[v] w K X = K (.int .i64 rs.length) w := by obtain ⟨vs, h1, _⟩ := h; exact h1.len Ty.polys
theorem RL.le {w : World} {v : Value} {rs : List (List SPoint)} (h : RL w v rs) : rs.length ≤ 9223372036854775807 := by obtain ⟨vs, h1, _⟩ := h; exact h1.le
theorem RL.hdr {w : World} {v : Value} {rs : List (List SPoint)} (h : RL w v rs) : ∃ d : Hdr, v = d.val := by obtain ⟨vs, h1, _⟩ := h; exact Hdr.of_sl h1
theorem RL.nil (w : World) : RL w (.slice none 0 0) [] := ⟨[], Sl.nil _ _, fun j u l hu _ => by simp at hu⟩
theorem RL.at_ {w : World} {v : Value} {rs : List (List SPoint)} (h : RL w v rs) {k : Nat} (hk : k < rs.length) : ∃ u, SPoint.Row w u rs[k] ∧
    ∀ (w1 : World), Ext w w1 → ∀ (K : Value → World → Prop) (X X' : List PanicEntry → World → Prop), DoV Tryz.prog (Instr.indexAt 22 v (.int .i64 k)) w1 (fun a w2 => DoV Tryz.prog (Instr.loadAt 53 a) w2 K X) X' = K u w1 := by
  obtain ⟨vs, h1, h2⟩ := h
  obtain ⟨i, hi, hz, hs, hby⟩ := Ty.info_parts Ty.points_info
  obtain ⟨b, o, h3, h4, h5⟩ := h1.index Ty.polys hi hs (k := .i64) hk (by decide)
  have hl : vs.length = rs.length := by obtain ⟨_, _, _, _, _, h6, _⟩ := h1; omega
  have hu : vs[k]? = some (vs[k]'(by omega)) := List.getElem?_eq_getElem (by omega)
  refine ⟨vs[k]'(by omega), h2 k _ _ hu (List.getElem?_eq_getElem hk), fun w1 x1 K X X' => ?_⟩
  rw [h5, load_cell (u := vs[k]'(by omega)) Ty.points_agg (cell_ext (by simpa using h3 k _ hu) h4 x1)]
theorem RL.of_trod {H : Type} {enc : TypeId × Value → H} {W : World} {fuel : Nat} {v : Value} {x : DataW H × List MemPlace} (h : DataW.trod enc Tryz.prog W 0 (fun _ => true) true fuel 22 [v] = some x) : ∃ rs : List (List SPoint), RL W v rs ∧ ∀ l ∈ rs, ∀ p ∈ l, p.Ok := by
  obtain ⟨n, xs, hs, hel⟩ := trod_sl Ty.polys Ty.points_cells (by decide) h
  have hxl : xs.length = n := by obtain ⟨_, _, _, _, _, h3, _⟩ := hs; omega
  obtain ⟨ll, hl, hR⟩ := pick_list (n := n) (R := fun i (l : List SPoint) => ∃ u, xs[i]? = some u ∧ SPoint.Row W u l ∧ ∀ p ∈ l, p.Ok) fun i hi => by
    obtain ⟨m, y, hy⟩ := hel i hi
    have hu : xs[i]? = some (xs[i]'(by omega)) := List.getElem?_eq_getElem (by omega)
    rw [drop_one hu] at hy
    obtain ⟨l, h1, h2⟩ := SPoint.row_of_trod hy
    exact ⟨l, _, hu, h1, h2⟩
  refine ⟨ll, ⟨xs, by rw [hl]; exact hs, fun j u l hu hl => ?_⟩, fun l hl => ?_⟩
  · obtain ⟨u', h1, h2, _⟩ := hR j l hl
    rw [hu] at h1; cases h1; exact h2
  · obtain ⟨i, hi⟩ := List.getElem?_of_mem hl
    obtain ⟨_, _, _, h3⟩ := hR i l hi
    exact h3
noncomputable def regValid (rs : List (List SPoint)) : Bool := decide (rs.length ≤ 32) && rs.all Hul.valid
theorem indexFunc_ret {v fv : Value} {rs : List (List SPoint)} {p : List SPoint → Bool} (w : World) (hv : RL w v rs)
    (hp : ∀ k (hk : k < rs.length) u W K X, SPoint.Row W u rs[k] → (∀ W', Ext W W' → K (.bool (p rs[k])) W') → CallV Tryz.prog fv #[u] W K X) :
    Ret Tryz.prog 108 #[v, fv] w fun r w' => (∃ n : Int, r = .int .i64 n ∧ decide (0 ≤ n) = rs.any p) ∧ Ext w w' := by
  refine ret_of (fun _ _ => sh_slices_IndexFunc_____api_Point___api_Point__ok _ _) fun R hR => ?_
  unfold sh_slices_IndexFunc_____api_Point___api_Point_
  have hle := hv.le
  rw [hv.len]
  refine loop1 (fun x W => ∃ k : Nat, k ≤ rs.length ∧ x = .int .i64 k ∧ Ext w W ∧ ∀ l ∈ rs.take k, p l = false) (fun x _ => rs.length - (intOf x).toNat) ⟨0, by omega, rfl, Ext.refl _, by simp⟩ ?_
  rintro h _ W hx ⟨k, hk, rfl, xW, hpl⟩ K hK
  rw [hx, bin_lss]
  refine Br_i (fun hb => ?_) fun hb => ?_
  · have hlt : k < rs.length := by have := dec_t hb; omega
    obtain ⟨u, hu, hix⟩ := (hv.ext xW).at_ hlt
    rw [hix W (Ext.refl _)]
    refine hp k hlt u W _ _ hu fun W2 x2 => ?_
    refine Br_i (fun hb2 => ?_) fun hb2 => ?_
    · refine hR _ _ ⟨⟨(k : Int), rfl, ?_⟩, xW.trans x2⟩
      rw [decide_eq_true (by omega), eq_comm, List.any_eq_true]
      exact ⟨_, List.getElem_mem hlt, hb2⟩
    · rw [bin_add, i64_wrap (by omega) (by omega)]
      refine hK _ _ ⟨k + 1, by omega, by simp, xW.trans x2, fun l hl => ?_⟩ (by simp [intOf]; omega)
      rw [List.take_succ_eq_append_getElem hlt, List.mem_append, List.mem_singleton] at hl
      rcases hl with hl | rfl
      · exact hpl l hl
      · exact hb2
  · have hge : rs.length ≤ k := by have := dec_f hb; omega
    rw [List.take_of_length_le hge] at hpl
    refine hR _ _ ⟨⟨-1, rfl, ?_⟩, xW⟩
    rw [decide_eq_false (by omega), eq_comm, List.any_eq_false]
    intro l hl
    rw [hpl l hl]; simp
theorem invalid1_ret {u : Value} {l : List SPoint} (hok : ∀ p ∈ l, p.Ok) (w : World) (hu : SPoint.Row w u l) : Ret Tryz.prog 87 #[u] w fun r w' => r = .bool (!Hul.valid l) ∧ Ext w w' := by
  refine ret_of (fun _ _ => sh_region_invalid_1_ok _) fun R hR => ?_
  unfold sh_region_invalid_1
  refine callF_ret (hullValid_ret hok w hu) ?_
  rintro _ W ⟨rfl, x⟩
  rw [un_not]
  exact hR _ _ ⟨rfl, x⟩
theorem invalid_ret {v : Value} {rs : List (List SPoint)} (hok : ∀ l ∈ rs, ∀ p ∈ l, p.Ok) (w : World) (hv : RL w v rs) : Ret Tryz.prog 62 #[v] w fun r w' => r = .bool (!rs.all Hul.valid) ∧ Ext w w' := by
  refine ret_of (fun _ _ => sh_region_invalid_ok _) fun R hR => ?_
  unfold sh_region_invalid
  have e : rs.any (fun l => !Hul.valid l) = !rs.all Hul.valid := by
    rw [Bool.eq_iff_iff]; simp
  have hc : Ret Tryz.prog 86 #[v, .func (.func 87) #[] #[]] w fun r w' => r = .bool (!rs.all Hul.valid) ∧ Ext w w' := by
    refine ret_of (fun _ _ => sh_slices_ContainsFunc_____api_Point___api_Point__ok _ _) fun R hR => ?_
    unfold sh_slices_ContainsFunc_____api_Point___api_Point_
    refine callF_ret (indexFunc_ret (p := fun l => !Hul.valid l) w hv fun k hk u W K X hu hK => ?_) ?_
    · rw [callV_func (by kernel_rfl)]
      refine callF_ret (invalid1_ret (hok _ (List.getElem_mem hk)) W hu) ?_
      rintro _ W' ⟨rfl, x⟩
      exact hK W' x
    · rintro _ W ⟨⟨n, rfl, hn⟩, x⟩
      rw [bin_geq, hn, e]
      exact hR _ _ ⟨rfl, x⟩
  refine callF_ret hc ?_
  rintro _ W ⟨rfl, x⟩
  exact hR _ _ ⟨rfl, x⟩
theorem regionValid_ret {v : Value} {rs : List (List SPoint)} (hok : ∀ l ∈ rs, ∀ p ∈ l, p.Ok) (w : World) (hv : RL w v rs) : Ret Tryz.prog 39 #[v] w fun r w' => r = .bool (regValid rs) ∧ Ext w w' := by
  refine ret_of (fun _ _ => sh_region_Valid_ok _) fun R hR => ?_
  unfold sh_region_Valid
  rw [hv.len, bin_leq]
  refine Gd_i (fun hb => ?_) fun hb => ?_
  · refine callF_ret (invalid_ret hok w hv) ?_
    rintro _ W ⟨rfl, x⟩
    rw [un_not]
    refine hR _ _ ⟨?_, x⟩
    rw [regValid, decide_eq_true (by have := dec_t hb; omega), Bool.not_not, Bool.true_and]
  · refine hR _ _ ⟨?_, Ext.refl _⟩
    rw [regValid, decide_eq_false (by have := dec_f hb; omega), Bool.false_and]
theorem polygons_ret {v : Value} {rs : List (List SPoint)} (w : World) (hv : RL w v rs) : Ret Tryz.prog 63 #[v] w fun r w' => r = .bool (rs.all Hul.valid) ∧ Ext w w' := by
  refine ret_of (fun _ _ => sh_landfallref07_polygons_ok _) fun R hR => ?_
  unfold sh_landfallref07_polygons
  have hle := hv.le
  refine loop1 (fun x W => ∃ k : Nat, k ≤ rs.length ∧ x = .int .i64 k ∧ Ext w W ∧ ∀ l ∈ rs.take k, Hul.valid l = true) (fun x _ => rs.length - (intOf x).toNat) ⟨0, by omega, rfl, Ext.refl _, by simp⟩ ?_
  rintro h _ W hx ⟨k, hk, rfl, xW, hpl⟩ K hK
  rw [hx, (hv.ext xW).len, bin_lss]
  refine Br_i (fun hb => ?_) fun hb => ?_
  · have hlt : k < rs.length := by have := dec_t hb; omega
    obtain ⟨u, hu, hix⟩ := (hv.ext xW).at_ hlt
    rw [hix W (Ext.refl _)]
    refine callF_ret (refHullValid_ret W hu) ?_
    rintro _ W2 ⟨rfl, x2⟩
    rw [un_not]
    refine Br_i (fun hb2 => ?_) fun hb2 => ?_
    · refine hR _ _ ⟨?_, xW.trans x2⟩
      congr 1
      rw [eq_comm, ← Bool.not_eq_true, List.all_eq_true]
      intro h
      rw [h _ (List.getElem_mem hlt)] at hb2; cases hb2
    · rw [bin_add, i64_wrap (by omega) (by omega)]
      refine hK _ _ ⟨k + 1, by omega, by simp, xW.trans x2, fun p hp => ?_⟩ (by simp [intOf]; omega)
      rw [List.take_succ_eq_append_getElem hlt, List.mem_append, List.mem_singleton] at hp
      rcases hp with hp | rfl
      · exact hpl p hp
      · simpa using hb2
  · have hge : rs.length ≤ k := by have := dec_f hb; omega
    rw [List.take_of_length_le hge] at hpl
    refine hR _ _ ⟨?_, xW⟩
    congr 1
    rw [eq_comm, List.all_eq_true]; exact hpl
theorem refRegionValid_ret {v : Value} {rs : List (List SPoint)} (w : World) (hv : RL w v rs) : Ret Tryz.prog 41 #[v] w fun r w' => r = .bool (regValid rs) ∧ Ext w w' := by
  refine ret_of (fun _ _ => sh_landfallref07_Valid_ok _) fun R hR => ?_
  unfold sh_landfallref07_Valid
  rw [hv.len, bin_leq]
  refine Gd_i (fun hb => ?_) fun hb => ?_
  · refine callF_ret (polygons_ret w hv) ?_
    rintro _ W ⟨rfl, x⟩
    refine hR _ _ ⟨?_, x⟩
    rw [regValid, decide_eq_true (by have := dec_t hb; omega), Bool.true_and]
  · refine hR _ _ ⟨?_, Ext.refl _⟩
    rw [regValid, decide_eq_false (by have := dec_f hb; omega), Bool.false_and]
theorem refRegionFew_ret {v : Value} {rs : List (List SPoint)} (w : World) (hv : RL w v rs) : Ret Tryz.prog 15 #[v] w fun r w' => (∃ b, r = .bool b ∧ (b = true → rs.length ≤ 40)) ∧ Ext w w' := by
  refine ret_of (fun _ _ => sh_landfallref07_Few_ok _) fun R hR => ?_
  unfold sh_landfallref07_Few
  have hle := hv.le
  refine loop2 (fun y x W => ∃ (k : Nat) (n : Int), k ≤ rs.length ∧ x = .int .i64 k ∧ y = .int .i64 n ∧ Ext w W) (fun _ x _ => rs.length - (intOf x).toNat) ⟨0, 0, by omega, rfl, rfl, Ext.refl _⟩ ?_
  rintro h _ _ W hy hx ⟨k, n, hk, rfl, rfl, xW⟩ K hK
  have out : ∀ W', Ext w W' → CallB Tryz.prog .len #[22] 3 #[false] #[v] W' (fun t w6 => DoV Tryz.prog (binS .leq 3 (.tmp 23) (.const (.int .i64 40)) t (.int .i64 40)) w6 (fun t2 w7 =>
      Gd t2 true (DoV Tryz.prog (binS .leq 3 (.tmp 26) (.const (.int .i64 300)) (.int .i64 n) (.int .i64 300)) w7 (fun t3 w8 => R (.returned t3) w8) (Pan R)) (R (.returned (.bool false)) w7)) (Pan R)) (Pan R) := fun W' x' => by
    rw [(hv.ext x').len, bin_leq]
    refine Gd_i (fun hb => ?_) fun hb => ?_
    · rw [bin_leq]
      exact hR _ _ ⟨⟨_, rfl, fun _ => by have := dec_t hb; omega⟩, x'⟩
    · exact hR _ _ ⟨⟨_, rfl, fun h => by cases h⟩, x'⟩
  refine join0 (fun W' => W' = W ∧ k < rs.length) ?_ fun K2 hK2 => ?_
  · rintro _ W' ⟨hW', hlt⟩
    subst W'
    obtain ⟨u, hu, hix⟩ := (hv.ext xW).at_ hlt
    rw [hx, hy, hix W (Ext.refl _), SPoint.row_len hu, bin_add, bin_add, i64_wrap (x := (k : Int) + 1) (by omega) (by omega)]
    exact hK _ _ _ ⟨k + 1, _, by omega, by simp, rfl, xW⟩ (by simp [intOf]; omega)
  · rw [hx, hy, (hv.ext xW).len, bin_lss]
    refine Gd_i (fun hb => ?_) fun hb => ?_
    · rw [bin_lss]
      refine Br_i (fun hb2 => ?_) fun hb2 => ?_
      · exact hK2 _ ⟨rfl, by have := dec_t hb; omega⟩
      · exact out W xW
    · exact out W xW
end Go.Proofs.YtoeblipchoglaaaGreatDoor
