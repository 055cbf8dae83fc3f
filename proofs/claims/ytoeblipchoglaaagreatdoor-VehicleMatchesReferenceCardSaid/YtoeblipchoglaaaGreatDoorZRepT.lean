/- The plain law of entries: when one is well-formed, in both ways of saying it. -/
import Derived.Test.YtoeblipchoglaaaGreatDoorZRegW
import Derived.Test.YtoeblipchoglaaaGreatDoorZStrA
import Derived.Test.YtoeblipchoglaaaGreatDoorZSigA
namespace Go.Proofs.YtoeblipchoglaaaGreatDoor
set_option maxRecDepth 100000
set_option maxHeartbeats 4000000
namespace Rep
def eints (e : SEntry) : List Int := [e.seq, e.time, e.kind, e.sensor, e.ref, e.a, e.n, e.value.lo, e.value.hi, e.temp, e.age, e.since]
def Formed (e : SEntry) : Prop := (1 ≤ e.seq ∧ e.seq ≤ 2000 ∧ 0 ≤ e.time ∧ e.time ≤ 1000000000) ∧ e.value.lo ≤ e.value.hi ∧
  ((e.kind = 1 ∧ e.sensor = 0 ∧ e.ref = 0 ∧ 0 ≤ e.a ∧ e.a ≤ 63 ∧ 0 ≤ e.n ∧ e.n ≤ 100000 ∧ e.n ≤ e.time ∧ 0 ≤ e.value.lo ∧ e.value.hi ≤ 100000 ∧ e.value.lo = e.value.hi ∧ -1000 ≤ e.temp ∧ e.temp ≤ 1000 ∧ 0 ≤ e.age ∧ e.age ≤ 10000 ∧ 0 ≤ e.since ∧ e.since ≤ 1000000000) ∨
   (1 ≤ e.sensor ∧ e.sensor ≤ 8 ∧ e.temp = 0 ∧ e.age = 0 ∧ e.since = 0 ∧
    ((e.kind = 2 ∧ e.ref = 0 ∧ e.a = 0 ∧ e.n = 0 ∧ -100000 ≤ e.value.lo ∧ e.value.hi ≤ 100000) ∨
     (1 ≤ e.ref ∧ e.ref ≤ 1000000 ∧ ((e.kind = 4 ∧ 0 ≤ e.a ∧ e.a ≤ 63 ∧ 0 ≤ e.n ∧ e.n ≤ 31 ∧ e.value.lo = 0 ∧ e.value.hi = 0) ∨
      (e.a = 0 ∧ e.n = 0 ∧ 0 ≤ e.value.lo ∧ e.value.hi ≤ 100000 ∧ (e.kind = 3 ∨ e.kind = 7 ∨ (e.kind = 5 ∧ e.value.lo = 0) ∨ (e.kind = 6 ∧ e.value.lo = e.value.hi))))))))
instance (e : SEntry) : Decidable (Formed e) := by unfold Formed; infer_instance
def formed (e : SEntry) : Bool := decide (Formed e)
def lims (k : Int) : Option (List (Int × Int)) :=
  if k = 1 then some [(0, 0), (0, 0), (0, 63), (0, 100000), (0, 100000), (0, 100000), (-1000, 1000), (0, 10000), (0, 1000000000), (0, 0)]
  else if k = 2 then some [(1, 8), (0, 0), (0, 0), (0, 0), (-100000, 100000), (-100000, 100000), (0, 0), (0, 0), (0, 0), (0, 0)]
  else if k = 3 ∨ k = 7 ∨ k = 6 then some [(1, 8), (1, 1000000), (0, 0), (0, 0), (0, 100000), (0, 100000), (0, 0), (0, 0), (0, 0), (0, 0)]
  else if k = 4 then some [(1, 8), (1, 1000000), (0, 63), (0, 31), (0, 0), (0, 0), (0, 0), (0, 0), (0, 0), (0, 0)]
  else if k = 5 then some [(1, 8), (1, 1000000), (0, 0), (0, 0), (0, 0), (0, 100000), (0, 0), (0, 0), (0, 0), (0, 0)]
  else none
def zeros : List (Int × Int) := List.replicate 10 (0, 0)
def within (L : List (Int × Int)) (e : SEntry) : Prop := ∀ i, i < 9 → (L[i]?.getD (0, 0)).1 ≤ ((eints e).drop 3)[i]?.getD 0 ∧ ((eints e).drop 3)[i]?.getD 0 ≤ (L[i]?.getD (0, 0)).2
theorem within_iff (a0 b0 a1 b1 a2 b2 a3 b3 a4 b4 a5 b5 a6 b6 a7 b7 a8 b8 a9 b9 : Int) (e : SEntry) : within [(a0, b0), (a1, b1), (a2, b2), (a3, b3), (a4, b4), (a5, b5), (a6, b6), (a7, b7), (a8, b8), (a9, b9)] e ↔
    (a0 ≤ e.sensor ∧ e.sensor ≤ b0) ∧ (a1 ≤ e.ref ∧ e.ref ≤ b1) ∧ (a2 ≤ e.a ∧ e.a ≤ b2) ∧ (a3 ≤ e.n ∧ e.n ≤ b3) ∧ (a4 ≤ e.value.lo ∧ e.value.lo ≤ b4) ∧ (a5 ≤ e.value.hi ∧ e.value.hi ≤ b5) ∧ (a6 ≤ e.temp ∧ e.temp ≤ b6) ∧ (a7 ≤ e.age ∧ e.age ≤ b7) ∧ (a8 ≤ e.since ∧ e.since ≤ b8) := by
  constructor
  · intro h
    exact ⟨h 0 (by omega), h 1 (by omega), h 2 (by omega), h 3 (by omega), h 4 (by omega), h 5 (by omega), h 6 (by omega), h 7 (by omega), h 8 (by omega)⟩
  · rintro ⟨h0, h1, h2, h3, h4, h5, h6, h7, h8⟩ i hi
    match i, hi with
    | 0, _ => exact h0
    | 1, _ => exact h1
    | 2, _ => exact h2
    | 3, _ => exact h3
    | 4, _ => exact h4
    | 5, _ => exact h5
    | 6, _ => exact h6
    | 7, _ => exact h7
    | 8, _ => exact h8
    | i + 9, h => omega
theorem formed_lims (e : SEntry) : Formed e ↔ (1 ≤ e.seq ∧ e.seq ≤ 2000 ∧ 0 ≤ e.time ∧ e.time ≤ 1000000000 ∧ e.value.lo ≤ e.value.hi) ∧ (∃ L, lims e.kind = some L ∧ within L e) ∧
    (e.kind = 1 → e.value.lo = e.value.hi ∧ e.n ≤ e.time) ∧ (e.kind = 6 → e.value.lo = e.value.hi) := by
  have ex : ∀ (o : List (Int × Int)) (p : List (Int × Int) → Prop), (∃ L, some o = some L ∧ p L) ↔ p o := fun o p => ⟨fun ⟨L, h, hp⟩ => by cases h; exact hp, fun h => ⟨o, rfl, h⟩⟩
  have en : ∀ (p : List (Int × Int) → Prop), (∃ L, none = some L ∧ p L) ↔ False := fun p => ⟨fun ⟨L, h, hp⟩ => (by cases h), fun h => h.elim⟩
  unfold lims Formed
  by_cases h1 : e.kind = 1
  · rw [if_pos h1, ex, within_iff]; omega
  · rw [if_neg h1]
    by_cases h2 : e.kind = 2
    · rw [if_pos h2, ex, within_iff]; omega
    · rw [if_neg h2]
      by_cases h3 : e.kind = 3 ∨ e.kind = 7 ∨ e.kind = 6
      · rw [if_pos h3, ex, within_iff]; omega
      · rw [if_neg h3]
        by_cases h4 : e.kind = 4
        · rw [if_pos h4, ex, within_iff]; omega
        · rw [if_neg h4]
          by_cases h5 : e.kind = 5
          · rw [if_pos h5, ex, within_iff]; omega
          · rw [if_neg h5, en]
            constructor
            · rintro ⟨_, _, h⟩; exfalso; omega
            · rintro ⟨_, h, _⟩; exact h.elim
end Rep
end Go.Proofs.YtoeblipchoglaaaGreatDoor
namespace Go.Proofs.YtoeblipchoglaaaGreatDoor
set_option maxRecDepth 100000
set_option maxHeartbeats 8000000
open Sh Go.RowKit
theorem join_in {L : List Nat} {A : (List Value → World → Prop) → Prop} {B : (Nat → Value) → World → Prop} (h : ∀ K : List Value → World → Prop, (∀ hs w', (∀ h, L.map h = hs → B h w') → K hs w') → A K) : JoinE L A B := h
theorem leaf0 {K : List Value → World → Prop} {B : (Nat → Value) → World → Prop} {w : World} (hK : ∀ hs w', (∀ h : Nat → Value, ([] : List Nat).map h = hs → B h w') → K hs w') (hB : ∀ h, B h w) : K [] w := hK _ _ fun h _ => hB h
theorem leaf1 {K : List Value → World → Prop} {t : Nat} {v : Value} {B : (Nat → Value) → World → Prop} {w : World} (hK : ∀ hs w', (∀ h : Nat → Value, [t].map h = hs → B h w') → K hs w') (hB : ∀ h, h t = v → B h w) : K [v] w :=
  hK _ _ fun h hh => hB h (by simpa using hh)
theorem in21_ret (n a b : Int) (w : World) : Ret Tryz.prog 60 #[.int .i64 n, .int .i64 a, .int .i64 b] w fun r w' => r = .bool (decide (a ≤ n ∧ n ≤ b)) ∧ w' = w := by
  refine ret_of (fun _ _ => sh_landfallref21_in_ok _ _ _) fun R hR => ?_
  unfold sh_landfallref21_in
  rw [bin_geq]
  refine Gd_i (fun hb => ?_) fun hb => ?_
  · rw [bin_leq]
    refine hR _ _ ⟨?_, rfl⟩
    congr 1; rw [decide_eq_decide]; have := dec_t hb; omega
  · refine hR _ _ ⟨?_, rfl⟩
    congr 1; rw [eq_comm, decide_eq_false_iff_not]; have := dec_f hb; omega
theorem in24_ret (n a b : Int) (w : World) : Ret Tryz.prog 51 #[.int .i64 n, .int .i64 a, .int .i64 b] w fun r w' => r = .bool (decide (a ≤ n ∧ n ≤ b)) ∧ w' = w := by
  refine ret_of (fun _ _ => sh_landfallref24_in_ok _ _ _) fun R hR => ?_
  unfold sh_landfallref24_in
  rw [bin_geq]
  refine Gd_i (fun hb => ?_) fun hb => ?_
  · rw [bin_leq]
    refine hR _ _ ⟨?_, rfl⟩
    congr 1; rw [decide_eq_decide]; have := dec_t hb; omega
  · refine hR _ _ ⟨?_, rfl⟩
    congr 1; rw [eq_comm, decide_eq_false_iff_not]; have := dec_f hb; omega
theorem span_ret (s : SSpan) (a b : Int) (w : World) : Ret Tryz.prog 61 #[.agg s.cells.toArray, .int .i64 a, .int .i64 b] w fun r w' => r = .bool (decide (a ≤ s.lo ∧ s.lo ≤ s.hi ∧ s.hi ≤ b)) ∧ Ext w w' := by
  refine ret_of (fun _ _ => sh_landfallref21_span_ok _ _ _) fun R hR => ?_
  unfold sh_landfallref21_span
  refine box_i fun g w1 x1 hat _ _ => ?_
  have h : Has w1 g 0 s.cells := has_of_at hat
  rw [SSpan.g_lo h, SSpan.g_hi h]
  refine callF_same (in21_ret _ _ _ _) ?_
  refine Gd_i (fun hb => ?_) fun hb => ?_
  · rw [SSpan.g_hi h, bin_leq]
    refine hR _ _ ⟨?_, x1⟩
    congr 1; rw [decide_eq_decide]; have := dec_t hb; omega
  · refine hR _ _ ⟨?_, x1⟩
    congr 1; rw [eq_comm, decide_eq_false_iff_not]; have := dec_f hb; omega
theorem span_zero {s : SSpan} : s = SSpan.zero ↔ s.lo = 0 ∧ s.hi = 0 := by cases s; simp [SSpan.zero]
theorem new_span0 : Tryz.prog.built 36 [] = some SSpan.zero.cells.toArray := by kernel_rfl
theorem Formed_ret (e : SEntry) (w : World) : Ret Tryz.prog 37 #[.agg e.cells.toArray] w fun r w' => r = .bool (Rep.formed e) ∧ Ext w w' := by
  refine ret_of (fun _ _ => sh_landfallref21_Formed_ok _) fun R hR => ?_
  unfold sh_landfallref21_Formed
  refine box_i fun b w1 x1 hat _ _ => ?_
  have hall : ∀ W, Ext w1 W → Has W b 0 e.cells := fun W x => has_of_at (hat.ext x)
  have hx : Ext w1 w1 := Ext.refl _
  have hk : ∀ W c, Ext w1 W → (c = true ↔ Rep.Formed e) → R (.returned (.bool c)) W := fun W c x h => hR _ _ ⟨by rw [Rep.formed]; congr 1; rw [Bool.eq_iff_iff, h, decide_eq_true_eq], x1.trans x⟩
  clear hR hat
  repeat' first
    | with_reducible rw [SEntry.g_seq (hall _ (by assumption))]
    | with_reducible rw [SEntry.g_time (hall _ (by assumption))]
    | with_reducible rw [SEntry.g_kind (hall _ (by assumption))]
    | with_reducible rw [SEntry.g_sensor (hall _ (by assumption))]
    | with_reducible rw [SEntry.g_ref (hall _ (by assumption))]
    | with_reducible rw [SEntry.g_a (hall _ (by assumption))]
    | with_reducible rw [SEntry.g_n (hall _ (by assumption))]
    | with_reducible rw [SEntry.g_temp (hall _ (by assumption))]
    | with_reducible rw [SEntry.g_age (hall _ (by assumption))]
    | with_reducible rw [SEntry.g_since (hall _ (by assumption))]
    | with_reducible rw [SEntry.g_value (hall _ (by assumption))]
    | with_reducible rw [SEntry.g_value_lo (hall _ (by assumption))]
    | with_reducible rw [SEntry.g_value_hi (hall _ (by assumption))]
    | with_reducible rw [bin_eql]
    | with_reducible rw [bin_neq]
    | with_reducible rw [bin_gtr]
    | with_reducible rw [bin_leq]
    | with_reducible rw [un_not]
    | with_reducible rw [build_i new_span0]
    | with_reducible rw [SSpan.eql]
    | with_reducible refine callF_same (in21_ret _ _ _ _) ?_
    | ((with_reducible refine callF_ret (span_ret _ _ _ _) ?_); rintro _ W ⟨rfl, hx'⟩; replace hx := hx.trans hx'; clear hx')
    | with_reducible refine Gd_i (fun hb => ?_) fun hb => ?_
    | with_reducible refine Br_i (fun hb => ?_) fun hb => ?_
    | with_reducible refine hk _ _ (by assumption) ?_
    | ((with_reducible refine join_in (L := []) fun K hK0 => ?_))
    | ((with_reducible refine join_in (L := [_]) fun K hK1 => ?_))
    | ((with_reducible refine leaf1 hK1 fun h hh => ?_); rw [hh]; clear hh hK1)
    | ((with_reducible refine leaf0 hK0 fun h => ?_); clear hK0)
  all_goals (unfold Rep.Formed; simp only [span_zero, Bool.not_eq_true', Bool.not_eq_false', decide_eq_true_eq, decide_eq_false_iff_not, Bool.not_true, Bool.not_false, Bool.false_eq_true, Bool.true_eq_false, reduceCtorEq, false_iff, true_iff] at * <;> omega)
end Go.Proofs.YtoeblipchoglaaaGreatDoor
namespace Go.Proofs.YtoeblipchoglaaaGreatDoor
set_option maxRecDepth 100000
set_option maxHeartbeats 8000000
open Sh Go.RowKit
def pr (a b : Int) : Value := .agg #[.int .i64 a, .int .i64 b]
def prs (L : List (Int × Int)) : List Value := L.flatMap fun p => [.int .i64 p.1, .int .i64 p.2]
theorem Ty.lim_zero (w : World) : (zeroValue 145).run Tryz.prog w = .ok (.agg (prs Rep.zeros).toArray) w := by kernel_rfl
theorem Ty.lim_agg (w : World) : (isAgg 145).run Tryz.prog w = .ok true w := by kernel_rfl
theorem Ty.lim_size (w : World) : (sizeOf 145).run Tryz.prog w = .ok 20 w := by kernel_rfl
theorem Ty.pair_zero (w : World) : (zeroValue 143).run Tryz.prog w = .ok (pr 0 0) w := by kernel_rfl
theorem Ty.pair_agg (w : World) : (isAgg 143).run Tryz.prog w = .ok true w := by kernel_rfl
theorem Ty.pair_size (w : World) : (sizeOf 143).run Tryz.prog w = .ok 2 w := by kernel_rfl
theorem new_pair (a b : Int) : Tryz.prog.built 143 [(0, .int .i64 a), (1, .int .i64 b)] = some #[.int .i64 a, .int .i64 b] := by kernel_rfl
theorem pair_i {a b : Int} {w : World} {K : Value → World → Prop} {X : List PanicEntry → World → Prop} : DoV Tryz.prog (Instr.build 143 #[(0, .int .i64 a), (1, .int .i64 b)]) w K X = K (pr a b) w := build_i (new_pair a b)
theorem pair_set {a b : Int} {g : Nat} {e : TypeId} {c d : Value} {w : World} {K : Value → World → Prop} {X : List PanicEntry → World → Prop} (h : At w g (.cells #[c, d] e (0, 0)))
    (hk : ∀ w1, Mod (· = g) w w1 → At w1 g (.cells #[.int .i64 a, .int .i64 b] e (0, 0)) → w1.heap.size = w.heap.size → K undef w1) : DoU Tryz.prog (Instr.storeAt 143 (.pointer (some ⟨g, 0, none⟩)) (pr a b)) w K X :=
  store_all (n := 2) Ty.pair_size h rfl rfl (by intro u hu; simp [pr, Value.cells] at hu; rcases hu with rfl | rfl <;> rfl) hk
theorem pair_get {a b : Int} {g : Nat} {e : TypeId} {f : Nat × Nat} {w : World} {K : Value → World → Prop} {X : List PanicEntry → World → Prop} (h : At w g (.cells #[.int .i64 a, .int .i64 b] e f)) : DoV Tryz.prog (Instr.loadAt 143 (.pointer (some ⟨g, 0, none⟩))) w K X = K (pr a b) w :=
  load_arr (n := 2) (xs := [.int .i64 a, .int .i64 b]) Ty.pair_agg Ty.pair_size rfl (fun j u hu => by rw [Nat.zero_add]; rw [h.cell]; simpa using hu)
theorem none_ret (w : World) : Ret Tryz.prog 131 #[] w fun r w' => r = pr 0 0 ∧ Ext w w' := by
  refine ret_of (fun _ _ => sh_report_none_ok) fun R hR => ?_
  unfold sh_report_none
  refine alloc_i Ty.pair_zero fun g w1 x1 hat hg _ => ?_
  rw [pair_i]
  refine pair_set hat fun w2 m2 h2 _ => ?_
  refine res_i (rv_cell (loadVar_agg Ty.pair_agg Ty.pair_size (xs := [.int .i64 0, .int .i64 0]) rfl (fun j u hu => by rw [Nat.zero_add]; rw [h2.cell]; simpa using hu)) (rv_nil _)) ?_
  exact hR _ _ ⟨rfl, ((Mod.of_ext x1 : Mod (w.heap.size ≤ ·) w w1).trans (m2.mono fun k _ h => by omega)).new⟩
theorem lim_set {L : List (Int × Int)} (hl : L.length = 10) {g : Nat} {e : TypeId} {w : World} {K : Value → World → Prop} {X : List PanicEntry → World → Prop} {M : List (Int × Int)} (hm : M.length = 10) (h : At w g (.cells (prs M).toArray e (0, 0)))
    (hk : ∀ w1, Mod (· = g) w w1 → At w1 g (.cells (prs L).toArray e (0, 0)) → w1.heap.size = w.heap.size → K undef w1) : DoU Tryz.prog (Instr.storeAt 145 (.pointer (some ⟨g, 0, none⟩)) (.agg (prs L).toArray)) w K X := by
  have len : ∀ N : List (Int × Int), N.length = 10 → (prs N).length = 20 := fun N hn => by
    match N, hn with
    | [_, _, _, _, _, _, _, _, _, _], _ => rfl
  refine store_all (n := 20) Ty.lim_size h (by simpa using len M hm) (by simpa [Value.cells] using len L hl) (by
    intro u hu
    simp only [Value.cells, prs] at hu
    simp only [List.mem_flatMap, List.mem_cons, List.not_mem_nil, or_false] at hu
    obtain ⟨p, _, rfl | rfl⟩ := hu <;> rfl) hk
def limQ (k : Int) (w : World) (r : Value) (w' : World) : Prop := r = .tuple #[.agg (prs ((Rep.lims k).getD Rep.zeros)).toArray, .bool (Rep.lims k).isSome] ∧ Ext w w'
theorem of_ret (k : Int) (w : World) : Ret Tryz.prog 117 #[.int .i64 k] w (limQ k w) := by
  refine ret_of (fun _ _ => sh_report_of_ok _) fun R hR => ?_
  unfold sh_report_of
  refine alloc_i Ty.lim_zero fun gl w1 x1 hatl hgl _ => ?_
  have hatl : At w1 gl (.cells (prs Rep.zeros).toArray 145 (0, 0)) := hatl
  rw [pair_i, pair_i, pair_i]
  refine alloc_i Ty.pair_zero fun g4 w2 x2 hat4 h4 _ => ?_
  refine alloc_i Ty.pair_zero fun g5 w3 x3 hat5 h5 _ => ?_
  refine alloc_i Ty.pair_zero fun g6 w4 x4 hat6 h6 _ => ?_
  have z1 := x1.size
  have z2 := x2.size
  have z3 := x3.size
  have z4 := x4.size
  have l4 := hat4.lt
  have l5 := hat5.lt
  have l6 := hat6.lt
  refine pair_set ((hat4.ext x3).ext x4) fun w5 m5 b4 s5 => ?_
  refine pair_set ((hat5.ext x4).mod m5 (by omega)) fun w6 m6 b5 s6 => ?_
  refine pair_set ((hat6.mod m5 (by omega)).mod m6 (by omega)) fun w7 m7 b6 s7 => ?_
  have b4 := (b4.mod m6 (by omega)).mod m7 (by omega)
  have b5 := b5.mod m7 (by omega)
  rw [pair_i]
  refine alloc_i Ty.pair_zero fun g7 w8 x8 hat7 h7 _ => ?_
  have z8 := x8.size
  have l7 := hat7.lt
  refine pair_set hat7 fun w9 m9 b7 s9 => ?_
  have M9 : Mod (w1.heap.size ≤ ·) w1 w9 := ((((((Mod.of_ext ((x2.trans x3).trans x4) : Mod (w1.heap.size ≤ ·) w1 w4).trans (m5.mono fun j _ h => by omega)).trans (m6.mono fun j _ h => by omega)).trans (m7.mono fun j _ h => by omega)).trans (.of_ext x8)).trans (m9.mono fun j _ h => by omega))
  have b4 := (b4.ext x8).mod m9 (by omega)
  have b5 := (b5.ext x8).mod m9 (by omega)
  have b6 := (b6.ext x8).mod m9 (by omega)
  have x9 := M9.new
  have bl := hatl.ext x9
  clear hat4 hat5 hat6 hat7 m5 m6 m7 m9 M9 hatl
  have fin : ∀ (c : Bool) (L : List (Int × Int)) (W : World), L.length = 10 → Ext w9 W → L = (Rep.lims k).getD Rep.zeros → c = (Rep.lims k).isSome → DoU Tryz.prog (Instr.storeAt 145 (.pointer (some ⟨gl, 0, none⟩)) (.agg (prs L).toArray)) W (fun _ w12 => Res Tryz.prog [.cell (.pointer (some ⟨gl, 0, none⟩)) 145, .tmp (.bool c)] w12 R) (Pan R) := fun c L W hl xW hL hc => by
    refine lim_set hl (M := Rep.zeros) rfl (bl.ext xW) fun W1 m1 h1 _ => ?_
    have hlen : (prs L).length = 20 := by
      match L, hl with
      | [_, _, _, _, _, _, _, _, _, _], _ => rfl
    refine res_i (rv_cell (loadVar_agg Ty.lim_agg Ty.lim_size (xs := prs L) hlen (fun j u hu => by rw [Nat.zero_add]; rw [h1.cell]; simpa using hu)) (rv_tmp (rv_nil _))) ?_
    refine hR _ _ ⟨by rw [hL, hc]; rfl, ?_⟩
    exact ((Mod.of_ext ((x1.trans x9).trans xW) : Mod (w.heap.size ≤ ·) w W).trans (m1.mono fun j _ h => by omega)).new
  refine join_in fun K hK0 => ?_
  rw [bin_eql]
  refine Br_i (fun hb => ?_) fun hb1 => ?_
  · have hk := dec_t hb
    subst hk
    refine draw_ext fun W xW => ?_
    refine det_ret _ (fun V x => none_ret V) ?_
    refine det_ret _ (fun V x => none_ret V) ?_
    refine det_read _ (fun V x K => pair_get (b6.ext (xW.trans x))) ?_
    refine det_read _ (fun V x K => pair_i) ?_
    refine det_read _ (fun V x K => pair_get (b7.ext (xW.trans x))) ?_
    refine det_read _ (fun V x K => pair_get (b7.ext (xW.trans x))) ?_
    refine det_read _ (fun V x K => pair_i) ?_
    refine det_read _ (fun V x K => pair_i) ?_
    refine det_read _ (fun V x K => pair_i) ?_
    refine det_ret _ (fun V x => none_ret V) ?_
    intro V x _
    rw [build_i (cells := (prs ((Rep.lims 1).getD Rep.zeros)).toArray) (by kernel_rfl)]
    exact fin true _ V rfl (xW.trans x) rfl rfl
  · rw [bin_eql]
    refine Br_i (fun hb => ?_) fun hb2 => ?_
    · have hk := dec_t hb
      subst hk
      rw [pair_i]
      refine alloc_i Ty.pair_zero fun g8 w10 x10 hat8 h8 _ => ?_
      refine pair_set hat8 fun w11 m11 b8 s11 => ?_
      have x11 : Ext w9 w11 := ((Mod.of_ext x10 : Mod (w9.heap.size ≤ ·) w9 w10).trans (m11.mono fun j _ h => by omega)).new
      refine draw_ext fun W xW => ?_
      refine det_read _ (fun V x K => pair_get (b4.ext ((x11.trans xW).trans x))) ?_
      refine det_ret _ (fun V x => none_ret V) ?_
      refine det_ret _ (fun V x => none_ret V) ?_
      refine det_ret _ (fun V x => none_ret V) ?_
      refine det_read _ (fun V x K => pair_get (b8.ext (xW.trans x))) ?_
      refine det_read _ (fun V x K => pair_get (b8.ext (xW.trans x))) ?_
      intro V x _
      rw [build_i (cells := (prs ((Rep.lims 2).getD Rep.zeros)).toArray) (by kernel_rfl)]
      exact fin true _ V rfl ((x11.trans xW).trans x) rfl rfl
    · have h1 := dec_f hb1
      have h2 := dec_f hb2
      have e3 : (k = 3 ∨ k = 7 ∨ k = 6) → Rep.lims k = some [(1, 8), (1, 1000000), (0, 0), (0, 0), (0, 100000), (0, 100000), (0, 0), (0, 0), (0, 0), (0, 0)] := fun h => by
        unfold Rep.lims; rw [if_neg h1, if_neg h2, if_pos h]
      refine join1 (fun q W => W = w9 ∧ q = .bool (decide (k = 3 ∨ k = 7 ∨ k = 6))) ?_ fun K2 hK2 => ?_
      · rintro _ _ W0 hq ⟨hW, rfl⟩
        subst W0
        rw [hq]
        refine Br_i (fun hb => ?_) fun hb3 => ?_
        · have h3 := dec_t hb
          refine draw_ext fun W xW => ?_
          refine det_read _ (fun V x K => pair_get (b4.ext (xW.trans x))) ?_
          refine det_read _ (fun V x K => pair_get (b5.ext (xW.trans x))) ?_
          refine det_ret _ (fun V x => none_ret V) ?_
          refine det_ret _ (fun V x => none_ret V) ?_
          refine det_read _ (fun V x K => pair_get (b7.ext (xW.trans x))) ?_
          refine det_read _ (fun V x K => pair_get (b7.ext (xW.trans x))) ?_
          intro V x _
          rw [build_i (cells := (prs ((Rep.lims 3).getD Rep.zeros)).toArray) (by kernel_rfl)]
          exact fin true _ V rfl (xW.trans x) (by rw [e3 h3]; rfl) (by rw [e3 h3]; rfl)
        · have h3 := dec_f hb3
          rw [bin_eql]
          refine Br_i (fun hb => ?_) fun hb4 => ?_
          · have hk := dec_t hb
            subst hk
            rw [pair_get b4, pair_get b5, pair_get b6, pair_i, build_i (cells := (prs ((Rep.lims 4).getD Rep.zeros)).toArray) (by kernel_rfl)]
            exact fin true _ w9 rfl (Ext.refl _) rfl rfl
          · have h4 := dec_f hb4
            rw [bin_eql]
            refine Br_i (fun hb => ?_) fun hb5 => ?_
            · have hk := dec_t hb
              subst hk
              refine draw_ext fun W xW => ?_
              refine det_read _ (fun V x K => pair_get (b4.ext (xW.trans x))) ?_
              refine det_read _ (fun V x K => pair_get (b5.ext (xW.trans x))) ?_
              refine det_ret _ (fun V x => none_ret V) ?_
              refine det_ret _ (fun V x => none_ret V) ?_
              refine det_ret _ (fun V x => none_ret V) ?_
              refine det_read _ (fun V x K => pair_get (b7.ext (xW.trans x))) ?_
              intro V x _
              rw [build_i (cells := (prs ((Rep.lims 5).getD Rep.zeros)).toArray) (by kernel_rfl)]
              exact fin true _ V rfl (xW.trans x) rfl rfl
            · have h5 := dec_f hb5
              have e0 : Rep.lims k = none := by unfold Rep.lims; rw [if_neg h1, if_neg h2, if_neg h3, if_neg h4, if_neg h5]
              refine leaf0 hK0 fun _ => ?_
              rw [build_i (cells := (prs Rep.zeros).toArray) (by kernel_rfl)]
              exact fin false _ w9 rfl (Ext.refl _) (by rw [e0]; rfl) (by rw [e0]; rfl)
      · rw [bin_eql]
        refine Br_i (fun hb => ?_) fun hb3 => ?_
        · exact hK2 _ _ ⟨rfl, by rw [hb, decide_eq_true (.inl (dec_t hb))]⟩
        · rw [bin_eql]
          refine Br_i (fun hb => ?_) fun hb7 => ?_
          · exact hK2 _ _ ⟨rfl, by rw [hb, decide_eq_true (.inr (.inl (dec_t hb)))]⟩
          · rw [bin_eql]
            refine hK2 _ _ ⟨rfl, ?_⟩
            congr 1
            rw [decide_eq_decide]
            have := dec_f hb3; have := dec_f hb7
            omega
end Go.Proofs.YtoeblipchoglaaaGreatDoor
namespace Go.Proofs.YtoeblipchoglaaaGreatDoor
set_option maxRecDepth 100000
set_option maxHeartbeats 8000000
open Sh Go.RowKit
theorem ints_ret (e : SEntry) (w : World) : Ret Tryz.prog 100 #[.agg e.cells.toArray] w fun r w' => w'.ownsRow w.heap.size 3 1 r 12 (iv (Rep.eints e)) ∧ Ext w w' := by
  refine ret_of (fun _ _ => sh_report_ints_ok _) fun R hR => ?_
  unfold sh_report_ints
  refine box_i fun g w1 x1 hat _ _ => ?_
  have h : Has w1 g 0 e.cells := has_of_at hat
  rw [SEntry.g_seq h, SEntry.g_time h, SEntry.g_kind h, SEntry.g_sensor h, SEntry.g_ref h, SEntry.g_a h, SEntry.g_n h, SEntry.g_value_lo h, SEntry.g_value_hi h, SEntry.g_temp h, SEntry.g_age h, SEntry.g_since h]
  refine lit_ints (Rep.eints e) rfl (by decide) (by decide) rfl fun v w2 x2 h2 _ => ?_
  exact hR _ _ ⟨Own.mono h2 x1.size, x1.trans x2⟩
theorem Ints_ret (e : SEntry) (w : World) : Ret Tryz.prog 67 #[.agg e.cells.toArray] w fun r w' => w'.ownsRow w.heap.size 3 1 r 12 (iv (Rep.eints e)) ∧ Ext w w' := by
  refine ret_of (fun _ _ => sh_landfallref24_Ints_ok _) fun R hR => ?_
  unfold sh_landfallref24_Ints
  refine box_i fun g w1 x1 hat _ _ => ?_
  have h : Has w1 g 0 e.cells := has_of_at hat
  rw [SEntry.g_seq h, SEntry.g_time h, SEntry.g_kind h, SEntry.g_sensor h, SEntry.g_ref h, SEntry.g_a h, SEntry.g_n h, SEntry.g_value_lo h, SEntry.g_value_hi h, SEntry.g_temp h, SEntry.g_age h, SEntry.g_since h]
  refine lit_ints (Rep.eints e) rfl (by decide) (by decide) rfl fun v w2 x2 h2 _ => ?_
  exact hR _ _ ⟨Own.mono h2 x1.size, x1.trans x2⟩
theorem Form_ret (e : SEntry) (w : World) : Ret Tryz.prog 14 #[.agg e.cells.toArray] w fun r w' => r = .bool (Rep.formed e) ∧ Ext w w' := by
  refine ret_of (fun _ _ => sh_landfallref24_Form_ok _) fun R hR => ?_
  unfold sh_landfallref24_Form
  refine box_i fun g w1 x1 hat _ _ => ?_
  rw [SEntry.g_all (has_of_at hat)]
  refine callF_ret (Formed_ret e w1) ?_
  rintro _ w2 ⟨rfl, x2⟩
  exact hR _ _ ⟨rfl, x1.trans x2⟩
theorem index_arr2 {P : Program} {w : World} {K : Value → World → Prop} {X : List PanicEntry → World → Prop} {t e : TypeId} {n : Nat} {i : TypeInfo} {b o sz : Nat} {k : IntKind} {j : Nat} (ht : P.underlying t = some (.array n e)) (hi : P.info? e = some i) (hsz : i.size = sz) (hj : j < n) :
    DoV P (Instr.indexAt t (.pointer (some ⟨b, o, none⟩)) (.int k j)) w K X = K (.pointer (some ⟨b, o + j * sz, none⟩)) w := by
  refine DoV_ok ?_
  have hadd : (⟨b, o, none⟩ : Addr).add (j * sz) = ⟨b, o + j * sz, none⟩ := by unfold Addr.add; split <;> simp_all
  simp [Instr.indexAt, asIntOf, Instr.sureAddr, run_underlying ht, sizeOf, typeInfo, hi, hsz, hj, hadd]
theorem Ty.lim_und : Tryz.prog.underlying 145 = some (.array 10 143) := by kernel_rfl
theorem Ty.pair_und : Tryz.prog.underlying 143 = some (.array 2 3) := by kernel_rfl
theorem Ty.pair_info : (Tryz.prog.info? 143).map (fun i => (i.zero, i.size, i.bytes)) = some (some (pr 0 0), 2, 16) := by kernel_rfl
theorem lim_get {L : List (Int × Int)} {g j : Nat} {e : TypeId} {f : Nat × Nat} {w : World} {K : Value → World → Prop} {X X' X'' : List PanicEntry → World → Prop} (h : At w g (.cells (prs L).toArray e f)) (hL : L.length = 10) (hj : j < 9) (q : Nat) (hq : q < 2) {z : Int} (hz : z = q) :
    DoV Tryz.prog (Instr.indexAt 145 (.pointer (some ⟨g, 0, none⟩)) (.int .i64 j)) w (fun a w1 => DoV Tryz.prog (Instr.indexAt 143 a (.int .i64 z)) w1 (fun a w2 => DoV Tryz.prog (Instr.loadAt 3 a) w2 K X) X') X'' = K (.int .i64 (if q = 0 then (L[j]?.getD (0, 0)).1 else (L[j]?.getD (0, 0)).2)) w := by
  subst hz
  obtain ⟨i, hi, _, hs, _⟩ := Ty.info_parts Ty.pair_info
  obtain ⟨i2, hi2, _, hs2, _⟩ := Ty.info_parts Ty.int_info
  rw [index_arr2 Ty.lim_und hi hs (by omega), index_arr2 Ty.pair_und hi2 hs2 hq]
  refine load_e Ty.int_agg h ?_
  have key : ∀ (M : List (Int × Int)) (j : Nat), j < M.length → (prs M)[j * 2 + q]? = some (.int .i64 (if q = 0 then (M[j]?.getD (0, 0)).1 else (M[j]?.getD (0, 0)).2)) := by
    intro M
    induction M with
    | nil => intro j hj; simp at hj
    | cons p M ih =>
      intro j hj
      cases j with
      | zero =>
        match q, hq with
        | 0, _ => rfl
        | 1, _ => rfl
      | succ j =>
        have := ih j (by simpa using hj)
        simp only [prs, List.flatMap_cons, List.getElem?_cons_succ] at this ⊢
        rw [← this, List.getElem?_append_right (by simp; omega)]
        congr 1
        simp; omega
  have := key L j (by omega)
  simpa [Nat.mul_one] using this
theorem isEntry_ret (e : SEntry) (w : World) : Ret Tryz.prog 92 #[.agg e.cells.toArray] w fun r w' => r = .bool (Rep.formed e) ∧ Ext w w' := by
  refine ret_of (fun _ _ => sh_report_isEntry_ok _) fun R hR => ?_
  unfold sh_report_isEntry
  refine box_i fun b w1 x1 hat hb _ => ?_
  have hall : ∀ W, Ext w1 W → Has W b 0 e.cells := fun W x => has_of_at (hat.ext x)
  have h1 := hall w1 (Ext.refl _)
  have hfin : ∀ W c, Ext w1 W → (c = true ↔ Rep.Formed e) → R (.returned (.bool c)) W := fun W c x h => hR _ _ ⟨by rw [Rep.formed]; congr 1; rw [Bool.eq_iff_iff, h, decide_eq_true_eq], x1.trans x⟩
  rw [SEntry.g_kind h1]
  refine callF_ret (of_ret e.kind w1) ?_
  rintro _ w2 ⟨rfl, x2⟩
  rw [ext2_0, ext2_1]
  refine alloc_i Ty.lim_zero fun gl w3 x3 hatl hgl _ => ?_
  have hatl : At w3 gl (.cells (prs Rep.zeros).toArray 145 (0, 0)) := hatl
  obtain ⟨L, hL⟩ : ∃ L, L = (Rep.lims e.kind).getD Rep.zeros := ⟨_, rfl⟩
  have hL10 : L.length = 10 := by
    rw [hL]; unfold Rep.lims
    repeat' split
    all_goals rfl
  rw [← hL]
  refine lim_set hL10 (M := Rep.zeros) rfl hatl fun w4 m4 hl4 _ => ?_
  have z2 := x2.size
  have x4 : Ext w1 w4 := ((Mod.of_ext (x2.trans x3) : Mod (w1.heap.size ≤ ·) w1 w3).trans (m4.mono fun j _ h => by omega)).new
  have h4 := hall w4 x4
  refine join0 (fun W => W = w4 ∧ (1 ≤ e.seq ∧ e.seq ≤ 2000 ∧ 0 ≤ e.time ∧ e.time ≤ 1000000000 ∧ e.value.lo ≤ e.value.hi) ∧ (Rep.lims e.kind).isSome = true) ?_ fun K hK => ?_
  · rintro _ W0 ⟨hW, hhead, hsome⟩
    subst W0
    have hLs : Rep.lims e.kind = some L := by
      cases ho : Rep.lims e.kind with
      | none => rw [ho] at hsome; cases hsome
      | some M => rw [hL, ho]; rfl
    have hfl := Rep.formed_lims e
    rw [SEntry.g_all h4]
    refine callF_ret (ints_ret e w4) ?_
    rintro v w5 ⟨hv, x5⟩
    obtain ⟨i2, hi2, _, hs2, _⟩ := Ty.info_parts Ty.int_info
    refine slice_from Ty.ints hi2 hs2 (by decide) (Sl.of_owns hv) (l := 3) (by decide) fun v' hv' _ => ?_
    have hv' : Sl w5 1 v' ((Rep.eints e).drop 3).length (iv ((Rep.eints e).drop 3)) := hv'
    have x45 := x4.trans x5
    rw [hv'.len Ty.ints]
    refine loop1 (fun x W => ∃ k : Nat, k ≤ 9 ∧ x = .int .i64 k ∧ Ext w5 W ∧ ∀ i, i < k → (L[i]?.getD (0, 0)).1 ≤ ((Rep.eints e).drop 3)[i]?.getD 0 ∧ ((Rep.eints e).drop 3)[i]?.getD 0 ≤ (L[i]?.getD (0, 0)).2) (fun x _ => 9 - (intOf x).toNat)
      ⟨0, by omega, rfl, Ext.refl _, fun i hi => by omega⟩ ?_
    rintro h _ W hx ⟨k, hk9, rfl, xW, hin⟩ K2 hK2
    have x1W := x45.trans xW
    have hW := hall W x1W
    have e9 : ((Rep.eints e).drop 3).length = 9 := rfl
    rw [hx, e9, bin_lss]
    refine Br_i (fun hb => ?_) fun hb => ?_
    · have hlt : k < 9 := by have := dec_t hb; omega
      have hu : ((Rep.eints e).drop 3)[k]? = some (((Rep.eints e).drop 3)[k]?.getD 0) := by
        rw [List.getElem?_eq_getElem (by rw [e9]; exact hlt)]; rfl
      generalize ((Rep.eints e).drop 3)[k]?.getD 0 = u at *
      have hlW : At W gl (.cells (prs L).toArray 145 (0, 0)) := (hl4.ext x5).ext xW
      refine join0 (fun W' => W' = W ∧ (L[k]?.getD (0, 0)).1 ≤ u ∧ u ≤ (L[k]?.getD (0, 0)).2) ?_ fun K3 hK3 => ?_
      · rintro _ W' ⟨hW', hle⟩
        subst W'
        rw [bin_add, i64_wrap (by omega) (by omega)]
        refine hK2 _ _ ⟨k + 1, by omega, by simp, xW, fun i hi => ?_⟩ (by simp [intOf]; omega)
        rcases Nat.lt_succ_iff_lt_or_eq.1 hi with h | rfl
        · exact hin i h
        · rw [hu]; exact hle
      · have bad : ¬ ((L[k]?.getD (0, 0)).1 ≤ u ∧ u ≤ (L[k]?.getD (0, 0)).2) → R (.returned (.bool false)) W := fun hn => hfin W false x1W (by
          rw [hfl]
          constructor
          · intro h; cases h
          · rintro ⟨_, ⟨M, hM, hw⟩, _⟩
            rw [hLs] at hM; cases hM
            have := hw k hlt
            rw [hu] at this
            exact absurd this hn)
        rw [int_elem hv' xW k rfl hu]
        refine join_in fun K4 hK1 => ?_
        rw [lim_get hlW hL10 hlt 0 (by decide) (z := 0) rfl, bin_lss]
        refine Gd_i (fun hb => ?_) fun hb => ?_
        · rw [lim_get hlW hL10 hlt 1 (by decide) (z := 1) rfl, bin_gtr]
          refine leaf1 hK1 fun h hh => ?_
          rw [hh]
          have e1 := dec_f hb
          simp only [if_true] at e1
          refine Br_i (fun hb2 => ?_) fun hb2 => ?_
          · have e2 := dec_t hb2
            rw [if_neg (by decide)] at e2
            exact bad (by omega)
          · have e2 := dec_f hb2
            rw [if_neg (by decide)] at e2
            exact hK3 _ ⟨rfl, by omega, by omega⟩
        · refine leaf1 hK1 fun h hh => ?_
          rw [hh]
          have e1 := dec_t hb
          simp only [if_true] at e1
          exact br_t (bad (by omega))
    · have hk : k = 9 := by have := dec_f hb; omega
      subst hk
      have hw : Rep.within L e := hin
      have hfl' : Rep.Formed e ↔ (e.kind = 1 → e.value.lo = e.value.hi ∧ e.n ≤ e.time) ∧ (e.kind = 6 → e.value.lo = e.value.hi) := by
        rw [hfl]
        exact ⟨fun h => h.2.2, fun h => ⟨hhead, ⟨L, hLs, hw⟩, h⟩⟩
      rw [SEntry.g_kind hW, bin_eql]
      refine Br_i (fun hb => ?_) fun hb => ?_
      · have hb := dec_t hb
        rw [SEntry.g_value_lo hW, SEntry.g_value_hi hW, bin_eql]
        refine Gd_i (fun hb2 => ?_) fun hb2 => ?_
        · rw [SEntry.g_n hW, SEntry.g_time hW, bin_leq]
          refine hfin W _ x1W ?_
          rw [hfl', decide_eq_true_eq]
          have := dec_t hb2
          omega
        · refine hfin W _ x1W ?_
          rw [hfl']
          have := dec_f hb2
          simp only [Bool.false_eq_true, false_iff]
          omega
      · have hb := dec_f hb
        rw [bin_eql]
        refine Br_i (fun hb2 => ?_) fun hb2 => ?_
        · have hb2 := dec_t hb2
          rw [SEntry.g_value_lo hW, SEntry.g_value_hi hW, bin_eql]
          refine hfin W _ x1W ?_
          rw [hfl', decide_eq_true_eq]
          omega
        · have hb2 := dec_f hb2
          refine hfin W _ x1W ?_
          rw [hfl']
          simp only [true_iff]
          omega
  · have no : ¬ (1 ≤ e.seq ∧ e.seq ≤ 2000 ∧ 0 ≤ e.time ∧ e.time ≤ 1000000000 ∧ e.value.lo ≤ e.value.hi) → R (.returned (.bool false)) w4 := fun hn => hfin w4 false x4 (by
      rw [Rep.formed_lims]
      simp only [Bool.false_eq_true, false_iff]
      rintro ⟨h, _⟩; exact hn h)
    refine join_in fun K2 hK1 => ?_
    rw [un_not]
    refine Gd_i (fun hb => ?_) fun hb => ?_
    · have hsome : (Rep.lims e.kind).isSome = true := by simpa using hb
      simp only [SEntry.g_seq h4, SEntry.g_time h4, SEntry.g_value_lo h4, SEntry.g_value_hi h4, bin_lss, bin_gtr]
      refine Gd_i (fun hb1 => ?_) fun hb1 => leaf1 hK1 fun h hh => by rw [hh]; exact br_t (no (by have := dec_t hb1; omega))
      refine Gd_i (fun hb2 => ?_) fun hb2 => leaf1 hK1 fun h hh => by rw [hh]; exact br_t (no (by have := dec_t hb2; omega))
      refine Gd_i (fun hb3 => ?_) fun hb3 => leaf1 hK1 fun h hh => by rw [hh]; exact br_t (no (by have := dec_t hb3; omega))
      refine Gd_i (fun hb4 => ?_) fun hb4 => leaf1 hK1 fun h hh => by rw [hh]; exact br_t (no (by have := dec_t hb4; omega))
      refine leaf1 hK1 fun h hh => ?_
      rw [hh]
      refine Br_i (fun hb5 => no (by have := dec_t hb5; omega)) fun hb5 => hK _ ⟨rfl, ?_, hsome⟩
      have := dec_f hb1; have := dec_f hb2; have := dec_f hb3; have := dec_f hb4; have := dec_f hb5
      omega
    · refine leaf1 hK1 fun h hh => ?_
      rw [hh]
      refine br_t (hfin w4 false x4 ?_)
      have : Rep.lims e.kind = none := by simpa using hb
      rw [Rep.formed_lims, this]
      simp only [Bool.false_eq_true, false_iff]
      rintro ⟨_, ⟨M, hM, _⟩, _⟩; cases hM
end Go.Proofs.YtoeblipchoglaaaGreatDoor
namespace Go.Proofs.YtoeblipchoglaaaGreatDoor
set_option maxRecDepth 100000
set_option maxHeartbeats 8000000
open Sh Go.RowKit
namespace Rep
def el (l : List SEntry) (i : Nat) : SEntry := (l[i]?).getD default
theorem el_of {l : List SEntry} {i : Nat} (h : i < l.length) : el l i = l[i] := by simp [el, h]
def good (l : List SEntry) (first : Int) (i : Nat) : Bool := formed (el l i) && (decide ((el l i).seq = IntKind.i64.wrap (first + i)) && (!decide (0 < i) || decide ((el l (i - 1)).time ≤ (el l i).time)))
def follows (l : List SEntry) (first : Int) : Bool := (List.range l.length).all (good l first) && decide (l.length ≤ 2000)
def carry (d : BitVec 64) (l : List SEntry) : BitVec 64 := l.foldl (fun d e => Dig.next d (eints e)) d
def begin (v : Int) : BitVec 64 := Dig.sum [v]
def isID (v : Int) : Bool := decide (1 ≤ v ∧ v ≤ 1000000)
noncomputable def valid (v : Int) (rs : List (List SPoint)) (l : List SEntry) : Bool := isID v && (decide (0 < rs.length) && (regValid rs && follows l 1))
theorem eints_ok {e : SEntry} (h : e.Ok) : ∀ n ∈ eints e, I64 n := by
  obtain ⟨h1, h2, h3, h4, h5, h6, h7, ⟨h8, h8a⟩, h9, h10, h11⟩ := h
  intro n hn
  rw [eints, List.mem_cons, List.mem_cons, List.mem_cons, List.mem_cons, List.mem_cons, List.mem_cons, List.mem_cons, List.mem_cons, List.mem_cons, List.mem_cons, List.mem_cons, List.mem_singleton] at hn
  rcases hn with hn | hn | hn | hn | hn | hn | hn | hn | hn | hn | hn | hn
  · rw [hn]; exact h1
  · rw [hn]; exact h2
  · rw [hn]; exact h3
  · rw [hn]; exact h4
  · rw [hn]; exact h5
  · rw [hn]; exact h6
  · rw [hn]; exact h7
  · rw [hn]; exact h8
  · rw [hn]; exact h8a
  · rw [hn]; exact h9
  · rw [hn]; exact h10
  · rw [hn]; exact h11
theorem carry_succ {l : List SEntry} {k : Nat} (h : k < l.length) (d : BitVec 64) : carry d (l.take (k + 1)) = Dig.next (carry d (l.take k)) (eints l[k]) := by
  simp only [carry, List.take_succ_eq_append_getElem h, List.foldl_append, List.foldl_cons, List.foldl_nil]
theorem follows_step {l : List SEntry} {first : Int} {k : Nat} (h : k < l.length) (hg : good l first k = false) : follows l first = false := by
  unfold follows
  rw [Bool.and_eq_false_iff]
  left
  rw [← Bool.not_eq_true, List.all_eq_true]
  intro ha
  rw [ha k (List.mem_range.2 h)] at hg; cases hg
theorem follows_done {l : List SEntry} {first : Int} (h : ∀ i, i < l.length → good l first i = true) : follows l first = decide (l.length ≤ 2000) := by
  unfold follows
  have : (List.range l.length).all (good l first) = true := List.all_eq_true.2 fun i hi => h i (List.mem_range.1 hi)
  rw [this, Bool.true_and]
end Rep
theorem Ty.ents_und : Tryz.prog.underlying 106 = some (.slice 38) := by kernel_rfl
theorem SEntry.row_atT {T : TypeId} (hT : Tryz.prog.underlying T = some (.slice 38)) {w : World} {v : Value} {l : List SEntry} (h : SEntry.Row w v l) {j : Nat} (hj : j < l.length) : ∃ b o, (∀ w1, Ext w w1 → Has w1 b o (Rep.el l j).cells) ∧ b < w.heap.size ∧
    ∀ (w1 : World) (K : Value → World → Prop) (X : List PanicEntry → World → Prop), DoV Tryz.prog (Instr.indexAt T v (.int .i64 j)) w1 K X = K (.pointer (some ⟨b, o, none⟩)) w1 := by
  obtain ⟨i, hi, hz, hs, hby⟩ := Ty.info_parts Ty.SEntry_info
  obtain ⟨b, o, h1, h2, h3⟩ := Sl.el (c := SEntry.cells) (sz := 12) SEntry.len h hT hi hs (k := .i64) hj (by decide)
  have h1 : Has w b o l[j].cells := h1
  exact ⟨b, o, fun w1 x1 => by rw [Rep.el_of hj]; exact h1.ext h2 x1, h2, h3⟩
theorem follow_ret {v : Value} {l : List SEntry} (first : Int) (w : World) (hv : SEntry.Row w v l) : Ret Tryz.prog 70 #[v, .int .i64 first] w fun r w' => r = .bool (Rep.follows l first) ∧ Ext w w' := by
  refine ret_of (fun _ _ => sh__report_entries_follow_ok _ _) fun R hR => ?_
  unfold sh__report_entries_follow
  have hle := hv.le
  rw [hv.len Ty.ents_und]
  refine loop1 (fun x W => ∃ k : Nat, k ≤ l.length ∧ x = .int .i64 k ∧ Ext w W ∧ ∀ i, i < k → Rep.good l first i = true) (fun x _ => l.length - (intOf x).toNat) ⟨0, by omega, rfl, Ext.refl _, fun i hi => by omega⟩ ?_
  rintro h _ W hx ⟨k, hk, rfl, xW, hin⟩ K hK
  rw [hx, bin_lss]
  refine Br_i (fun hb => ?_) fun hb => ?_
  · have hlt : k < l.length := by have := dec_t hb; omega
    obtain ⟨g, o, hh, _, hix⟩ := SEntry.row_atT Ty.ents_und hv hlt
    refine join0 (fun W' => Ext w W' ∧ Rep.good l first k = true) ?_ fun K2 hK2 => ?_
    · rintro _ W' ⟨xW', hg⟩
      rw [bin_add, i64_wrap (by omega) (by omega)]
      refine hK _ _ ⟨k + 1, by omega, by simp, xW', fun i hi => ?_⟩ (by simp [intOf]; omega)
      rcases Nat.lt_succ_iff_lt_or_eq.1 hi with h | rfl
      · exact hin i h
      · exact hg
    · rw [hix, SEntry.g_all (hh W xW)]
      refine alloc_i Ty.SEntry_zero fun b W2 x2 hat2 hb2 _ => ?_
      refine SEntry.set (r := SEntry.zero) (s := Rep.el l k) hat2 fun W3 m3 h3 _ => ?_
      have x3 : Ext W W3 := ((Mod.of_ext x2 : Mod (W.heap.size ≤ ·) W W2).trans (m3.mono fun j _ h => by omega)).new
      have xW3 := xW.trans x3
      refine join1 (fun q W' => Ext w W' ∧ q = .bool (!Rep.good l first k)) ?_ fun K3 hK3 => ?_
      · rintro _ _ W' hq ⟨xW', rfl⟩
        rw [hq]
        refine Br_i (fun hb => ?_) fun hb => ?_
        · exact hR _ _ ⟨by rw [Rep.follows_step hlt (by simpa using hb)], xW'⟩
        · exact hK2 _ ⟨xW', by simpa using hb⟩
      · refine draw_ext fun W4 x4 => ?_
        have hx3 : ∀ V, Ext W4 V → Has V b 0 (Rep.el l k).cells := fun V x => has_of_at (h3.ext (x4.trans x))
        have xW4 := xW3.trans x4
        refine det_read _ (fun V x K => SEntry.g_all (hx3 V x)) ?_
        refine det_ret _ (fun V x => isEntry_ret _ V) ?_
        refine det_read _ (fun V x K => un_not) ?_
        refine Gd_i (fun hb1 => ?_) fun hb1 => ?_
        · have hb1 : Rep.formed (Rep.el l k) = true := by simpa using hb1
          refine det_read _ (fun V x K => Ty.SEntry_f0) ?_
          refine det_read (.int .i64 (Rep.el l k).seq) (fun V x K => load_cell Ty.int_agg (has_at (hx3 V x) (d := 0) rfl rfl)) ?_
          refine det_read _ (fun V x K => bin_add) ?_
          refine det_read _ (fun V x K => bin_neq) ?_
          refine Gd_i (fun hb2 => ?_) fun hb2 => ?_
          · refine det_read _ (fun V x K => bin_gtr) ?_
            refine Gd_i (fun hb3 => ?_) fun hb3 => ?_
            · have h0k : 0 < k := by have := dec_t hb3; omega
              obtain ⟨g0, o0, hh0, _, hix0⟩ := SEntry.row_atT Ty.ents_und hv (show k - 1 < l.length by omega)
              have ek : IntKind.i64.wrap ((k : Int) - 1) = ((k - 1 : Nat) : Int) := by rw [i64_wrap (by omega) (by omega)]; omega
              refine det_read _ (fun V x K => Ty.SEntry_f1) ?_
              refine det_read (.int .i64 (Rep.el l k).time) (fun V x K => load_cell Ty.int_agg (has_at (hx3 V x) (d := 1) rfl rfl)) ?_
              refine det_read (.int .i64 ((k - 1 : Nat) : Int)) (fun V x K => by rw [bin_sub, ek]) ?_
              refine det_read _ (fun V x K => hix0 V K _) ?_
              refine det_read _ (fun V x K => Ty.SEntry_f1) ?_
              refine det_read (.int .i64 (Rep.el l (k - 1)).time) (fun V x K => load_cell Ty.int_agg (has_at (hh0 V (xW4.trans x)) (d := 1) rfl rfl)) ?_
              intro V x _
              rw [bin_lss]
              refine hK3 _ _ ⟨xW4.trans x, ?_⟩
              rw [Rep.good, hb1, decide_eq_true (p := 0 < k) h0k]
              have e2 : decide ((Rep.el l k).seq = IntKind.i64.wrap (first + k)) = true := by simpa using hb2
              rw [e2]
              simp only [Bool.true_and, Bool.not_true, Bool.false_or]
              congr 1
              rw [← decide_not, decide_eq_decide]; omega
            · intro V x _
              have h0k : ¬ 0 < k := by have := dec_f hb3; omega
              refine hK3 _ _ ⟨xW4.trans x, ?_⟩
              rw [Rep.good, hb1, decide_eq_false (p := 0 < k) h0k]
              have e2 : decide ((Rep.el l k).seq = IntKind.i64.wrap (first + k)) = true := by simpa using hb2
              rw [e2]; rfl
          · intro V x _
            refine hK3 _ _ ⟨xW4.trans x, ?_⟩
            have e2 : decide ((Rep.el l k).seq = IntKind.i64.wrap (first + k)) = false := by simpa using hb2
            rw [Rep.good, hb1, e2]; rfl
        · intro V x _
          have hb1 : Rep.formed (Rep.el l k) = false := by simpa using hb1
          refine hK3 _ _ ⟨xW4.trans x, ?_⟩
          rw [Rep.good, hb1]; rfl
  · have hkn : k = l.length := by have := dec_f hb; omega
    subst hkn
    rw [(Sl.ext hv xW).len Ty.ents_und, bin_leq]
    refine hR _ _ ⟨?_, xW⟩
    rw [Rep.follows_done hin]
    congr 1; rw [decide_eq_decide]; omega
theorem Follow_ret {v : Value} {l : List SEntry} (first : Int) (w : World) (hv : SEntry.Row w v l) : Ret Tryz.prog 52 #[v, .int .i64 first] w fun r w' => r = .bool (Rep.follows l first) ∧ Ext w w' := by
  refine ret_of (fun _ _ => sh_landfallref24_Follow_ok _ _) fun R hR => ?_
  unfold sh_landfallref24_Follow
  have hle := hv.le
  refine loop1 (fun x W => ∃ k : Nat, k ≤ l.length ∧ x = .int .i64 k ∧ Ext w W ∧ ∀ i, i < k → Rep.good l first i = true) (fun x _ => l.length - (intOf x).toNat) ⟨0, by omega, rfl, Ext.refl _, fun i hi => by omega⟩ ?_
  rintro h _ W hx ⟨k, hk, rfl, xW, hin⟩ K hK
  rw [hx, SEntry.row_len (Sl.ext hv xW), bin_lss]
  refine Br_i (fun hb => ?_) fun hb => ?_
  · have hlt : k < l.length := by have := dec_t hb; omega
    obtain ⟨g, o, hh, _, hix⟩ := SEntry.row_atT Ty.SEntry_row hv hlt
    refine join0 (fun W' => Ext w W' ∧ Rep.good l first k = true) ?_ fun K2 hK2 => ?_
    · rintro _ W' ⟨xW', hg⟩
      rw [bin_add, i64_wrap (by omega) (by omega)]
      refine hK _ _ ⟨k + 1, by omega, by simp, xW', fun i hi => ?_⟩ (by simp [intOf]; omega)
      rcases Nat.lt_succ_iff_lt_or_eq.1 hi with h | rfl
      · exact hin i h
      · exact hg
    · refine join1 (fun q W' => Ext w W' ∧ q = .bool (!Rep.good l first k)) ?_ fun K3 hK3 => ?_
      · rintro _ _ W' hq ⟨xW', rfl⟩
        rw [hq]
        refine Br_i (fun hb => ?_) fun hb => ?_
        · exact hR _ _ ⟨by rw [Rep.follows_step hlt (by simpa using hb)], xW'⟩
        · exact hK2 _ ⟨xW', by simpa using hb⟩
      · refine draw_ext fun W4 x4 => ?_
        have xW4 := xW.trans x4
        have hx3 : ∀ V, Ext W4 V → Has V g o (Rep.el l k).cells := fun V x => hh V (xW4.trans x)
        refine det_read _ (fun V x K => hix V K _) ?_
        refine det_read _ (fun V x K => SEntry.g_all (hx3 V x)) ?_
        refine det_ret _ (fun V x => Form_ret _ V) ?_
        refine det_read _ (fun V x K => un_not) ?_
        refine Gd_i (fun hb1 => ?_) fun hb1 => ?_
        · have hb1 : Rep.formed (Rep.el l k) = true := by simpa using hb1
          refine det_read _ (fun V x K => hix V K _) ?_
          refine det_read _ (fun V x K => Ty.SEntry_f0) ?_
          refine det_read (.int .i64 (Rep.el l k).seq) (fun V x K => load_cell Ty.int_agg (has_at (hx3 V x) (d := 0) rfl rfl)) ?_
          refine det_read _ (fun V x K => bin_add) ?_
          refine det_read _ (fun V x K => bin_neq) ?_
          refine Gd_i (fun hb2 => ?_) fun hb2 => ?_
          · refine det_read _ (fun V x K => bin_gtr) ?_
            refine Gd_i (fun hb3 => ?_) fun hb3 => ?_
            · have h0k : 0 < k := by have := dec_t hb3; omega
              obtain ⟨g0, o0, hh0, _, hix0⟩ := SEntry.row_atT Ty.SEntry_row hv (show k - 1 < l.length by omega)
              have ek : IntKind.i64.wrap ((k : Int) - 1) = ((k - 1 : Nat) : Int) := by rw [i64_wrap (by omega) (by omega)]; omega
              refine det_read _ (fun V x K => hix V K _) ?_
              refine det_read _ (fun V x K => Ty.SEntry_f1) ?_
              refine det_read (.int .i64 (Rep.el l k).time) (fun V x K => load_cell Ty.int_agg (has_at (hx3 V x) (d := 1) rfl rfl)) ?_
              refine det_read (.int .i64 ((k - 1 : Nat) : Int)) (fun V x K => by rw [bin_sub, ek]) ?_
              refine det_read _ (fun V x K => hix0 V K _) ?_
              refine det_read _ (fun V x K => Ty.SEntry_f1) ?_
              refine det_read (.int .i64 (Rep.el l (k - 1)).time) (fun V x K => load_cell Ty.int_agg (has_at (hh0 V (xW4.trans x)) (d := 1) rfl rfl)) ?_
              intro V x _
              rw [bin_lss]
              refine hK3 _ _ ⟨xW4.trans x, ?_⟩
              rw [Rep.good, hb1, decide_eq_true (p := 0 < k) h0k]
              have e2 : decide ((Rep.el l k).seq = IntKind.i64.wrap (first + k)) = true := by simpa using hb2
              rw [e2]
              simp only [Bool.true_and, Bool.not_true, Bool.false_or]
              congr 1
              rw [← decide_not, decide_eq_decide]; omega
            · intro V x _
              have h0k : ¬ 0 < k := by have := dec_f hb3; omega
              refine hK3 _ _ ⟨xW4.trans x, ?_⟩
              rw [Rep.good, hb1, decide_eq_false (p := 0 < k) h0k]
              have e2 : decide ((Rep.el l k).seq = IntKind.i64.wrap (first + k)) = true := by simpa using hb2
              rw [e2]; rfl
          · intro V x _
            refine hK3 _ _ ⟨xW4.trans x, ?_⟩
            have e2 : decide ((Rep.el l k).seq = IntKind.i64.wrap (first + k)) = false := by simpa using hb2
            rw [Rep.good, hb1, e2]; rfl
        · intro V x _
          have hb1 : Rep.formed (Rep.el l k) = false := by simpa using hb1
          refine hK3 _ _ ⟨xW4.trans x, ?_⟩
          rw [Rep.good, hb1]; rfl
  · have hkn : k = l.length := by have := dec_f hb; omega
    subst hkn
    rw [SEntry.row_len (Sl.ext hv xW), bin_leq]
    refine hR _ _ ⟨?_, xW⟩
    rw [Rep.follows_done hin]
    congr 1; rw [decide_eq_decide]; omega
theorem carry_ret {v : Value} {l : List SEntry} (d : BitVec 64) (hok : ∀ e ∈ l, e.Ok) (w : World) (hv : SEntry.Row w v l) (ht : Tab w) : Ret Tryz.prog 77 #[v, u64v d] w fun r w' => r = u64v (Rep.carry d l) ∧ Ext w w' := by
  refine ret_of (fun _ _ => sh__report_entries_carry_ok _ _) fun R hR => ?_
  unfold sh__report_entries_carry
  have hle := hv.le
  rw [hv.len Ty.ents_und]
  refine loop2 (fun y x W => ∃ k : Nat, k ≤ l.length ∧ x = .int .i64 k ∧ Ext w W ∧ y = u64v (Rep.carry d (l.take k))) (fun _ x _ => l.length - (intOf x).toNat) ⟨0, by omega, rfl, Ext.refl _, rfl⟩ ?_
  rintro h _ _ W hy hx ⟨k, hk, rfl, xW, rfl⟩ K hK
  rw [hx, bin_lss]
  refine Br_i (fun hb => ?_) fun hb => ?_
  · have hlt : k < l.length := by have := dec_t hb; omega
    obtain ⟨g, o, hh, _, hix⟩ := SEntry.row_atT Ty.ents_und hv hlt
    rw [hix, SEntry.g_all (hh W xW)]
    refine alloc_i Ty.SEntry_zero fun b W2 x2 hat2 hb2 _ => ?_
    refine SEntry.set (r := SEntry.zero) (s := Rep.el l k) hat2 fun W3 m3 h3 _ => ?_
    have x3 : Ext W W3 := ((Mod.of_ext x2 : Mod (W.heap.size ≤ ·) W W2).trans (m3.mono fun j _ h => by omega)).new
    rw [SEntry.g_all (has_of_at h3)]
    refine callF_ret (ints_ret _ W3) ?_
    rintro vi W4 ⟨hvi, x4⟩
    rw [hy]
    have xW4 := (xW.trans x3).trans x4
    refine callF_ret (next_ret (l := Rep.eints (Rep.el l k)) (Rep.eints_ok (by rw [Rep.el_of hlt]; exact hok _ (List.getElem_mem hlt))) W4 (Sl.of_owns hvi) (ht.ext xW4)) ?_
    rintro _ W5 ⟨rfl, x5⟩
    rw [bin_add, i64_wrap (by omega) (by omega)]
    refine hK _ _ _ ⟨k + 1, by omega, by simp, xW4.trans x5, ?_⟩ (by simp [intOf]; omega)
    rw [Rep.carry_succ hlt, Rep.el_of hlt]
  · have hge : l.length ≤ k := by have := dec_f hb; omega
    rw [hy, List.take_of_length_le hge]
    exact hR _ _ ⟨rfl, xW⟩
theorem Carry_ret {v : Value} {l : List SEntry} (d : BitVec 64) (hok : ∀ e ∈ l, e.Ok) (w : World) (hv : SEntry.Row w v l) : Ret Tryz.prog 44 #[u64v d, v] w fun r w' => r = u64v (Rep.carry d l) ∧ Ext w w' := by
  refine ret_of (fun _ _ => sh_landfallref24_Carry_ok _ _) fun R hR => ?_
  unfold sh_landfallref24_Carry
  have hle := hv.le
  refine loop2 (fun y x W => ∃ k : Nat, k ≤ l.length ∧ x = .int .i64 k ∧ Ext w W ∧ y = u64v (Rep.carry d (l.take k))) (fun _ x _ => l.length - (intOf x).toNat) ⟨0, by omega, rfl, Ext.refl _, rfl⟩ ?_
  rintro h _ _ W hy hx ⟨k, hk, rfl, xW, rfl⟩ K hK
  rw [hx, SEntry.row_len (Sl.ext hv xW), bin_lss]
  refine Br_i (fun hb => ?_) fun hb => ?_
  · have hlt : k < l.length := by have := dec_t hb; omega
    obtain ⟨g, o, hh, _, hix⟩ := SEntry.row_atT Ty.SEntry_row hv hlt
    rw [hix, SEntry.g_all (hh W xW)]
    refine callF_ret (Ints_ret _ W) ?_
    rintro vi W4 ⟨hvi, x4⟩
    rw [hy]
    have xW4 := xW.trans x4
    refine callF_ret (ref_next_ret (l := Rep.eints (Rep.el l k)) (Rep.eints_ok (by rw [Rep.el_of hlt]; exact hok _ (List.getElem_mem hlt))) (by show 12 ≤ 1000000000; omega) W4 (Sl.of_owns hvi)) ?_
    rintro _ W5 ⟨rfl, x5⟩
    rw [bin_add, i64_wrap (by omega) (by omega)]
    refine hK _ _ _ ⟨k + 1, by omega, by simp, xW4.trans x5, ?_⟩ (by simp [intOf]; omega)
    rw [Rep.carry_succ hlt, Rep.el_of hlt]
  · have hge : l.length ≤ k := by have := dec_f hb; omega
    rw [hy, List.take_of_length_le hge]
    exact hR _ _ ⟨rfl, xW⟩
theorem Begin_ret {n : Int} (hn : I64 n) (w : World) : Ret Tryz.prog 45 #[.int .i64 n] w fun r w' => r = u64v (Rep.begin n) ∧ Ext w w' := by
  refine ret_of (fun _ _ => sh_landfallref24_Begin_ok _) fun R hR => ?_
  unfold sh_landfallref24_Begin
  refine lit_ints [n] rfl (by decide) (by decide) rfl fun v w2 x2 h2 _ => ?_
  refine callF_ret (ref_sum_ret (l := [n]) (by intro m hm; rw [List.mem_singleton] at hm; subst hm; exact hn) (by simp) w2 (Sl.of_owns h2)) ?_
  rintro _ W5 ⟨rfl, x5⟩
  exact hR _ _ ⟨rfl, x2.trans x5⟩
theorem isID_ret (n : Int) (w : World) : Ret Tryz.prog 69 #[.int .i64 n] w fun r w' => r = .bool (Rep.isID n) ∧ w' = w := by
  refine ret_of (fun _ _ => sh_report_isID_ok _) fun R hR => ?_
  unfold sh_report_isID
  rw [bin_leq]
  refine Gd_i (fun hb => ?_) fun hb => ?_
  · rw [bin_leq]
    refine hR _ _ ⟨?_, rfl⟩
    rw [Rep.isID]; congr 1; rw [decide_eq_decide]; have := dec_t hb; omega
  · refine hR _ _ ⟨?_, rfl⟩
    rw [Rep.isID]; congr 1; rw [eq_comm, decide_eq_false_iff_not]; have := dec_f hb; omega
theorem logValid_ret {s : SLog} {rs : List (List SPoint)} {l : List SEntry} (hok : ∀ p ∈ rs, ∀ q ∈ p, q.Ok) (w : World) (hr : RL w s.start.val rs) (he : SEntry.Row w s.ents.val l) :
    Ret Tryz.prog 46 #[.agg s.cells.toArray] w fun r w' => r = .bool (Rep.valid s.veh rs l) ∧ Ext w w' := by
  refine ret_of (fun _ _ => sh_report_Valid_ok _) fun R hR => ?_
  unfold sh_report_Valid
  refine box_i fun g w1 x1 hat _ _ => ?_
  have h : ∀ W, Ext w1 W → Has W g 0 s.cells := fun W x => has_of_at (hat.ext x)
  have h1 := h w1 (Ext.refl _)
  rw [SLog.g_veh h1]
  refine callF_same (isID_ret _ w1) ?_
  refine Gd_i (fun hb1 => ?_) fun hb1 => hR _ _ ⟨by rw [Rep.valid, hb1]; rfl, x1⟩
  rw [SLog.g_start h1, (hr.ext x1).len, bin_gtr]
  refine Gd_i (fun hb2 => ?_) fun hb2 => hR _ _ ⟨by rw [Rep.valid, hb1, decide_eq_false (p := 0 < rs.length) (by have := dec_f hb2; omega)]; rfl, x1⟩
  rw [SLog.g_start h1]
  refine callF_ret (regionValid_ret hok w1 (hr.ext x1)) ?_
  rintro _ w2 ⟨rfl, x2⟩
  have h2 := h w2 x2
  have e2 : decide (0 < rs.length) = true := decide_eq_true (by have := dec_t hb2; omega)
  refine Gd_i (fun hb3 => ?_) fun hb3 => hR _ _ ⟨by rw [Rep.valid, hb1, e2, hb3]; rfl, x1.trans x2⟩
  rw [SLog.g_ents h2]
  refine callF_ret (follow_ret 1 w2 (Sl.ext he (x1.trans x2))) ?_
  rintro _ w3 ⟨rfl, x3⟩
  exact hR _ _ ⟨by rw [Rep.valid, hb1, e2, hb3]; rfl, (x1.trans x2).trans x3⟩
theorem refLogValid_ret {s : SLog} {rs : List (List SPoint)} {l : List SEntry} (w : World) (hr : RL w s.start.val rs) (he : SEntry.Row w s.ents.val l) :
    Ret Tryz.prog 30 #[.agg s.cells.toArray] w fun r w' => r = .bool (Rep.valid s.veh rs l) ∧ Ext w w' := by
  refine ret_of (fun _ _ => sh_landfallref24_Valid_ok _) fun R hR => ?_
  unfold sh_landfallref24_Valid
  refine box_i fun g w1 x1 hat _ _ => ?_
  have h : ∀ W, Ext w1 W → Has W g 0 s.cells := fun W x => has_of_at (hat.ext x)
  have h1 := h w1 (Ext.refl _)
  rw [SLog.g_veh h1]
  refine callF_same (in24_ret _ _ _ w1) ?_
  refine Gd_i (fun hb1 => ?_) fun hb1 => hR _ _ ⟨by rw [Rep.valid, Rep.isID, hb1]; rfl, x1⟩
  rw [SLog.g_start h1, (hr.ext x1).len, bin_gtr]
  refine Gd_i (fun hb2 => ?_) fun hb2 => hR _ _ ⟨by rw [Rep.valid, Rep.isID, hb1, decide_eq_false (p := 0 < rs.length) (by have := dec_f hb2; omega)]; rfl, x1⟩
  rw [SLog.g_start h1]
  refine callF_ret (refRegionValid_ret w1 (hr.ext x1)) ?_
  rintro _ w2 ⟨rfl, x2⟩
  have h2 := h w2 x2
  have e2 : decide (0 < rs.length) = true := decide_eq_true (by have := dec_t hb2; omega)
  refine Gd_i (fun hb3 => ?_) fun hb3 => hR _ _ ⟨by rw [Rep.valid, Rep.isID, hb1, e2, hb3]; rfl, x1.trans x2⟩
  rw [SLog.g_ents h2]
  refine callF_ret (Follow_ret 1 w2 (Sl.ext he (x1.trans x2))) ?_
  rintro _ w3 ⟨rfl, x3⟩
  exact hR _ _ ⟨by rw [Rep.valid, Rep.isID, hb1, e2, hb3]; rfl, (x1.trans x2).trans x3⟩
end Go.Proofs.YtoeblipchoglaaaGreatDoor
