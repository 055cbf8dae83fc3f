/- Maps from integers to booleans that are true: which integers they name. -/
import Derived.Test.YtdfpdfahcbflpabDoorHChaW
import Derived.Maps.OwnSet
set_option linter.unusedVariables false
set_option linter.unusedSimpArgs false
namespace Go.Proofs.YtdfpdfahcbflpabDoor
set_option maxRecDepth 100000
set_option maxHeartbeats 4000000
open Sh Go.RowKit
theorem Ty.names15 : Tryd.prog.underlying 29 = some (.map 3 4) := by kernel_rfl
theorem Ty.bool15 : Tryd.prog.underlying 4 = some .bool := by kernel_rfl
def Names (w : World) (b n : Nat) (l : List Int) : Prop := ∃ D : DataW Unit, w.ownsMap Tryd.prog 3 (plainElem Tryd.prog 4) b n D ∧ Maps.IsMap D ∧ ∀ k : Int, D.atKey (.int .i64 k) (.lit (.bool false)) = .lit (.bool (decide (k ∈ l)))
section
variable {w w' : World} {b n : Nat} {l : List Int} {k : Int} {K : Value → World → Prop} {X : List PanicEntry → World → Prop}
theorem key_wf (hk : I64 k) : (Lit.int .i64 k).wf = true := by
  unfold I64 at hk
  simp [Lit.wf, IntKind.min, IntKind.max, IntKind.signed, IntKind.bits]; omega
theorem Names.ext (h : Names w b n l) (x : Ext w w') : Names w' b n l := by
  obtain ⟨D, h1, h2, h3⟩ := h
  have hlt := h1.lt
  obtain ⟨es, clock, hb, F, hs, hD⟩ := h1
  exact ⟨D, ⟨es, clock, (x.block b hlt).trans hb, F, hs, hD⟩, h2, h3⟩
theorem Names.lt (h : Names w b n l) : b < w.heap.size := by obtain ⟨D, h1, _⟩ := h; exact h1.lt
theorem names_make (hk : ∀ b w1, Ext w w1 → Names w1 b 0 [] → b = w.heap.size → K (.map (some b)) w1) : DoV Tryd.prog (Instr.makeMap 29 none) w K X := by
  rw [DoV_ok (run_makeMap _ w)]
  exact hk _ _ (Ext.alloc w _) ⟨_, World.ownsMap_made w _ _ _, ⟨_, rfl⟩, fun k => by simp [WideAt.atKey_none]⟩ rfl
theorem names_look (h : Names w b n l) (hk : I64 k) : DoV Tryd.prog (Instr.lookup 29 (.map (some b)) (.int .i64 k) false) w K X = K (.bool (decide (k ∈ l))) w := by
  obtain ⟨D, h1, h2, h3⟩ := h
  obtain ⟨v, ps, hr, hv⟩ := h1.lookup (Maps.int_keyed Ty.int) Ty.names15 (z := .bool false) (by kernel_rfl) (plainElem_bool Ty.bool15 false) (Maps.keyOf_int_mk Ty.int (key_wf hk))
  rw [h3] at hv
  have e : v = .bool (decide (k ∈ l)) := by
    unfold plainElem at hv
    rw [Ty.bool15] at hv
    cases v <;> simp at hv
    rw [hv.1]
  subst e
  exact DoV_ok hr
theorem names_put (h : Names w b n l) (hk : I64 k) (hn : n < maxLen) (hK : ∀ w1, Names w1 b (n + 1) (k :: l) → Mod (· = b) w w1 → K undef w1) : DoU Tryd.prog (Instr.mapUpdate 29 (.map (some b)) (.int .i64 k) (.bool true)) w K X := by
  obtain ⟨D, h1, h2, h3⟩ := h
  obtain ⟨w', hr, ho, hg⟩ := h1.store (Maps.int_keyed Ty.int) Ty.names15 hn (Maps.keyOf_int_mk Ty.int (key_wf hk)) (plainElem_bool Ty.bool15 true)
  rw [DoU_ok hr]
  refine hK w' ⟨_, ho, ho.isMap, fun j => ?_⟩ ((Mod.grown hg.grown).mono fun q _ h => by simpa using h.symm)
  by_cases hj : j = k
  · subst hj
    rw [Maps.atKey_put_same h2 (by trivial)]
    simp
  · rw [Maps.atKey_put_other (by intro e; injection e with _ e; exact hj e), h3]
    simp [hj]
end
namespace Cha
def isID (v : Int) : Bool := decide (1 ≤ v ∧ v ≤ 1000000)
def cellOk (c : SCell) : Bool := decide (-100000 ≤ c.depth.lo ∧ c.depth.lo ≤ c.depth.hi ∧ c.depth.hi ≤ 100000 ∧ 0 ≤ c.date ∧ c.date ≤ 1000000000)
def beaconOk (b : SBeacon) : Bool := isID b.id && Hul.place b.at_
end Cha
theorem chID_ret (v : Int) (w : World) : Ret Tryd.prog 39 #[.int .i64 v] w fun r w' => r = .bool (Cha.isID v) ∧ Ext w w' := by
  refine ret_of (fun _ _ => sh_chart_isID_ok _) fun R hR => ?_
  unfold sh_chart_isID
  rw [bin_leq, bin_leq]
  unfold Cha.isID at hR
  refine Gd_i (fun hb => hR _ _ ⟨?_, Ext.refl _⟩) fun hb => hR _ _ ⟨?_, Ext.refl _⟩
  · have := dec_t hb
    congr 1; rw [decide_eq_decide]; omega
  · have := dec_f hb
    congr 1; rw [eq_comm, decide_eq_false]; omega
theorem chCell_ret (c : SCell) (w : World) : Ret Tryd.prog 42 #[.agg c.cells.toArray] w fun r w' => r = .bool (Cha.cellOk c) ∧ Ext w w' := by
  refine ret_of (fun _ _ => sh_chart_isCell_ok _) fun R hR => ?_
  unfold sh_chart_isCell
  refine box_i fun b w1 x1 hat _ _ => ?_
  have h : Has w1 b 0 c.cells := has_of_at hat
  have no : ¬ (-100000 ≤ c.depth.lo ∧ c.depth.lo ≤ c.depth.hi ∧ c.depth.hi ≤ 100000 ∧ 0 ≤ c.date ∧ c.date ≤ 1000000000) → R (.returned (.bool false)) w1 := fun hn => hR _ _ ⟨by unfold Cha.cellOk; rw [decide_eq_false hn], x1⟩
  simp only [SCell.g_depth_lo h, SCell.g_depth_hi h, SCell.g_date h, bin_leq]
  refine Gd_i (fun b1 => ?_) fun hb => no fun hh => dec_f hb hh.1
  refine Gd_i (fun b2 => ?_) fun hb => no fun hh => dec_f hb hh.2.1
  refine Gd_i (fun b3 => ?_) fun hb => no fun hh => dec_f hb hh.2.2.1
  refine Gd_i (fun b4 => ?_) fun hb => no fun hh => dec_f hb hh.2.2.2.1
  refine hR _ _ ⟨?_, x1⟩
  unfold Cha.cellOk
  congr 1; rw [decide_eq_decide]
  exact ⟨fun hh => ⟨dec_t b1, dec_t b2, dec_t b3, dec_t b4, hh⟩, fun hh => hh.2.2.2.2⟩
theorem valid1_ret15 (c : SCell) (w : World) : Ret Tryd.prog 41 #[.agg c.cells.toArray] w fun r w' => r = .bool (!Cha.cellOk c) ∧ Ext w w' := by
  refine ret_of (fun _ _ => sh_chart_Valid_1_ok _) fun R hR => ?_
  unfold sh_chart_Valid_1
  refine box_i fun b w1 x1 hat _ _ => ?_
  rw [SCell.g_all (has_of_at hat)]
  refine callF_ret (chCell_ret c w1) ?_
  rintro _ W ⟨rfl, x⟩
  rw [un_not]
  exact hR _ _ ⟨rfl, x1.trans x⟩
theorem valid2_ret15 {b : SBeacon} (hb : b.Ok) (w : World) : Ret Tryd.prog 43 #[.agg b.cells.toArray] w fun r w' => r = .bool (Cha.beaconOk b) ∧ Ext w w' := by
  refine ret_of (fun _ _ => sh_chart_Valid_2_ok _) fun R hR => ?_
  unfold sh_chart_Valid_2
  refine box_i fun g w1 x1 hat _ _ => ?_
  rw [SBeacon.g_id (has_of_at hat)]
  refine callF_ret (chID_ret _ w1) ?_
  rintro _ w2 ⟨rfl, x2⟩
  unfold Cha.beaconOk at hR
  refine Gd_i (fun hb1 => ?_) fun hb1 => hR _ _ ⟨by rw [hb1]; rfl, x1.trans x2⟩
  rw [SBeacon.g_at_ (has_of_at (hat.ext x2))]
  refine callF_ret (chPlace_ret hb.2 w2) ?_
  rintro _ w3 ⟨rfl, x3⟩
  exact hR _ _ ⟨by rw [hb1]; rfl, (x1.trans x2).trans x3⟩
theorem beaconID_ret (b : SBeacon) (w : World) : Ret Tryd.prog 25 #[.agg b.cells.toArray] w fun r w' => r = .int .i64 b.id ∧ Ext w w' := by
  refine ret_of (fun _ _ => sh_chart_beaconID_ok _) fun R hR => ?_
  unfold sh_chart_beaconID
  refine box_i fun g w1 x1 hat _ _ => ?_
  rw [SBeacon.g_id (has_of_at hat)]
  exact hR _ _ ⟨rfl, x1⟩
theorem lineID_ret (b : SLine) (w : World) : Ret Tryd.prog 27 #[.agg b.cells.toArray] w fun r w' => r = .int .i64 b.id ∧ Ext w w' := by
  refine ret_of (fun _ _ => sh_chart_lineID_ok _) fun R hR => ?_
  unfold sh_chart_lineID
  refine box_i fun g w1 x1 hat _ _ => ?_
  rw [SLine.g_id (has_of_at hat)]
  exact hR _ _ ⟨rfl, x1⟩
theorem invalidPt_ret {p : SPoint} (hp : p.Ok) (w : World) : Ret Tryd.prog 55 #[.agg p.cells.toArray] w fun r w' => r = .bool (!Hul.place p) ∧ Ext w w' := by
  refine ret_of (fun _ _ => sh_chart_isLine_1_ok _) fun R hR => ?_
  unfold sh_chart_isLine_1
  refine box_i fun b w1 x1 hat _ _ => ?_
  rw [SPoint.g_all (has_of_at hat)]
  refine callF_ret (chPlace_ret hp w1) ?_
  rintro _ W ⟨rfl, x⟩
  rw [un_not]
  exact hR _ _ ⟨rfl, x1.trans x⟩
theorem column_ret {f z v : Int} (hf : -10000000 ≤ f ∧ f ≤ 10000000) (hv : -10000000 ≤ v ∧ v ≤ 10000000) (hz : 1 ≤ z ∧ z ≤ 10000) (w : World) : Ret Tryd.prog 52 #[.int .i64 f, .int .i64 z, .int .i64 v] w fun r w' => r = .int .i64 (if v < f then -1 else (v - f) / z) ∧ Ext w w' := by
  refine ret_of (fun _ _ => sh_chart_column_ok _ _ _) fun R hR => ?_
  unfold sh_chart_column
  rw [bin_lss]
  refine Br_i (fun hb => hR _ _ ⟨by rw [if_pos (dec_t hb)], Ext.refl _⟩) fun hb => ?_
  have hn := dec_f hb
  rw [bin_sub, i64_wrap (by omega) (by omega), bin_quo (by omega), Int.tdiv_eq_ediv_of_nonneg (by omega)]
  have h1 : 0 ≤ (v - f) / z := Int.ediv_nonneg (by omega) (by omega)
  have h2 : (v - f) / z ≤ v - f := Int.ediv_le_self _ (by omega)
  rw [i64_wrap (by omega) (by omega)]
  exact hR _ _ ⟨by rw [if_neg hn], Ext.refl _⟩
end Go.Proofs.YtdfpdfahcbflpabDoor
