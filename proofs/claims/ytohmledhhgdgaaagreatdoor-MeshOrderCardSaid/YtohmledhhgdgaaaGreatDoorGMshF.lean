/- slices.Grow, Concat, CompactFunc at reports. -/
import Derived.Test.YtohmledhhgdgaaaGreatDoorGMshE
set_option linter.unusedVariables false
set_option linter.unusedSimpArgs false
namespace Go.Proofs.YtohmledhhgdgaaaGreatDoor
set_option maxRecDepth 100000
set_option maxHeartbeats 8000000
open Sh Go.RowKit
theorem rslice_nil {w : World} {K : Value → World → Prop} {X : List PanicEntry → World → Prop} : DoV Tryz.prog (Instr.sliceAt 22 (.slice none 0 0) none (some (.int .i64 ((0 : Nat) : Int))) none) w K X = K (.slice none 0 0) w := by
  have he := elem_of Ty.SReport_row
  refine DoV_ok ?_
  rw [run_sliceAt_slice w _ _ _ _ _ (by rw [he]; exact Ty.SReport_row), run_slice_h w _ _ 0 0 (by rw [he]; exact Ty.SReport_row) .i64 ((0 : Nat) : Int) (by omega) (by omega), he, Ty.SReport_size]
  simp [sliced]
theorem mGrow0_ret {n : Nat} (hn : n < 100000) (w : World) : Ret Tryz.prog 76 #[.slice none 0 0, .int .i64 n] w fun r w' => SReport.Owns w.heap.size w' r [] ∧ Ext w w' := by
  refine ret_of (fun _ _ => sh_slices_Grow___api_Report_api_Report__ok _ _) fun R hR => ?_
  unfold sh_slices_Grow___api_Report_api_Report_
  refine join0 (fun W => W = w) ?_ fun K hK => ?_
  · rintro _ W rfl
    refine join1 (fun v W' => SReport.Owns W.heap.size W' v [] ∧ Ext W W') ?_ fun K hK => ?_
    · rintro h v W' hv hq
      rw [hv]
      exact hR _ _ hq
    rw [cap_i Ty.SReport_row, len_slice Ty.SReport_row, bin_sub, i64_wrap (by omega) (by omega), bin_sub, i64_wrap (by omega) (by omega), bin_gtr]
    refine Br_i (fun hb => ?_) fun hb => ?_
    · have h0 : 0 < n := by have := dec_t hb; omega
      rw [cap_i Ty.SReport_row, rslice_nil, show (n : Int) - (((0 : Nat) : Int) - ((0 : Nat) : Int)) = (n : Int) by omega]
      refine zapp_i (n := 0) (k := n) (c := 0) (xs := []) (Sl.nil _ 7) h0 (by omega) (by omega) fun w4 c4 cur4 x4 hat4 hs4 hc4 hm4 hz4 ht4 => ?_
      rw [len_slice Ty.SReport_row, rslice_hi (by omega)]
      refine hK _ _ ⟨⟨rfl, .inr ⟨_, c4, cur4, rfl, Nat.le_refl _, hat4, by simp, hm4, hz4, by simp [fl]⟩⟩, x4⟩
    · exact hK _ _ ⟨SReport.owns_nil _ _, Ext.refl _⟩
  · rw [bin_lss]
    exact Br_i (fun hb => absurd (dec_t hb) (by omega)) fun _ => hK _ rfl
namespace Ty
theorem reprows : Tryz.prog.underlying 117 = some (.slice 22) := by kernel_rfl
theorem reps_info : (Tryz.prog.info? 22).map (fun i => (i.zero, i.size, i.bytes)) = some (some (.slice none 0 0), 1, 24) := by kernel_rfl
theorem reps_agg (w : World) : (isAgg 22).run Tryz.prog w = .ok false w := by kernel_rfl
end Ty
theorem reprow_at {w : World} {v : Value} {L : List (Value × List SReport)} (hv : Sl w 1 v L.length (L.map Prod.fst)) {j : Nat} (hj : j < L.length) :
    ∃ p, (∀ (w1 : World) (K : Value → World → Prop) (X : List PanicEntry → World → Prop), DoV Tryz.prog (Instr.indexAt 117 v (.int .i64 j)) w1 K X = K p w1) ∧
      ∀ (w1 : World), Ext w w1 → ∀ (K : Value → World → Prop) (X : List PanicEntry → World → Prop), DoV Tryz.prog (Instr.loadAt 22 p) w1 K X = K L[j].1 w1 := by
  obtain ⟨ii, hii, _, his, _⟩ := Ty.info_parts Ty.reps_info
  obtain ⟨b, o, hcell, hb, hix⟩ := hv.index Ty.reprows hii his (k := .i64) hj (by decide)
  refine ⟨_, hix, fun w1 h1 K X => ?_⟩
  refine load_cell Ty.reps_agg (cell_ext ?_ hb h1)
  rw [Nat.mul_one]
  exact hcell j _ (by simp [hj])
def cat (L : List (Value × List SReport)) (k : Nat) : List SReport := (L.take k).flatMap Prod.snd
theorem cat_succ {L : List (Value × List SReport)} {k : Nat} (h : k < L.length) : cat L (k + 1) = cat L k ++ L[k].2 := by
  unfold cat
  rw [List.take_succ_eq_append_getElem h, List.flatMap_append]
  simp
theorem cat_le (L : List (Value × List SReport)) : ∀ k, (cat L k).length ≤ (cat L L.length).length := fun k => by
  unfold cat
  rw [List.take_length]
  conv => rhs; rw [← List.take_append_drop k L]
  rw [List.flatMap_append, List.length_append]
  omega
theorem mConcat_ret {v : Value} {L : List (Value × List SReport)} (w : World) (hv : Sl w 1 v L.length (L.map Prod.fst)) (hL : ∀ x ∈ L, SReport.Row w x.1 x.2) (hn : (cat L L.length).length < 10000) :
    Ret Tryz.prog 42 #[v] w fun r w' => SReport.Owns w.heap.size w' r (cat L L.length) ∧ Ext w w' := by
  refine ret_of (fun _ _ => sh_slices_Concat___api_Report_api_Report__ok _) fun R hR => ?_
  unfold sh_slices_Concat___api_Report_api_Report_
  have hle := hv.le
  rw [hv.len Ty.reprows]
  refine loop2 (fun x y W => ∃ k : Nat, k ≤ L.length ∧ x = .int .i64 (cat L k).length ∧ y = .int .i64 k ∧ W = w) (fun _ y _ => L.length - (intOf y).toNat) ⟨0, by omega, rfl, rfl, rfl⟩ ?_
  rintro hh _ _ W hx hy ⟨k, hk, rfl, rfl, rfl⟩ K hK
  rw [hy, bin_lss]
  have hck := cat_le L k
  refine Br_i (fun hb => ?_) fun hb => ?_
  · have hlt : k < L.length := by have := dec_t hb; omega
    refine join1 (fun x W' => x = .int .i64 (cat L (k + 1)).length ∧ W' = W) ?_ fun K2 hK2 => ?_
    · rintro h2 _ W' hx2 ⟨rfl, rfl⟩
      rw [hx2, bin_add, i64_wrap (by omega) (by omega)]
      exact hK _ _ _ ⟨k + 1, by omega, rfl, by simp, rfl⟩ (by simp [intOf]; omega)
    obtain ⟨p, hix, hld⟩ := reprow_at hv hlt
    have hck2 := cat_le L (k + 1)
    have hcs := cat_succ hlt
    have hcl : (cat L (k + 1)).length = (cat L k).length + L[k].2.length := by rw [hcs, List.length_append]
    rw [hix, hld _ (Ext.refl _), SReport.row_len (hL _ (List.getElem_mem hlt)), hx, bin_add, i64_wrap (by omega) (by omega), bin_lss]
    refine Br_i (fun hb2 => absurd (dec_t hb2) (by omega)) fun _ => hK2 _ _ ⟨by rw [hcl]; simp, rfl⟩
  · have hke : k = L.length := by have := dec_f hb; omega
    subst hke
    rw [hx]
    refine callF_ret (mGrow0_ret (by omega) W) ?_
    rintro v1 w1 ⟨ho1, x1⟩
    rw [(Sl.ext hv x1).len Ty.reprows]
    refine loop2 (fun x y W' => ∃ k : Nat, k ≤ L.length ∧ SReport.Owns W.heap.size W' x (cat L k) ∧ y = .int .i64 k ∧ Ext W W') (fun _ y _ => L.length - (intOf y).toNat) ⟨0, by omega, ho1, rfl, x1⟩ ?_
    rintro h2 u _ W2 hx2 hy2 ⟨k, hk, ho, rfl, xW⟩ K2 hK2
    rw [hy2, bin_lss]
    have hck := cat_le L k
    refine Br_i (fun hb => ?_) fun hb => ?_
    · have hlt : k < L.length := by have := dec_t hb; omega
      obtain ⟨p, hix, hld⟩ := reprow_at hv hlt
      have hck2 := cat_le L (k + 1)
      have hcs := cat_succ hlt
      have hcl : (cat L (k + 1)).length = (cat L k).length + L[k].2.length := by rw [hcs, List.length_append]
      rw [hix, hld _ xW, hx2]
      refine SReport.row_apps ho (Sl.ext (hL _ (List.getElem_mem hlt)) xW) (by omega) xW.size fun v3 w3 ho3 m3 => ?_
      rw [bin_add, i64_wrap (by omega) (by omega)]
      refine hK2 _ _ _ ⟨k + 1, by omega, by rw [hcs]; exact ho3, by simp, ?_⟩ (by simp [intOf]; omega)
      exact ((Mod.of_ext xW : Mod (W.heap.size ≤ ·) W W2).trans (m3.mono fun j _ hj => (Own.block ho hj).1)).new
    · have hke : k = L.length := by have := dec_f hb; omega
      subst hke
      rw [hx2]
      exact hR _ _ ⟨ho, xW⟩
namespace Msh
abbrev Pr := SReport × Rep.Rpt
open Classical in
noncomputable def kp (P : List Pr) : Nat → Bool
  | 0 => true
  | j + 1 => decide ((P[j + 1]?).map Prod.snd ≠ (P[j]?).map Prod.snd)
noncomputable def dd (P : List Pr) : Nat → List Pr
  | 0 => []
  | k + 1 => dd P k ++ if kp P k = true then (P[k]?).toList else []
theorem kp_succ {P : List Pr} {k : Nat} (h : k + 1 < P.length) : kp P (k + 1) = true ↔ P[k + 1].2 ≠ P[k].2 := by
  rw [kp, List.getElem?_eq_getElem h, List.getElem?_eq_getElem (show k < P.length by omega)]
  simp
theorem dd_succ {P : List Pr} {k : Nat} (h : k < P.length) : dd P (k + 1) = dd P k ++ if kp P k = true then [P[k]] else [] := by
  rw [dd, List.getElem?_eq_getElem h]; rfl
theorem dd_len {P : List Pr} : ∀ k, (dd P k).length ≤ k
  | 0 => by simp [dd]
  | k + 1 => by
    have := dd_len (P := P) k
    have h : (P[k]?).toList.length ≤ 1 := by cases P[k]? <;> simp
    rw [dd, List.length_append]
    split
    · omega
    · simp; omega
theorem dd_all {P : List Pr} : ∀ {k : Nat}, k ≤ P.length → (∀ j, j < k → kp P j = true) → dd P k = P.take k
  | 0, _, _ => by simp [dd]
  | k + 1, h, hk => by rw [dd_succ (by omega), if_pos (hk k (by omega)), dd_all (by omega) (fun j hj => hk j (by omega)), List.take_succ_eq_append_getElem (by omega)]
theorem dd_mem {P : List Pr} {p : Pr} : ∀ {k : Nat}, p ∈ dd P k → ∃ j, j < k ∧ ∃ h : j < P.length, p = P[j]
  | 0, h => by simp [dd] at h
  | k + 1, h => by
    rw [dd, List.mem_append] at h
    rcases h with h | h
    · obtain ⟨j, h1, h2⟩ := dd_mem h
      exact ⟨j, by omega, h2⟩
    · split at h
      · rw [Option.mem_toList] at h
        obtain ⟨h1, h2⟩ := List.getElem?_eq_some_iff.1 h
        exact ⟨k, by omega, h1, h2.symm⟩
      · cases h
theorem dd_has {P : List Pr} : ∀ {k j : Nat} (hk : k ≤ P.length) (hj : j < k), P[j].2 ∈ (dd P k).map Prod.snd
  | 0, _, _, hj => by omega
  | k + 1, j, hk, hj => by
    rw [dd_succ (by omega), List.map_append, List.mem_append]
    by_cases hjk : j < k
    · exact .inl (dd_has (by omega) hjk)
    · have hjk : j = k := by omega
      subst hjk
      by_cases hp : kp P j = true
      · right; rw [if_pos hp]; simp
      · left
        cases j with
        | zero => exact absurd rfl hp
        | succ j =>
          have : P[j + 1].2 = P[j].2 := by
            rw [kp_succ (by omega)] at hp
            exact Classical.not_not.1 hp
          rw [this]
          exact dd_has (by omega) (by omega)
theorem dd_sorted {P : List Pr} (hs : ∀ i j (hj : j < P.length) (hij : i < j), less P[j].2 (P[i]'(by omega)).2 = false) : ∀ {k : Nat}, k ≤ P.length → Sorted ((dd P k).map Prod.snd)
  | 0, _ => by simp [dd, Sorted]
  | k + 1, hk => by
    have ih := dd_sorted hs (k := k) (by omega)
    rw [dd_succ (by omega), List.map_append]
    unfold Sorted at ih ⊢
    rw [List.pairwise_append]
    refine ⟨ih, by split <;> simp, fun a ha b hb => ?_⟩
    split at hb
    · rename_i hp
      simp only [List.map_cons, List.map_nil, List.mem_singleton] at hb
      subst hb
      obtain ⟨p, hp1, rfl⟩ := List.mem_map.1 ha
      obtain ⟨j, hj, hjl, rfl⟩ := dd_mem hp1
      cases k with
      | zero => omega
      | succ k =>
        have hne := (kp_succ (by omega)).1 hp
        have h1 : less P[k].2 P[k + 1].2 = true := less_total (hs k (k + 1) (by omega) (by omega)) hne
        by_cases hjk : j = k
        · subst hjk; exact h1
        · have h2 := hs j k (by omega) (by omega)
          by_cases he : P[k].2 = P[j].2
          · rw [← he]; exact h1
          · exact less_trans (less_total h2 he) h1
    · cases hb
end Msh
theorem mergeEq_ret {s t : SReport} {a b : Rep.Rpt} (ha : a.ents.length < 1000000) (hb : b.ents.length < 1000000) (w : World) (hs : RepIs w s a) (ht : RepIs w t b) : Ret Tryz.prog 45 #[.agg s.cells.toArray, .agg t.cells.toArray] w fun r w' => (∃ c, r = .bool c ∧ (c = true ↔ a = b)) ∧ Ext w w' := by
  refine ret_of (fun _ _ => sh_mesh_Merge_1_ok _ _) fun R hR => ?_
  unfold sh_mesh_Merge_1
  refine box_i fun g1 w1 x1 hat1 _ _ => ?_
  refine box_i fun g2 w2 x2 hat2 _ _ => ?_
  have x12 := x1.trans x2
  rw [SReport.g_all (has_of_at (At.ext hat1 x2)), SReport.g_all (has_of_at hat2)]
  refine callF_ret (order_ret ha hb w2 (hs.ext x12) (ht.ext x12)) ?_
  rintro _ w3 ⟨rfl, x3⟩
  rw [bin_eql]
  exact hR _ _ ⟨⟨_, rfl, by rw [decide_eq_true_iff]; exact rcmp_eq⟩, x12.trans x3⟩
theorem ridx {w : World} {K : Value → World → Prop} {X : List PanicEntry → World → Prop} {g o n c j : Nat} (hj : j < n) : DoV Tryz.prog (Instr.indexAt 22 (.slice (some ⟨g, o, none⟩) n c) (.int .i64 j)) w K X = K (.pointer (some ⟨g, o + j * 7, none⟩)) w := by
  obtain ⟨i, hi, hz, hs, hby⟩ := Ty.info_parts Ty.SReport_info
  exact DoV_ok (by simp [Instr.indexAt, asIntOf, run_underlying Ty.SReport_row, sizeOf, typeInfo, hi, hs, hj, addr_add])
theorem row_has {w : World} {g : Nat} {cur : Array Value} {cs : List SReport} (h : At w g (.cells cur 30 (0, 0))) (hc : cur.toList.take (cs.length * 7) = fl SReport.cells cs) {j : Nat} (hj : j < cs.length) : Has w g (j * 7) cs[j].cells := by
  intro k u hu
  have h1 := fl_get SReport.len (l := cs) hj hu
  rw [← hc, List.getElem?_take] at h1
  split at h1
  · exact cell_of h h1
  · cases h1
theorem row_set {cur : List Value} {A C : List SReport} {x y : SReport} {n k : Nat} (h : cur.take (n * 7) = fl SReport.cells (A ++ y :: C)) (hA : A.length = k) (hn : (A ++ y :: C).length = n) : (cur.take (k * 7) ++ x.cells ++ cur.drop (k * 7 + 7)).take (n * 7) = fl SReport.cells (A ++ x :: C) := by
  have hAl : (fl SReport.cells A).length = k * 7 := by rw [fl_length SReport.len, hA]
  have hyl := SReport.len y
  have hxl := SReport.len x
  have hCl := fl_length SReport.len C
  simp only [List.length_append, List.length_cons] at hn
  have e : cur = fl SReport.cells A ++ (y.cells ++ (fl SReport.cells C ++ cur.drop (n * 7))) := by
    conv => lhs; rw [← List.take_append_drop (n * 7) cur, h, fl_append, fl_cons]
    simp only [List.append_assoc]
  have e1 : cur.take (k * 7) = fl SReport.cells A := by rw [e, ← hAl]; exact List.take_left
  have e2 : cur.drop (k * 7 + 7) = fl SReport.cells C ++ cur.drop (n * 7) := by
    conv => lhs; rw [e]
    rw [← List.append_assoc]
    exact List.drop_left' (by rw [List.length_append, hAl, hyl])
  rw [e1, e2, fl_append, fl_cons, ← List.append_assoc]
  rw [List.take_left' (by simp only [List.length_append, hAl, hxl, hCl]; omega)]
  simp only [List.append_assoc]
theorem clear_i {w : World} {K : Value → World → Prop} {X : List PanicEntry → World → Prop} {ty : TypeId} {fs : Array Bool} {g o n c : Nat} {cur : Array Value} (h : At w g (.cells cur 30 (0, 0))) (hn : 0 < n) (hfit : o + n * 7 ≤ cur.size)
    (hk : ∀ w1 (cur' : Array Value), Mod (· = g) w w1 → At w1 g (.cells cur' 30 (0, 0)) → cur'.size = cur.size → cur'.toList.take o = cur.toList.take o → K (.tuple #[]) w1) :
    CallB Tryz.prog .clear #[22] ty fs #[.slice (some ⟨g, o, none⟩) n c] w K X := by
  obtain ⟨z, hzv, hz7, hz1⟩ : ∃ z : Value, (∀ w, (zeroValue 30).run Tryz.prog w = .ok z w) ∧ z.cells.size = 7 ∧ ∀ i, i < 7 → (z.cells[i]!).oneCell' = true :=
    ⟨.agg SReport.zero.cells.toArray, Ty.SReport_zero, rfl, fun i hi => by
      match i, hi with
      | 0, _ => rfl
      | 1, _ => rfl
      | 2, _ => rfl
      | 3, _ => rfl
      | 4, _ => rfl
      | 5, _ => rfl
      | 6, _ => rfl⟩
  have hz : (Builtin.zeroCells z.cells n).size = n * 7 := by rw [size_zeroCells, hz7]
  have h1 : ∀ v ∈ (Builtin.zeroCells z.cells n).toList, v.oneCell' = true := by
    intro v hv
    simp only [Builtin.zeroCells, Array.toList_map, List.mem_map] at hv
    obtain ⟨i, _, rfl⟩ := hv
    rw [hz7]
    exact hz1 _ (Nat.mod_lt _ (by decide))
  have hst := run_storeCells_at Tryz.prog g o 30 (Builtin.zeroCells z.cells n).toList 0 cur w h (by simp [hz]; omega) h1
  simp only [Nat.add_zero] at hst
  have e : (builtin .clear #[22] ty fs #[.slice (some ⟨g, o, none⟩) n c]).run Tryz.prog w = .ok (.value (.tuple #[])) (w.setRow g (cur.toList.take o ++ (Builtin.zeroCells z.cells n).toList ++ cur.toList.drop (o + (Builtin.zeroCells z.cells n).toList.length)).toArray) := by
    obtain ⟨m, rfl⟩ : ∃ m, n = m + 1 := ⟨n - 1, by omega⟩
    simp [builtin, Builtin.clear_, run_underlying Ty.SReport_row, hzv, hst]
  refine CallB_ok e (hk _ (cur.toList.take o ++ (Builtin.zeroCells z.cells n).toList ++ cur.toList.drop (o + (Builtin.zeroCells z.cells n).toList.length)).toArray ⟨rfl, rfl, rfl, by simp [World.setRow], fun k hk hne => ?_⟩ ?_ ?_ ?_)
  · simp only [World.setRow]
    rw [Array.getElem?_modify, if_neg (fun e => hne e.symm)]
  · unfold At at h ⊢
    simp only [World.setRow, Array.getElem?_modify, if_true, h, Option.map_some]
  · simp [hz]; omega
  · rw [List.append_assoc]
    exact List.take_left' (by simp; omega)
theorem mCompact_ret {g cap : Nat} {cur : Array Value} {P : List Msh.Pr} (w : World) (hat : At w g (.cells cur 30 (0, 0))) (hcap : P.length ≤ cap) (hcm : cap ≤ maxLen) (hcs : cur.size = cap * 7) (htk : cur.toList.take (P.length * 7) = fl SReport.cells (P.map Prod.fst))
    (hl : ∀ p ∈ P, LiveS (· = g) w p.1 p.2 ∧ p.2.ents.length < 1000000) (hn : P.length < 100000) :
    Ret Tryz.prog 44 #[.slice (some ⟨g, 0, none⟩) P.length cap, .func (.func 45) #[] #[]] w fun r w' =>
      ∃ cur' : Array Value, r = .slice (some ⟨g, 0, none⟩) (Msh.dd P P.length).length cap ∧ At w' g (.cells cur' 30 (0, 0)) ∧ cur'.size = cap * 7 ∧ cur'.toList.take ((Msh.dd P P.length).length * 7) = fl SReport.cells ((Msh.dd P P.length).map Prod.fst) ∧ Mod (· = g) w w' := by
  refine ret_of (fun _ _ => sh_slices_CompactFunc___api_Report_api_Report__ok _ _) fun R hR => ?_
  unfold sh_slices_CompactFunc___api_Report_api_Report_
  have same : ∀ {W : World}, Ext w W → (∀ j, j < P.length → Msh.kp P j = true) → R (.returned (.slice (some ⟨g, 0, none⟩) P.length cap)) W := fun xW hk => by
    have e : Msh.dd P P.length = P := by rw [Msh.dd_all (Nat.le_refl _) hk, List.take_length]
    exact hR _ _ ⟨cur, by rw [e], hat.ext xW, hcs, by rw [e]; exact htk, .of_ext xW⟩
  rw [len_slice Ty.SReport_row, bin_lss]
  refine Br_i (fun hb => same (Ext.refl _) fun j hj => ?_) fun hb => ?_
  · have := dec_t hb
    have : j = 0 := by omega
    subst this; rfl
  have h2 : 2 ≤ P.length := by have := dec_f hb; omega
  have get : ∀ {W : World} {j : Nat}, Mod (· = g) w W → ∀ (hj : j < P.length), RepIs W P[j].1 P[j].2 := fun m hj => (hl _ (List.getElem_mem hj)).1 _ m
  have few : ∀ {j : Nat} (hj : j < P.length), P[j].2.ents.length < 1000000 := fun hj => (hl _ (List.getElem_mem hj)).2
  have htk0 : cur.toList.take ((P.map Prod.fst).length * 7) = fl SReport.cells (P.map Prod.fst) := by rw [List.length_map]; exact htk
  refine loop2 (fun x _ W => ∃ k : Nat, 1 ≤ k ∧ k ≤ P.length ∧ x = .int .i64 k ∧ Ext w W ∧ ∀ j, j < k → Msh.kp P j = true) (fun x _ _ => P.length - (intOf x).toNat) ⟨1, by omega, by omega, rfl, Ext.refl _, fun j hj => (show 0 = j by omega) ▸ rfl⟩ ?_
  rintro hh _ _ W hx _ ⟨k, hk1, hk, rfl, xW, hkp⟩ K hK
  rw [len_slice Ty.SReport_row, hx, bin_lss]
  refine Br_i (fun hb => ?_) fun hb => ?_
  · have hlt : k < P.length := by have := dec_t hb; omega
    have hrd : ∀ W', Ext w W' → ∀ {j : Nat} (hj : j < P.length), Has W' g (0 + j * 7) P[j].1.cells := by
      intro W' x j hj
      have := row_has (hat.ext x) htk0 (j := j) (by simpa using hj)
      rw [List.getElem_map] at this
      rw [Nat.zero_add]; exact this
    refine draw_ext fun w4 x4 => ?_
    have x14 := xW.trans x4
    refine det_read _ (fun W' x K => ridx hlt) ?_
    refine det_read _ (fun W' x K => SReport.g_all (hrd W' (x14.trans x) hlt)) ?_
    refine det_read (.int .i64 ((k - 1 : Nat) : Int)) (fun W' x K => by rw [bin_sub, i64_wrap (by omega) (by omega), show (k : Int) - 1 = ((k - 1 : Nat) : Int) by omega]) ?_
    refine det_read _ (fun W' x K => ridx (by omega)) ?_
    refine det_read _ (fun W' x K => SReport.g_all (hrd W' (x14.trans x) (show k - 1 < P.length by omega))) ?_
    intro w5 x5 _
    have x15 := x14.trans x5
    rw [callV_func (by kernel_rfl)]
    refine callF_ret (mergeEq_ret (few hlt) (few (by omega)) w5 (get (.of_ext x15) hlt) (get (.of_ext x15) (by omega))) ?_
    rintro _ w6 ⟨⟨c, rfl, hc⟩, x6⟩
    have x16 := x15.trans x6
    have hkk : P[k - 1 + 1]'(by omega) = P[k] := by congr 1; omega
    have hkeep : Msh.kp P k = !c := by
      have h0 : k = k - 1 + 1 := by omega
      rw [h0]
      cases c with
      | true =>
        cases h : Msh.kp P (k - 1 + 1) with
        | false => rfl
        | true => exact absurd (by rw [hkk]; exact hc.1 rfl) ((Msh.kp_succ (by omega)).1 h)
      | false =>
        show _ = true
        rw [Msh.kp_succ (by omega), hkk]
        exact fun e => by have := hc.2 e; cases this
    refine Br_i (fun hb2 => ?_) fun hb2 => ?_
    · subst hb2
      rw [rslice_lo (by omega) (by omega)]
      have h0 : Msh.dd P (k + 1) = P.take k := by rw [Msh.dd_succ hlt, if_neg (by rw [hkeep]; decide), List.append_nil, Msh.dd_all (by omega) hkp]
      refine loop2 (fun x y W' => ∃ (q : Nat) (cur' : Array Value), 1 ≤ q ∧ k + q ≤ P.length ∧ x = .int .i64 (Msh.dd P (k + q)).length ∧ y = .int .i64 q ∧ Mod (· = g) w W' ∧ At W' g (.cells cur' 30 (0, 0)) ∧ cur'.size = cap * 7 ∧
          cur'.toList.take (P.length * 7) = fl SReport.cells ((Msh.dd P (k + q) ++ P.drop (Msh.dd P (k + q)).length).map Prod.fst) ∧ (Msh.dd P (k + q)).length < k + q) (fun _ y _ => P.length - k - (intOf y).toNat)
        ⟨1, cur, by omega, by omega, by rw [h0, List.length_take, Nat.min_eq_left (by omega)], rfl, .of_ext x16, hat.ext x16, hcs, by rw [h0, List.length_take, Nat.min_eq_left (by omega), List.take_append_drop]; exact htk, by rw [h0, List.length_take]; omega⟩ ?_
      rintro h3 _ _ W3 hx3 hy3 ⟨q, cur3, hq1, hq, rfl, rfl, m3, hat3, hcs3, htk3, hlq⟩ K3 hK3
      generalize hD : Msh.dd P (k + q) = D at *
      rw [len_slice Ty.SReport_row, hy3, bin_lss]
      refine Br_i (fun hb3 => ?_) fun hb3 => ?_
      · have hlt3 : k + q < P.length := by have := dec_t hb3; omega
        have hDl : D.length ≤ P.length := by omega
        have hcl : ((D ++ P.drop D.length).map Prod.fst).length = P.length := by simp; omega
        have hrd3 : ∀ W', Ext W3 W' → ∀ {j : Nat} (hj : k + j < P.length), D.length ≤ k + j → Has W' g (k * 7 + j * 7) P[k + j].1.cells := by
          intro W' x j hj hDj
          have := row_has (hat3.ext x) (cs := (D ++ P.drop D.length).map Prod.fst) (by rw [hcl]; exact htk3) (j := k + j) (by rw [hcl]; exact hj)
          rw [List.getElem_map, List.getElem_append_right (by omega)] at this
          have e : (P.drop D.length)[k + j - D.length]'(by simp; omega) = P[k + j] := by
            rw [List.getElem_drop]; congr 1; omega
          rw [e, Nat.add_mul] at this
          exact this
        refine join1 (fun x W' => ∃ cur' : Array Value, x = .int .i64 (Msh.dd P (k + q + 1)).length ∧ Mod (· = g) w W' ∧ At W' g (.cells cur' 30 (0, 0)) ∧ cur'.size = cap * 7 ∧
          cur'.toList.take (P.length * 7) = fl SReport.cells ((Msh.dd P (k + q + 1) ++ P.drop (Msh.dd P (k + q + 1)).length).map Prod.fst) ∧ (Msh.dd P (k + q + 1)).length < k + q + 1) ?_ fun K4 hK4 => ?_
        · rintro h4 _ W4 hx4 ⟨cur4, rfl, g1, g2, g3, g4, g5⟩
          rw [hx4, bin_add, i64_wrap (by omega) (by omega)]
          exact hK3 _ _ _ ⟨q + 1, cur4, by omega, by omega, rfl, by simp, g1, g2, g3, g4, by rw [← Nat.add_assoc]; exact g5⟩ (by simp [intOf]; omega)
        refine draw_ext fun w7 x7 => ?_
        refine det_read _ (fun W' x K => ridx (by omega)) ?_
        refine det_read _ (fun W' x K => SReport.g_all (hrd3 W' (x7.trans x) hlt3 (by omega))) ?_
        refine det_read (.int .i64 ((q - 1 : Nat) : Int)) (fun W' x K => by rw [bin_sub, i64_wrap (by omega) (by omega), show (q : Int) - 1 = ((q - 1 : Nat) : Int) by omega]) ?_
        refine det_read _ (fun W' x K => ridx (by omega)) ?_
        refine det_read _ (fun W' x K => SReport.g_all (hrd3 W' (x7.trans x) (show k + (q - 1) < P.length by omega) (by omega))) ?_
        intro w8 x8 _
        have x78 := x7.trans x8
        have m8 : Mod (· = g) w w8 := m3.trans (.of_ext x78)
        rw [callV_func (by kernel_rfl)]
        refine callF_ret (mergeEq_ret (few hlt3) (few (by omega)) w8 (get m8 hlt3) (get m8 (by omega))) ?_
        rintro _ w9 ⟨⟨c, rfl, hc⟩, x9⟩
        have m9 : Mod (· = g) w w9 := m8.trans (.of_ext x9)
        have hat9 := hat3.ext (x78.trans x9)
        have hkk : P[k + (q - 1) + 1]'(by omega) = P[k + q] := by congr 1; omega
        have hkeep3 : Msh.kp P (k + q) = !c := by
          have h0 : k + q = k + (q - 1) + 1 := by omega
          rw [h0]
          cases c with
          | true =>
            cases h : Msh.kp P (k + (q - 1) + 1) with
            | false => rfl
            | true => exact absurd (by rw [hkk]; exact hc.1 rfl) ((Msh.kp_succ (by omega)).1 h)
          | false =>
            show _ = true
            rw [Msh.kp_succ (by omega), hkk]
            exact fun e => by have := hc.2 e; cases this
        have hds := Msh.dd_succ hlt3
        rw [hD] at hds
        rw [un_not]
        refine Br_i (fun hb4 => ?_) fun hb4 => ?_
        · rw [hkeep3, if_pos hb4] at hds
          rw [ridx (by omega), SReport.g_all (hrd3 w9 (x78.trans x9) hlt3 (by omega)), hx3, ridx (by omega), Nat.zero_add]
          refine store_part (n := 7) (v := .agg P[k + q].1.cells.toArray) Ty.SReport_size hat9 (by rw [hcs3]; omega) (by show P[k + q].1.cells.toArray.size = 7; simpa using SReport.len P[k + q].1) (fun u hu => SReport.one P[k + q].1 u (by simpa [Value.cells] using hu)) fun w10 m10 hat10 _ => ?_
          rw [bin_add, i64_wrap (by omega) (by omega)]
          have hlen : (Msh.dd P (k + q + 1)).length = D.length + 1 := by rw [hds]; simp
          refine hK4 _ _ ⟨_, by rw [hlen]; simp, m9.trans m10, hat10, ?_, ?_, by rw [hlen]; omega⟩
          · have h7 := SReport.len P[k + q].1
            simp [Value.cells, h7, hcs3]; omega
          · have hdr : P.drop D.length = (P[D.length]'(by omega)) :: P.drop (D.length + 1) := List.drop_eq_getElem_cons (by omega)
            have hst := row_set (x := P[k + q].1) (A := D.map Prod.fst) (y := (P[D.length]'(by omega)).1) (C := (P.drop (D.length + 1)).map Prod.fst) (n := P.length) (k := D.length) (cur := cur3.toList) (by rw [htk3, hdr, List.map_append, List.map_cons]) (by simp) (by simp; omega)
            rw [hlen, hds]
            simp only [Value.cells, List.map_append, List.map_cons, List.map_nil, List.append_assoc, List.singleton_append] at hst ⊢
            exact hst
        · rw [hkeep3, if_neg (by rw [hb4]; decide), List.append_nil] at hds
          rw [hx3]
          exact hK4 _ _ ⟨cur3, by rw [hds], m9, hat9, hcs3, by rw [hds]; exact htk3, by rw [hds]; omega⟩
      · have hke : k + q = P.length := by have := dec_f hb3; omega
        rw [hke] at hD hlq
        rw [hx3, rslice_lo (by omega) (by omega)]
        refine clear_i hat3 (by omega) (by rw [hcs3]; omega) fun w7 cur7 m7 hat7 hs7 ht7 => ?_
        rw [rslice_hi (by omega)]
        refine hR _ _ ⟨cur7, by rw [hD], hat7, by rw [hs7, hcs3], ?_, m3.trans m7⟩
        rw [hD, ht7]
        have e : cur3.toList.take (D.length * 7) = (cur3.toList.take (P.length * 7)).take (D.length * 7) := by rw [List.take_take, Nat.min_eq_left (by omega)]
        rw [e, htk3, List.map_append, fl_append]
        exact List.take_left' (by rw [fl_length SReport.len, List.length_map])
    · rw [bin_add, i64_wrap (by omega) (by omega)]
      refine hK _ _ _ ⟨k + 1, by omega, by omega, by simp, x16, fun j hj => ?_⟩ (by simp [intOf]; omega)
      by_cases hjk : j < k
      · exact hkp j hjk
      · have : j = k := by omega
        subst this
        rw [hkeep, hb2]; rfl
  · have hke : k = P.length := by have := dec_f hb; omega
    subst hke
    exact same xW hkp
end Go.Proofs.YtohmledhhgdgaaaGreatDoor
