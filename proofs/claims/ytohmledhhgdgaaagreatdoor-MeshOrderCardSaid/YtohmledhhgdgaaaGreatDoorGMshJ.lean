/- slices.Insert at reports: one report, into a row that is owned. -/
import Derived.Test.YtohmledhhgdgaaaGreatDoorGMshI
set_option linter.unusedVariables false
set_option linter.unusedSimpArgs false
namespace Go.Proofs.YtohmledhhgdgaaaGreatDoor
set_option maxRecDepth 100000
set_option maxHeartbeats 8000000
open Sh Go.RowKit
theorem addr_add {b o j : Nat} : (⟨b, o, none⟩ : Addr).add j = ⟨b, o + j, none⟩ := by unfold Addr.add; split <;> simp_all
theorem rslice_hi {w : World} {K : Value → World → Prop} {X : List PanicEntry → World → Prop} {g n cap h : Nat} (hh : h ≤ cap) : DoV Tryz.prog (Instr.sliceAt 22 (.slice (some ⟨g, 0, none⟩) n cap) none (some (.int .i64 h)) none) w K X = K (.slice (some ⟨g, 0, none⟩) h cap) w := by
  have he := elem_of Ty.SReport_row
  refine DoV_ok ?_
  rw [run_sliceAt_slice w _ _ _ _ _ (by rw [he]; exact Ty.SReport_row), run_slice_h w _ _ n cap (by rw [he]; exact Ty.SReport_row) .i64 h (by omega) (by omega), he, Ty.SReport_size]
  simp [sliced, addr_add]
theorem rslice_lo {w : World} {K : Value → World → Prop} {X : List PanicEntry → World → Prop} {g n cap l : Nat} (hl : l ≤ n) (hc : l < cap) : DoV Tryz.prog (Instr.sliceAt 22 (.slice (some ⟨g, 0, none⟩) n cap) (some (.int .i64 l)) none none) w K X = K (.slice (some ⟨g, l * 7, none⟩) (n - l) (cap - l)) w := by
  have he := elem_of Ty.SReport_row
  refine DoV_ok ?_
  rw [run_sliceAt_slice w _ _ _ _ _ (by rw [he]; exact Ty.SReport_row), run_slice_l w _ _ n cap (by rw [he]; exact Ty.SReport_row) .i64 l (by omega) (by omega), he, Ty.SReport_size]
  simp [sliced, addr_add, show ¬ cap = l by omega]
theorem ins_cells {α : Type} {cur X t : List α} {a n : Nat} (hX : cur.take n = X) (ha : a ≤ n) (hn : n + 7 ≤ cur.length) (hXl : X.length = n) :
    (cur.take (a + 7) ++ X.drop a ++ cur.drop (a + 7 + (X.drop a).length)).take a ++ t ++ (cur.take (a + 7) ++ X.drop a ++ cur.drop (a + 7 + (X.drop a).length)).drop (a + 7) = X.take a ++ (t ++ X.drop a) ++ cur.drop (n + 7) := by
  have e1 : (cur.take (a + 7) ++ X.drop a ++ cur.drop (a + 7 + (X.drop a).length)).take a = X.take a := by
    rw [List.append_assoc, List.take_append_of_le_length (by rw [List.length_take]; omega), List.take_take, Nat.min_eq_left (by omega), ← hX, List.take_take, Nat.min_eq_left ha]
  have e2 : (cur.take (a + 7) ++ X.drop a ++ cur.drop (a + 7 + (X.drop a).length)).drop (a + 7) = X.drop a ++ cur.drop (n + 7) := by
    rw [List.append_assoc, List.drop_left' (by rw [List.length_take]; omega), List.length_drop, hXl]
    congr 2
    omega
  rw [e1, e2]
  simp only [List.append_assoc]
theorem grow_cells {α : Type} {cur X t rest : List α} {a n : Nat} (hX : cur.take a = X.take a) (ha : a ≤ n) (hn : n + 7 ≤ cur.length) (hXl : X.length = n) (ht : t.length = 7) :
    (cur.take a ++ t ++ cur.drop (a + 7)).take (a + 7) ++ X.drop a ++ (cur.take a ++ t ++ cur.drop (a + 7)).drop (a + 7 + (X.drop a).length) = X.take a ++ (t ++ X.drop a) ++ cur.drop (n + 7) := by
  have hl : (cur.take a ++ t).length = a + 7 := by rw [List.length_append, List.length_take, ht]; omega
  have e0 : (cur.take a ++ t).drop (a + 7 + (n - a)) = [] := List.drop_eq_nil_of_le (by omega)
  rw [List.take_left' hl, List.length_drop, hXl, List.drop_append, hl, e0, List.nil_append, List.drop_drop, hX]
  simp only [List.append_assoc]
  congr 4
  omega
theorem cell_of {w : World} {g : Nat} {cur : Array Value} {t : TypeId} (h : At w g (.cells cur t (0, 0))) {o : Nat} {u : Value} (hu : cur.toList[o]? = some u) : w.cell? ⟨g, o, none⟩ = some u := by
  have := has_of_at (w := w) (b := g) (cs := cur.toList) (by simpa using h) o u hu
  simpa using this
theorem mInsert_ret {base g2 : Nat} {v : Value} {ss : List SReport} {t : SReport} {i : Nat} (w : World) (hown : SReport.Owns base w v ss) (hu : At w g2 (.cells t.cells.toArray 30 (0, 0))) (hi : i ≤ ss.length) (hn : ss.length < 100000) (hb : base ≤ w.heap.size) :
    Ret Tryz.prog 66 #[v, .int .i64 i, .slice (some ⟨g2, 0, none⟩) 1 1] w fun r w' => SReport.Owns base w' r (ss.take i ++ t :: ss.drop i) ∧ Mod (base ≤ ·) w w' := by
  refine ret_of (fun _ _ => sh_slices_Insert___api_Report_api_Report__ok _ _ _) fun R hR => ?_
  unfold sh_slices_Insert___api_Report_api_Report_
  have hrow := Sl.of_owns hown
  have l2 := hu.lt
  have hu1 : SReport.Row w (.slice (some ⟨g2, 0, none⟩) 1 1) [t] := ⟨some ⟨g2, 0, none⟩, 1, rfl, Nat.le_refl _, by decide, by simp [fl, SReport.len], .inr ⟨g2, 0, rfl, l2, fun j u h => by
    have e : fl SReport.cells [t] = t.cells := by simp [fl]
    rw [e] at h
    exact has_of_at hu j u h⟩⟩
  refine SReport.row_from hrow hi fun _ _ => ?_
  rw [SReport.row_len hu1, bin_eql]
  refine Br_i (fun h => absurd (dec_t h) (by simp)) fun _ => ?_
  rw [SReport.row_len hrow, bin_eql]
  refine Br_i (fun h => ?_) fun h => ?_
  · have hin : i = ss.length := by have := dec_t h; omega
    refine SReport.row_apps hown hu1 (by simp; omega) hb fun v3 w3 ho3 m3 => hR _ _ ⟨?_, m3.mono fun k _ hk => (Own.block hown hk).1⟩
    rw [hin, List.take_length, List.drop_length]; exact ho3
  have hlt : i < ss.length := by have := dec_f h; omega
  rcases hown.2 with ⟨rfl, h0⟩ | ⟨g, cap, cur, rfl, hbg, hg, hnc, hcm, hcs, htk⟩
  · omega
  have hg : At w g (.cells cur 30 (0, 0)) := hg
  have lg := hg.lt
  generalize hX : fl SReport.cells ss = X at *
  have hXl : X.length = ss.length * 7 := by rw [← hX]; exact hown.1
  have hcl : cur.toList.length = cap * 7 := by simpa using hcs
  obtain ⟨ii, hii, hzz, hss, hby⟩ := Ty.info_parts Ty.SReport_info
  have hgoal : fl SReport.cells (ss.take i ++ t :: ss.drop i) = X.take (i * 7) ++ (t.cells ++ X.drop (i * 7)) := by
    rw [← hX]
    rw [fl_append, fl_cons, fl_take SReport.len, fl_drop SReport.len]
  have htl : t.cells.length = 7 := SReport.len t
  have hl1 : ([t].length : Int) = 1 := rfl
  have fin : ∀ {w' : World} {G c' : Nat} {cur' : Array Value} {rest : List Value}, Mod (base ≤ ·) w w' → base ≤ G → At w' G (.cells cur' 30 (0, 0)) → ss.length + 1 ≤ c' → c' ≤ maxLen → cur'.size = c' * 7 → cur'.toList = X.take (i * 7) ++ (t.cells ++ X.drop (i * 7)) ++ rest → R (.returned (.slice (some ⟨G, 0, none⟩) (ss.length + 1) c')) w' := fun {w' G c' cur' rest} m hG hat h1 h2 h3 h4 => by
    have hlen : (X.take (i * 7) ++ (t.cells ++ X.drop (i * 7))).length = (ss.length + 1) * 7 := by simp only [List.length_append, List.length_take, List.length_drop, htl, hXl]; omega
    have hl : (ss.take i ++ t :: ss.drop i).length = ss.length + 1 := by simp; omega
    refine hR _ _ ⟨?_, m⟩
    show World.ownsRow _ _ _ _ _ (ss.take i ++ t :: ss.drop i).length _
    rw [hl, hgoal]
    exact ⟨hlen, .inr ⟨G, c', _, rfl, hG, hat, h1, h2, h3, by rw [h4, ← hlen]; exact List.take_left⟩⟩
  rw [bin_add, i64_wrap (by simp; omega) (by simp; omega), cap_i Ty.SReport_row, bin_gtr]
  refine Br_i (fun h => ?_) fun h => ?_
  · have hgrow : cap < ss.length + 1 := by have := dec_t h; simp at this; omega
    have hce : cap = ss.length := by omega
    rw [rslice_hi (by omega)]
    rw [bin_add, i64_wrap (by simp; omega) (by simp; omega), bin_sub, i64_wrap (by simp; omega) (by simp; omega), show (ss.length : Int) + ([t].length : Nat) - (i : Int) = ((ss.length + 1 - i : Nat) : Int) by simp; omega]
    have hXi : (X.take (i * 7)).length = i * 7 := by rw [List.length_take, hXl]; omega
    have hXcur : ∀ j u, X[j]? = some u → cur.toList[j]? = some u := fun j u h => by
      rw [← htk, List.getElem?_take] at h
      split at h
      · exact h
      · cases h
    have hsi : Sl w 7 (.slice (some ⟨g, 0, none⟩) i cap) i (X.take (i * 7)) := ⟨_, cap, rfl, by omega, hcm, hXi, .inr ⟨g, 0, rfl, lg, fun j u hj => by
      rw [Nat.zero_add]
      refine cell_of hg (hXcur j u ?_)
      rw [List.getElem?_take] at hj
      split at hj
      · exact hj
      · cases hj⟩⟩
    refine zapp_i hsi (by omega) (by omega) (by omega) fun w4 c4 cur4 x4 hat4 hs4 hc4 hm4 hz4 ht4 => ?_
    rw [show i + (ss.length + 1 - i) = ss.length + 1 by omega] at hc4 ⊢
    rw [rslice_lo (by omega) (by omega)]
    have hne : g2 ≠ w.heap.size := by omega
    have hc4l : cur4.toList.length = c4 * 7 := by simpa using hz4
    have hu4 := hu.ext x4
    refine copy_i (n := 1) (cs := t.cells) Ty.SReport_row hii hss hat4 (by simp only [Nat.min_def]; split <;> omega) (by rw [htl]) (fun j u hj => by rw [addr_add]; exact has_of_at hu4 j u hj) (by rw [htl, hz4]; omega) (fun u hu => SReport.one t u hu) fun w5 m5 hat5 hs5 => ?_
    refine draw_ext fun w6 x6 => ?_
    refine det_read (.int .i64 ((i + 1 : Nat) : Int)) (fun W' x K => by rw [bin_add, i64_wrap (by simp; omega) (by simp; omega)]; simp) ?_
    refine det_read _ (fun W' x K => rslice_lo (by omega) (by omega)) ?_
    refine det_read _ (fun W' x K => rslice_lo (by omega) (by omega)) ?_
    intro w7 x7 _
    have x67 := x6.trans x7
    have hat7 := hat5.ext x67
    have hg7 := ((hg.ext x4).mod m5 (by omega)).ext x67
    have hdl : (X.drop (i * 7)).length = (ss.length - i) * 7 := by rw [List.length_drop, hXl]; omega
    refine copy_i (n := ss.length - i) (cs := X.drop (i * 7)) Ty.SReport_row hii hss hat7 (by simp only [Nat.min_def]; split <;> omega) hdl (fun j u hj => by
      rw [addr_add]
      rw [List.getElem?_drop] at hj
      exact cell_of hg7 (hXcur _ _ hj)) ?_ (fun u hu => ?_) fun w8 m8 hat8 hs8 => ?_
    · simp only [List.size_toArray, List.length_append, List.length_take, List.length_drop, hdl, hc4l, htl]; omega
    · rw [← hX] at hu
      exact fl_one SReport.one ss u (List.mem_of_mem_drop hu)
    refine fin (rest := cur4.toList.drop ((ss.length + 1) * 7)) ((Mod.of_ext x4 : Mod (base ≤ ·) w w4).trans ((m5.mono fun k _ h => by omega : Mod (base ≤ ·) w4 w5).trans ((Mod.of_ext x67 : Mod (base ≤ ·) w5 w7).trans (m8.mono fun k _ h => by omega)))) hb hat8 hc4 hm4 ?_ ?_
    · simp only [List.size_toArray, List.length_append, List.length_take, List.length_drop, hdl, hc4l, htl]; omega
    · have := grow_cells (cur := cur4.toList) (X := X) (t := t.cells) (rest := []) (a := i * 7) (n := ss.length * 7) ht4 (by omega) (by rw [hc4l]; omega) hXl htl
      rw [htl, show (i + 1) * 7 = i * 7 + 7 by omega, show (ss.length + 1) * 7 = ss.length * 7 + 7 by omega]
      exact this
  · have hroom : ss.length + 1 ≤ cap := by have := dec_f h; simp at this; omega
    rw [bin_add, i64_wrap (by simp; omega) (by simp; omega), show (ss.length : Int) + ([t].length : Nat) = ((ss.length + 1 : Nat) : Int) by simp, rslice_hi hroom]
    rw [bin_add, i64_wrap (by simp; omega) (by simp; omega), show (i : Int) + ([t].length : Nat) = ((i + 1 : Nat) : Int) by simp, rslice_lo (by omega) (by omega)]
    have hne : g2 ≠ g := fun e => by
      subst e
      unfold At at hu hg
      rw [hu] at hg
      have : t.cells.toArray = cur := by injection hg with hg; injection hg
      have h7 : t.cells.toArray.size = 7 := by simpa using htl
      rw [this, hcs] at h7
      omega
    refine overlaps_i hu hg hne (by rw [hcs]; omega) ?_
    rw [un_not]
    refine br_t ?_
    refine draw_ext fun w4 x4 => ?_
    refine det_read (.int .i64 ((i + 1 : Nat) : Int)) (fun W' x K => by rw [bin_add, i64_wrap (by simp; omega) (by simp; omega)]; simp) ?_
    refine det_read _ (fun W' x K => rslice_lo (by omega) (by omega)) ?_
    refine det_read _ (fun W' x K => rslice_lo (by omega) (by omega)) ?_
    intro w5 x5 _
    have x05 := x4.trans x5
    have hg5 := hg.ext x05
    have hdl : (X.drop (i * 7)).length = (ss.length - i) * 7 := by rw [List.length_drop, hXl]; omega
    have hXcur : ∀ j u, X[j]? = some u → cur.toList[j]? = some u := fun j u h => by
      rw [← htk, List.getElem?_take] at h
      split at h
      · exact h
      · cases h
    refine copy_i (n := ss.length - i) (cs := X.drop (i * 7)) Ty.SReport_row hii hss hg5 (by simp only [Nat.min_def]; split <;> omega) hdl (fun j u hj => by
      rw [addr_add]
      rw [List.getElem?_drop] at hj
      exact cell_of hg5 (hXcur _ _ hj)) (by rw [hdl, hcs]; omega) (fun u hu => ?_) fun w6 m6 hat6 hs6 => ?_
    · rw [← hX] at hu
      exact fl_one SReport.one ss u (List.mem_of_mem_drop hu)
    rw [rslice_lo (by omega) (by omega)]
    have hu6 := (hu.ext x05).mod m6 hne
    refine copy_i (n := 1) (cs := t.cells) Ty.SReport_row hii hss hat6 (by simp only [Nat.min_def]; split <;> omega) (by rw [htl]) (fun j u hj => by rw [addr_add]; exact has_of_at hu6 j u hj) ?_ (fun u hu => SReport.one t u hu) fun w7 m7 hat7 hs7 => ?_
    · simp only [List.size_toArray, List.length_append, List.length_take, List.length_drop, hdl, hcl, htl]; omega
    refine fin (rest := cur.toList.drop ((ss.length + 1) * 7)) ((Mod.of_ext x05 : Mod (base ≤ ·) w w5).trans ((m6.mono fun k _ h => by omega : Mod (base ≤ ·) w5 w6).trans (m7.mono fun k _ h => by omega))) hbg hat7 hroom hcm ?_ ?_
    · simp only [List.size_toArray, List.length_append, List.length_take, List.length_drop, hdl, hcl, htl]; omega
    · have := ins_cells (cur := cur.toList) (X := X) (t := t.cells) (a := i * 7) (n := ss.length * 7) htk (by omega) (by rw [hcl]; omega) hXl
      rw [htl, show (i + 1) * 7 = i * 7 + 7 by omega, show (ss.length + 1) * 7 = ss.length * 7 + 7 by omega]
      exact this
end Go.Proofs.YtohmledhhgdgaaaGreatDoor
