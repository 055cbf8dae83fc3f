/- Compact at points: the result is as long as the list exactly if no two neighbours are the same. -/
import Derived.Test.YtdfpdfahcbflpabDoorHChaU
set_option linter.unusedVariables false
set_option linter.unusedSimpArgs false
namespace Go.Proofs.YtdfpdfahcbflpabDoor
set_option maxRecDepth 100000
set_option maxHeartbeats 16000000
open Sh Go.RowKit
theorem addr_add15 {b o j : Nat} : (⟨b, o, none⟩ : Addr).add j = ⟨b, o + j, none⟩ := by unfold Addr.add; split <;> simp_all
theorem callB_ok15 {P : Program} {w : World} {K : Value → World → Prop} {X : List PanicEntry → World → Prop} {b : Builtin} {ts : Array TypeId} {t : TypeId} {cs : Array Bool} {args : Array Value} {v : Value} {w' : World} (e : (builtin b ts t cs args).run P w = .ok (.value v) w') (hk : K v w') : CallB P b ts t cs args w K X := by
  unfold CallB Do
  rw [e]; exact hk
theorem p_idx {w : World} {K : Value → World → Prop} {X : List PanicEntry → World → Prop} {g o n c j : Nat} (hj : j < n) : DoV Tryd.prog (Instr.indexAt 37 (.slice (some ⟨g, o, none⟩) n c) (.int .i64 j)) w K X = K (.pointer (some ⟨g, o + j * 2, none⟩)) w := by
  obtain ⟨i, hi, hz, hs, hby⟩ := Ty.info_parts Ty.SPoint_info
  exact DoV_ok (by simp [Instr.indexAt, asIntOf, run_underlying Ty.SPoint_row, sizeOf, typeInfo, hi, hs, hj, addr_add15])
theorem p_hi {w : World} {K : Value → World → Prop} {X : List PanicEntry → World → Prop} {g n cap h : Nat} (hh : h ≤ cap) : DoV Tryd.prog (Instr.sliceAt 37 (.slice (some ⟨g, 0, none⟩) n cap) none (some (.int .i64 h)) none) w K X = K (.slice (some ⟨g, 0, none⟩) h cap) w := by
  have he := elem_of Ty.SPoint_row
  refine DoV_ok ?_
  rw [run_sliceAt_slice w _ _ _ _ _ (by rw [he]; exact Ty.SPoint_row), run_slice_h w _ _ n cap (by rw [he]; exact Ty.SPoint_row) .i64 h (by omega) (by omega), he, Ty.SPoint_size]
  simp [sliced, addr_add15]
theorem p_lo {w : World} {K : Value → World → Prop} {X : List PanicEntry → World → Prop} {g n cap l : Nat} (hl : l ≤ n) (hc : l < cap) : DoV Tryd.prog (Instr.sliceAt 37 (.slice (some ⟨g, 0, none⟩) n cap) (some (.int .i64 l)) none none) w K X = K (.slice (some ⟨g, l * 2, none⟩) (n - l) (cap - l)) w := by
  have he := elem_of Ty.SPoint_row
  refine DoV_ok ?_
  rw [run_sliceAt_slice w _ _ _ _ _ (by rw [he]; exact Ty.SPoint_row), run_slice_l w _ _ n cap (by rw [he]; exact Ty.SPoint_row) .i64 l (by omega) (by omega), he, Ty.SPoint_size]
  simp [sliced, addr_add15, show ¬ cap = l by omega]
theorem cell_of15 {w : World} {g : Nat} {cur : Array Value} {t : TypeId} (h : At w g (.cells cur t (0, 0))) {o : Nat} {u : Value} (hu : cur.toList[o]? = some u) : w.cell? ⟨g, o, none⟩ = some u := by
  have := has_of_at (w := w) (b := g) (cs := cur.toList) (by simpa using h) o u hu
  simpa using this
theorem p_has {w : World} {g : Nat} {cur : Array Value} {cs : List SPoint} {n : Nat} (h : At w g (.cells cur 31 (0, 0))) (hc : cur.toList.take (n * 2) = fl SPoint.cells cs) (hn : cs.length = n) {j : Nat} (hj : j < cs.length) : Has w g (j * 2) cs[j].cells := by
  intro k u hu
  have h1 := fl_get SPoint.len (l := cs) hj hu
  rw [← hc, List.getElem?_take] at h1
  split at h1
  · exact cell_of15 h h1
  · cases h1
theorem p_set {cur : List Value} {A C : List SPoint} {x y : SPoint} {n k : Nat} (h : cur.take (n * 2) = fl SPoint.cells (A ++ y :: C)) (hA : A.length = k) (hn : (A ++ y :: C).length = n) : (cur.take (k * 2) ++ x.cells ++ cur.drop (k * 2 + 2)).take (n * 2) = fl SPoint.cells (A ++ x :: C) := by
  have hAl : (fl SPoint.cells A).length = k * 2 := by rw [fl_length SPoint.len, hA]
  have hyl := SPoint.len y
  have hxl := SPoint.len x
  have hCl := fl_length SPoint.len C
  simp only [List.length_append, List.length_cons] at hn
  have e : cur = fl SPoint.cells A ++ (y.cells ++ (fl SPoint.cells C ++ cur.drop (n * 2))) := by
    conv => lhs; rw [← List.take_append_drop (n * 2) cur, h, fl_append, fl_cons]
    simp only [List.append_assoc]
  have e1 : cur.take (k * 2) = fl SPoint.cells A := by rw [e, ← hAl]; exact List.take_left
  have e2 : cur.drop (k * 2 + 2) = fl SPoint.cells C ++ cur.drop (n * 2) := by
    conv => lhs; rw [e]
    rw [← List.append_assoc]
    exact List.drop_left' (by rw [List.length_append, hAl, hyl])
  rw [e1, e2, fl_append, fl_cons, ← List.append_assoc]
  rw [List.take_left' (by simp only [List.length_append, hAl, hxl, hCl]; omega)]
  simp only [List.append_assoc]
theorem p_clear {w : World} {K : Value → World → Prop} {X : List PanicEntry → World → Prop} {ty : TypeId} {fs : Array Bool} {g o n c : Nat} {cur : Array Value} (h : At w g (.cells cur 31 (0, 0))) (hn : 0 < n) (hfit : o + n * 2 ≤ cur.size)
    (hk : ∀ w1, Mod (· = g) w w1 → K (.tuple #[]) w1) :
    CallB Tryd.prog .clear #[37] ty fs #[.slice (some ⟨g, o, none⟩) n c] w K X := by
  obtain ⟨z, hzv, hz2, hz1⟩ : ∃ z : Value, (∀ w, (zeroValue 31).run Tryd.prog w = .ok z w) ∧ z.cells.size = 2 ∧ ∀ i, i < 2 → (z.cells[i]!).oneCell' = true :=
    ⟨.agg SPoint.zero.cells.toArray, Ty.SPoint_zero, rfl, fun i hi => by
      match i, hi with
      | 0, _ => rfl
      | 1, _ => rfl⟩
  have hz : (Builtin.zeroCells z.cells n).size = n * 2 := by rw [size_zeroCells, hz2]
  have h1 : ∀ v ∈ (Builtin.zeroCells z.cells n).toList, v.oneCell' = true := by
    intro v hv
    simp only [Builtin.zeroCells, Array.toList_map, List.mem_map] at hv
    obtain ⟨i, _, rfl⟩ := hv
    rw [hz2]
    exact hz1 _ (Nat.mod_lt _ (by decide))
  have hst := run_storeCells_at Tryd.prog g o 31 (Builtin.zeroCells z.cells n).toList 0 cur w h (by simp [hz]; omega) h1
  simp only [Nat.add_zero] at hst
  have e : (builtin .clear #[37] ty fs #[.slice (some ⟨g, o, none⟩) n c]).run Tryd.prog w = .ok (.value (.tuple #[])) (w.setRow g (cur.toList.take o ++ (Builtin.zeroCells z.cells n).toList ++ cur.toList.drop (o + (Builtin.zeroCells z.cells n).toList.length)).toArray) := by
    obtain ⟨m, rfl⟩ : ∃ m, n = m + 1 := ⟨n - 1, by omega⟩
    simp [builtin, Builtin.clear_, run_underlying Ty.SPoint_row, hzv, hst]
  refine callB_ok15 e (hk _ ⟨rfl, rfl, rfl, by simp [World.setRow], fun k hk hne => ?_⟩)
  simp only [World.setRow]
  rw [Array.getElem?_modify, if_neg (fun e => hne e.symm)]
theorem chCompact_ret {base : Nat} {v : Value} {l : List SPoint} (w : World) (hv : SPoint.Owns base w v l) (h2 : 2 ≤ l.length) :
    Ret Tryd.prog 56 #[v] w fun r w' => (∃ a n cap, r = .slice a n cap ∧ (n = l.length ↔ Cha.Apart l)) ∧ Mod (base ≤ ·) w w' := by
  refine ret_of (fun _ _ => sh_slices_Compact___api_Point_api_Point__ok _) fun R hR => ?_
  unfold sh_slices_Compact___api_Point_api_Point_
  have hrow := Sl.of_owns hv
  rcases hv.2 with ⟨rfl, h0⟩ | ⟨g, cap, cur, rfl, hbg, hg, hnc, hcm, hcs, htk⟩
  · omega
  have hg : At w g (.cells cur 31 (0, 0)) := hg
  simp only [maxLen] at hcm
  rw [len_slice Ty.SPoint_row, bin_lss]
  refine Br_i (fun hb => by have := dec_t hb; omega) fun _ => ?_
  refine loop2 (fun x _ W => ∃ k : Nat, 1 ≤ k ∧ k ≤ l.length ∧ x = .int .i64 k ∧ Ext w W ∧ ∀ i (h : i + 1 < l.length), i + 1 < k → l[i] ≠ l[i + 1]) (fun x _ _ => l.length - (intOf x).toNat) ⟨1, by omega, by omega, rfl, Ext.refl _, fun i _ hi => by omega⟩ ?_
  rintro hh _ _ W hx _ ⟨k, hk1, hk, rfl, xW, hap⟩ K hK
  rw [len_slice Ty.SPoint_row, hx, bin_lss]
  refine Br_i (fun hb => ?_) fun hb => ?_
  · have hlt : k < l.length := by have := dec_t hb; omega
    have hrd : ∀ W', Ext w W' → ∀ {j : Nat} (hj : j < l.length), Has W' g (0 + j * 2) l[j].cells := by
      intro W' x j hj
      rw [Nat.zero_add]; exact p_has (hg.ext x) htk rfl hj
    refine draw_ext fun w4 x4 => ?_
    have x14 := xW.trans x4
    refine det_read _ (fun W' x K => p_idx hlt) ?_
    refine det_read _ (fun W' x K => SPoint.g_all (hrd W' (x14.trans x) hlt)) ?_
    refine det_read (.int .i64 ((k - 1 : Nat) : Int)) (fun W' x K => by rw [bin_sub, i64_wrap (by omega) (by omega), show (k : Int) - 1 = ((k - 1 : Nat) : Int) by omega]) ?_
    refine det_read _ (fun W' x K => p_idx (by omega)) ?_
    refine det_read _ (fun W' x K => SPoint.g_all (hrd W' (x14.trans x) (show k - 1 < l.length by omega))) ?_
    intro w5 x5 _
    have x15 := x14.trans x5
    rw [SPoint.eql]
    refine Br_i (fun hb2 => ?_) fun hb2 => ?_
    · have heq := of_decide_eq_true hb2
      have hnot : ¬ Cha.Apart l := fun ha => ha (k - 1) (by omega) (by
        have e : l[k - 1 + 1]'(by omega) = l[k] := by congr 1; omega
        rw [e]; exact heq.symm)
      rw [p_lo (by omega) (by omega)]
      refine loop2 (fun x y W' => ∃ (q i : Nat) (cur' : Array Value) (ps : List SPoint), 1 ≤ q ∧ k + q ≤ l.length ∧ i < k + q ∧ x = .int .i64 i ∧ y = .int .i64 q ∧ Mod (base ≤ ·) w W' ∧ At W' g (.cells cur' 31 (0, 0)) ∧ cur'.size = cap * 2 ∧
          ps.length = l.length ∧ cur'.toList.take (l.length * 2) = fl SPoint.cells ps) (fun _ y _ => l.length - k - (intOf y).toNat)
        ⟨1, k, cur, l, by omega, by omega, by omega, rfl, rfl, .of_ext x15, hg.ext x15, hcs, rfl, htk⟩ ?_
      rintro h3 _ _ W3 hx3 hy3 ⟨q, i, cur3, ps, hq1, hq, hiq, rfl, rfl, m3, hat3, hcs3, hps, htk3⟩ K3 hK3
      rw [len_slice Ty.SPoint_row, hy3, bin_lss]
      refine Br_i (fun hb3 => ?_) fun hb3 => ?_
      · have hlt3 : k + q < l.length := by have := dec_t hb3; omega
        have hrd3 : ∀ W', Ext W3 W' → ∀ {j : Nat} (hj : k + j < ps.length), Has W' g (k * 2 + j * 2) ps[k + j].cells := by
          intro W' x j hj
          have := p_has (hat3.ext x) htk3 hps hj
          rw [Nat.add_mul] at this
          exact this
        refine join1 (fun x W' => ∃ (i : Nat) (cur' : Array Value) (ps : List SPoint), i < k + (q + 1) ∧ x = .int .i64 i ∧ Mod (base ≤ ·) w W' ∧ At W' g (.cells cur' 31 (0, 0)) ∧ cur'.size = cap * 2 ∧
          ps.length = l.length ∧ cur'.toList.take (l.length * 2) = fl SPoint.cells ps) ?_ fun K4 hK4 => ?_
        · rintro h4 _ W4 hx4 ⟨i4, cur4, ps4, g0, rfl, g1, g2, g3, g4, g5⟩
          rw [hx4, bin_add, i64_wrap (by omega) (by omega)]
          exact hK3 _ _ _ ⟨q + 1, i4, cur4, ps4, by omega, by omega, g0, rfl, by simp, g1, g2, g3, g4, g5⟩ (by simp [intOf]; omega)
        refine draw_ext fun w7 x7 => ?_
        refine det_read _ (fun W' x K => p_idx (by omega)) ?_
        refine det_read _ (fun W' x K => SPoint.g_all (hrd3 W' (x7.trans x) (show k + q < ps.length by omega))) ?_
        refine det_read (.int .i64 ((q - 1 : Nat) : Int)) (fun W' x K => by rw [bin_sub, i64_wrap (by omega) (by omega), show (q : Int) - 1 = ((q - 1 : Nat) : Int) by omega]) ?_
        refine det_read _ (fun W' x K => p_idx (by omega)) ?_
        refine det_read _ (fun W' x K => SPoint.g_all (hrd3 W' (x7.trans x) (show k + (q - 1) < ps.length by omega))) ?_
        intro w8 x8 _
        have x78 := x7.trans x8
        have m8 : Mod (base ≤ ·) w w8 := m3.trans (.of_ext x78)
        have hat8 := hat3.ext x78
        rw [SPoint.neq]
        refine Br_i (fun hb4 => ?_) fun hb4 => ?_
        · rw [p_idx (by omega), SPoint.g_all (hrd3 w8 x78 (show k + q < ps.length by omega)), hx3, p_idx (by omega), Nat.zero_add]
          refine store_part (n := 2) (v := .agg (ps[k + q]'(by omega)).cells.toArray) Ty.SPoint_size hat8 (by rw [hcs3]; omega) (by simp [Value.cells, SPoint.len (ps[k + q]'(by omega))]) (fun u hu => SPoint.one (ps[k + q]'(by omega)) u (by simpa [Value.cells] using hu)) fun w10 m10 hat10 _ => ?_
          rw [bin_add, i64_wrap (by omega) (by omega)]
          have hil : i < ps.length := by omega
          have hst := p_set (x := ps[k + q]'(by omega)) (A := ps.take i) (y := ps[i]) (C := ps.drop (i + 1)) (n := l.length) (k := i) (cur := cur3.toList) (by rw [htk3]; congr 1; rw [← List.drop_eq_getElem_cons hil, List.take_append_drop]) (by rw [List.length_take]; omega) (by simp; omega)
          refine hK4 _ _ ⟨i + 1, _, ps.take i ++ ps[k + q]'(by omega) :: ps.drop (i + 1), by omega, by simp, m8.trans (m10.mono fun b _ hb => by rw [hb]; exact hbg), hat10, ?_, by simp; omega, ?_⟩
          · have h7 := SPoint.len (ps[k + q]'(by omega))
            simp [Value.cells, h7, hcs3]; omega
          · simpa [Value.cells] using hst
        · rw [hx3]
          exact hK4 _ _ ⟨i, cur3, ps, by omega, rfl, m8, hat8, hcs3, hps, htk3⟩
      · have hke : k + q = l.length := by have := dec_f hb3; omega
        rw [hx3, p_lo (by omega) (by omega)]
        refine p_clear hat3 (by omega) (by rw [hcs3]; omega) fun w7 m7 => ?_
        rw [p_hi (by omega)]
        refine hR _ _ ⟨⟨_, i, cap, rfl, fun e => by omega, fun ha => absurd ha hnot⟩, m3.trans (m7.mono fun b _ hb => by rw [hb]; exact hbg)⟩
    · have hne := of_decide_eq_false hb2
      rw [bin_add, i64_wrap (by omega) (by omega)]
      refine hK _ _ _ ⟨k + 1, by omega, by omega, by simp, x15, fun j hj hjk => ?_⟩ (by simp [intOf]; omega)
      by_cases h1 : j + 1 < k
      · exact hap j hj h1
      · have e : k = j + 1 := by omega
        subst e
        exact fun e => hne (by simpa using e.symm)
  · have hke : k = l.length := by have := dec_f hb; omega
    exact hR _ _ ⟨⟨_, l.length, cap, rfl, fun _ i hi => hap i hi (by omega), fun _ => rfl⟩, .of_ext xW⟩
end Go.Proofs.YtdfpdfahcbflpabDoor
