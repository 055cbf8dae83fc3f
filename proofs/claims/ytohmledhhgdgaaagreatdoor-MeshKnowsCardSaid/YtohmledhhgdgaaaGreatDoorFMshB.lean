/- Boxes of the parts of one log. -/
import Derived.Test.YtohmledhhgdgaaaGreatDoorFMshU
set_option linter.unusedVariables false
set_option linter.unusedSimpArgs false
namespace Go.Proofs.YtohmledhhgdgaaaGreatDoor
set_option maxRecDepth 100000
set_option maxHeartbeats 16000000
open Sh Go.RowKit
namespace Ty
theorem u16s26 : Tryz.prog.underlying 53 = some (.slice 101) := by kernel_rfl
theorem u16_26 : Tryz.prog.underlying 101 = some (.int .u16) := by kernel_rfl
theorem u16_info26 : (Tryz.prog.info? 101).map (fun i => (i.zero, i.size, i.bytes)) = some (some (.int .u16 0), 1, 2) := by kernel_rfl
theorem u16_agg26 (w : World) : (isAgg 101).run Tryz.prog w = .ok false w := by kernel_rfl
theorem bools26 : Tryz.prog.underlying 55 = some (.slice 4) := by kernel_rfl
theorem bool_info26 : (Tryz.prog.info? 4).map (fun i => (i.zero, i.size, i.bytes)) = some (some (.bool false), 1, 1) := by kernel_rfl
theorem bool_agg26 (w : World) : (isAgg 4).run Tryz.prog w = .ok false w := by kernel_rfl
theorem bool_size26 (w : World) : (sizeOf 4).run Tryz.prog w = .ok 1 w := by kernel_rfl
end Ty
def cutc (n : Nat) : List Value := [.int .u16 (n : Int)]
def CutRow (w : World) (v : Value) (l : List Nat) : Prop := Sl w 1 v l.length (fl cutc l)
def BoolRow (base : Nat) (w : World) (v : Value) (l : List Bool) : Prop := w.ownsRow base 4 1 v l.length (l.map Value.bool)
theorem make_bools {w : World} {K : Value → World → Prop} {X : List PanicEntry → World → Prop} {n : Nat} (hn : n ≤ 1000) (hk : ∀ v w1, BoolRow w.heap.size w1 v (List.replicate n false) → Ext w w1 → K v w1) : DoV Tryz.prog (Instr.makeSlice 55 (.int .i64 n) (.int .i64 n)) w K X := by
  obtain ⟨i, hi, hz, hs, hby⟩ := Ty.info_parts Ty.bool_info26
  obtain ⟨w', hr, ho, hg⟩ := run_makeSlice_full (P := Tryz.prog) (w := w) w.heap.size _ _ i _ 1 Ty.bools26 hi hz hs .i64 .i64 n (by omega) (by rw [hby]; omega) (by simp [maxLen]; omega) (Nat.le_refl _)
  rw [DoV_ok hr]
  refine hk _ _ ?_ ?_
  · unfold BoolRow
    rw [List.length_replicate, List.map_replicate]
    have ho := ho
    rw [show (Value.bool false).cells = #[Value.bool false] from rfl, toList_madeCells_one, Nat.mul_one] at ho
    exact ho
  · exact ((Mod.grown hg).mono (fun k _ h => by cases h) : Mod (w.heap.size ≤ ·) w w').new
theorem map_set_range {n i : Nat} {f : Nat → Bool} {b : Bool} : ((List.range n).map f).set i b = (List.range n).map fun j => if j = i then b else f j := by
  apply List.ext_getElem?
  intro j
  rw [List.getElem?_set, List.length_map, List.length_range, List.getElem?_map, List.getElem?_map]
  by_cases hj : j < n
  · rw [List.getElem?_range hj]
    by_cases e : i = j
    · subst e; simp [hj]
    · simp [e, Ne.symm e]
  · rw [List.getElem?_eq_none (by simpa using hj)]
    by_cases e : i = j
    · subst e; simp [hj]
    · simp [e]
theorem bools_set {base : Nat} {w : World} {K : Value → World → Prop} {X : List PanicEntry → World → Prop} {v : Value} {n j : Nat} {f : Nat → Bool} (h : BoolRow base w v ((List.range n).map f)) (hj : j < n)
    (hk : ∀ w1, BoolRow base w1 v ((List.range n).map fun i => if i = j then true else f i) → Mod (fun k => v.ownBlock = some k) w w1 → K undef w1) :
    DoV Tryz.prog (Instr.indexAt 55 v (.int .i64 j)) w (fun a w1 => DoU Tryz.prog (Instr.storeAt 4 a (.bool true)) w1 K X) X := by
  obtain ⟨i, hi, hz, hs, hby⟩ := Ty.info_parts Ty.bool_info26
  refine own_set (k := .i64) Ty.bools26 hi hs Ty.bool_size26 h (by simpa using hj) rfl fun w1 h1 m1 _ => hk w1 ?_ m1
  rw [← map_set_range]
  unfold BoolRow
  rw [List.length_set, List.map_set]
  exact h1
open Msh in
theorem bval_cuts {L : Rep.Lg} (hv : L.valid = true) (h0 : 0 < L.ents.length) {b1 : Int} (hb : Rep.isID b1 = true) {cs : List Nat} (hc : cs.length ≤ 500) : BVal (b1, cutBox L cs) := by
  refine ⟨hb, Nat.le_trans cutBox_le hc, fun r hr => ?_, ?_⟩
  · obtain ⟨c, i, hm, rfl⟩ := mem_cutBox.1 hr
    obtain ⟨f1, f2⟩ := fst_le (c := c) h0
    obtain ⟨l1, l2⟩ := lst_le (c := c) h0
    exact Rep.made_okR hv f1 l1 l2
  · unfold cutBox
    exact Sorted.merge (by simp [Sorted])
def PartsQ (N : Nat) (L : Rep.Lg) (b1 : Int) (cuts : List Nat) (w : World) (u : Value) (w' : World) : Prop :=
  ∃ (g : SBox) (tv : Value), u = .tuple #[.agg g.cells.toArray, tv, .bool true] ∧ BoxT N w' g (b1, Msh.cutBox L cuts) ∧ BoolRow w.heap.size w' tv ((List.range L.ents.length).map (Msh.cutHas L.ents.length cuts)) ∧ Ext w w'
open Msh in
theorem parts_ret {N : Nat} {s : SLog} {L : Rep.Lg} {b1 : Int} {cv : Value} {cuts : List Nat} (hok : LogOk L) (hv : L.valid = true) (h0 : 0 < L.ents.length) (h40 : L.ents.length ≤ 40) (hb1 : Rep.isID b1 = true) (hc10 : cuts.length ≤ 10) (hcu : ∀ c ∈ cuts, c < 65536)
    (w : World) (h : LogIs w s L) (hcv : CutRow w cv cuts) (hT : Tab w) (hN : N ≤ w.heap.size) : Ret Tryz.prog 25 #[.agg s.cells.toArray, .int .i64 b1, cv] w (PartsQ N L b1 cuts w) := by
  refine ret_of (fun _ _ => sh_landfalllaw26_parts_ok _ _ _) fun R hR => ?_
  unfold sh_landfalllaw26_parts
  refine box_i fun c3 w1 x1 hat3 _ _ => ?_
  refine alloc_i Ty.SBox_zero fun c6 w2 x2 hat6 hb6 _ => ?_
  rw [build_i (new_veh26 _)]
  refine SBox.var fun c9 w3 x3 hat9 hb9 => ?_
  have x03 := (x1.trans x2).trans x3
  have z1 := x1.size
  have z2 := x2.size
  have z3 := x03.size
  have a3 := (hat3.ext x2).ext x3
  have a6 := hat6.ext x3
  have l6 := hat6.lt
  rw [SLog.g_ents (has_of_at a3), SEntry.row_len (Sl.ext h.2.2 x03)]
  refine make_bools (by omega) fun tv w4 htv x4 => ?_
  have x04 := x03.trans x4
  rw [(Sl.ext hcv x04).len Ty.u16s26]
  have hf0 : BoolRow w.heap.size w4 tv ((List.range L.ents.length).map (cutHas L.ents.length (cuts.take 0))) := by
    have e : (List.range L.ents.length).map (cutHas L.ents.length (cuts.take 0)) = List.replicate L.ents.length false := by
      apply List.ext_getElem
      · simp
      · intro i h1 h2; simp [cutHas]
    rw [e]; exact Own.mono htv z3
  refine loop2 (fun _ x W => ∃ (k : Nat) (g : SBox), k ≤ cuts.length ∧ x = .int .i64 k ∧ Ext w W ∧ At W c3 (.cells s.cells.toArray 52 (0, 0)) ∧ At W c6 (.cells SBox.zero.cells.toArray 24 (0, 0)) ∧ At W c9 (.cells g.cells.toArray 24 (0, 0)) ∧
      BoxT N W g (b1, cutBox L (cuts.take k)) ∧ BoolRow w.heap.size W tv ((List.range L.ents.length).map (cutHas L.ents.length (cuts.take k)))) (fun _ x _ => cuts.length - (intOf x).toNat)
    ⟨0, _, by omega, rfl, x04, a3.ext x4, a6.ext x4, hat9.ext x4, BoxT.zero N w4 b1, hf0⟩ ?_
  rintro hh _ _ W _ hx ⟨k, g, hk, rfl, xW, q3, q6, q9, hB, hR9⟩ K hK
  have zW := xW.size
  rw [hx, bin_lss]
  refine Br_i (fun hb => ?_) fun hb => ?_
  · have hlt : k < cuts.length := by have := dec_t hb; omega
    refine join1 (fun _ V => ∃ g' : SBox, Ext w V ∧ At V c3 (.cells s.cells.toArray 52 (0, 0)) ∧ At V c6 (.cells SBox.zero.cells.toArray 24 (0, 0)) ∧ At V c9 (.cells g'.cells.toArray 24 (0, 0)) ∧
      BoxT N V g' (b1, cutBox L (cuts.take (k + 1))) ∧ BoolRow w.heap.size V tv ((List.range L.ents.length).map (cutHas L.ents.length (cuts.take (k + 1))))) ?_ fun K2 hK2 => ?_
    · rintro hh2 _ V _ ⟨g', y1, y2, y3, y4, y5, y6⟩
      rw [bin_add, i64_wrap (by omega) (by omega)]
      exact hK _ _ _ ⟨k + 1, g', by omega, by simp, y1, y2, y3, y4, y5, y6⟩ (by simp [intOf]; omega)
    obtain ⟨ii, hii, hiz, his, _⟩ := Ty.info_parts Ty.u16_info26
    obtain ⟨pb, po, hcell, hpb, hix⟩ := Sl.el (c := cutc) (fun _ => rfl) hcv Ty.u16s26 hii his (k := .i64) hlt (by decide)
    obtain ⟨f1, f2⟩ := fst_le (c := cuts[k]) h0
    obtain ⟨l1, l2⟩ := lst_le (c := cuts[k]) h0
    have hcb := hcu _ (List.getElem_mem hlt)
    rw [hix, load_cell Ty.u16_agg26 (cell_ext (o := po) (hcell 0 _ rfl) hpb xW), conv_int Ty.u16_26 Ty.int, i64_wrap (by omega) (by omega), SLog.g_ents (has_of_at q3), SEntry.row_len (Sl.ext h.2.2 xW), bin_rem (by omega), tmod_nat (by omega), Int.toNat_natCast, bin_add]
    have ef : IntKind.i64.wrap (1 + ((cuts[k] % L.ents.length : Nat) : Int)) = ((fst L.ents.length cuts[k] : Nat) : Int) := by
      have : fst L.ents.length cuts[k] = 1 + cuts[k] % L.ents.length := rfl
      rw [i64_wrap (by omega) (by omega)]; omega
    rw [ef, conv_int Ty.u16_26 Ty.int, i64_wrap (by omega) (by omega), bin_quo (by decide), show ((cuts[k] : Nat) : Int).tdiv 40 = ((cuts[k] / 40 : Nat) : Int) from rfl, i64_wrap (by omega) (by omega), SLog.g_ents (has_of_at q3), SEntry.row_len (Sl.ext h.2.2 xW), bin_add, i64_wrap (by omega) (by omega), bin_sub]
    have ed : IntKind.i64.wrap (((L.ents.length : Nat) : Int) + 1 - ((fst L.ents.length cuts[k] : Nat) : Int)) = ((L.ents.length + 1 - fst L.ents.length cuts[k] : Nat) : Int) := by
      rw [i64_wrap (by omega) (by omega)]; omega
    rw [ed, bin_rem (by omega), tmod_nat (by omega), Int.toNat_natCast, bin_add]
    have el : IntKind.i64.wrap (((fst L.ents.length cuts[k] : Nat) : Int) + ((cuts[k] / 40 % (L.ents.length + 1 - fst L.ents.length cuts[k]) : Nat) : Int)) = ((lst L.ents.length cuts[k] : Nat) : Int) := by
      have : lst L.ents.length cuts[k] = fst L.ents.length cuts[k] + cuts[k] / 40 % (L.ents.length + 1 - fst L.ents.length cuts[k]) := rfl
      rw [i64_wrap (by omega) (by omega)]; omega
    have e7 : IntKind.i64.wrap (7 + ((k : Nat) : Int)) = ((7 + k : Nat) : Int) := by rw [i64_wrap (by omega) (by omega)]; omega
    rw [el, SLog.g_all (has_of_at q3), bin_add, e7]
    have ho : (1 : Nat) ≤ 7 + k ∧ 7 + k < Sig.Q := by
      have : (1000 : Nat) < Sig.Q := by decide
      omega
    have hfI : I64 ((fst L.ents.length cuts[k] : Nat) : Int) := by unfold I64; omega
    refine callF_ret (Make_ret (s := ((5 : Nat) : Int)) hok hfI (by omega) W (h.ext xW) (hT.ext xW)) ?_
    rintro _ u1 ⟨gr, rfl, hr, y1, _⟩
    rw [Rep.makeV_ok hv f1 l1 l2 sm ho] at hr ⊢
    rw [ext2_0, ext2_1]
    refine SReport.var fun c15 u2 y2 hat15 hb15 => ?_
    have y02 := y1.trans y2
    have x02 := xW.trans y02
    rw [SBox.g_all (has_of_at (q9.ext y02)), SReport.g_all (has_of_at hat15)]
    have hokr : RepOk (cutRep L cuts[k] k) := Rep.made_repok hok hfI (by omega) sm ho
    have hokb : ∀ r ∈ cutBox L (cuts.take k), RepOk r := fun r hr => by
      obtain ⟨c, i, hm, rfl⟩ := mem_cutBox.1 hr
      have hi : i < 10 := by
        have := List.mem_zipIdx hm
        rw [List.length_take] at this; omega
      obtain ⟨g1, g2⟩ := fst_le (c := c) h0
      have hQ : (1000 : Nat) < Sig.Q := by decide
      exact Rep.made_repok hok (by unfold I64; omega) (by omega) sm ⟨by omega, by omega⟩
    refine callF_ret (mAdd_t (N := N) (p := 1024) hokr hokb u2 (hB.ext y02) (hr.ext y2) (by have := x02.size; omega) (hT.ext x02)) ?_
    rintro _ u3 ⟨g3, rfl, hB3, y3⟩
    have hright : Rep.checkV (cutRep L cuts[k] k) 1024 = (true, 0) := by
      have := Rep.made_right (L := L) hv f1 l1 l2 sm ho
      rw [pub5] at this
      exact this
    have hadd := (add_ok (b := (b1, cutBox L (cuts.take k))) (bval_cuts hv h0 hb1 (by rw [List.length_take]; omega)) hright (cutBox_step hlt).symm (by have := cutBox_le (L := L) (cuts := cuts.take (k + 1)); rw [List.length_take] at this; omega)).1
    rw [hadd] at hB3 ⊢
    rw [ext3_0, ext3_1, ext3_2]
    refine SBox.var fun c17 u4 y4 hat17 hb17 => ?_
    have y04 := (y02.trans y3).trans y4
    have x04' := xW.trans y04
    refine join0 (fun V => V = u4) ?_ fun K3 hK3 => ?_
    · rintro _ V rfl
      rw [SBox.g_all (has_of_at hat17)]
      have p9 := q9.ext y04
      have l9 := (q9.lt)
      have zy := y04.size
      have zy3 := y3.size
      have hb17' := hb17
      refine SBox.set (r := g) p9 fun u5 m5 hat9' s5 => ?_
      have x05 : Ext w u5 := ext_step x04' m5 (by omega)
      have hB5 := (hB3.ext y4).soft (.box p9 (by omega) m5)
      have r3 := (q3.ext y04).mod m5 (fun e => by have := hat3.lt; omega)
      have r6 := (q6.ext y04).mod m5 (fun e => by omega)
      have rT := Own.mod (Own.ext hR9 y04) m5 (Own.off_at (Own.ext hR9 y04) p9 (by decide))
      let F : Nat → Nat → Bool := fun q j => cutHas L.ents.length (cuts.take k) j || decide (fst L.ents.length cuts[k] ≤ j + 1 ∧ j + 1 < q)
      have hF0 : (List.range L.ents.length).map (cutHas L.ents.length (cuts.take k)) = (List.range L.ents.length).map (F (fst L.ents.length cuts[k])) := List.map_congr_left fun j _ => by
        show _ = (_ || _)
        rw [decide_eq_false (by omega), Bool.or_false]
      have rT : BoolRow w.heap.size u5 tv ((List.range L.ents.length).map (F (fst L.ents.length cuts[k]))) := by rw [← hF0]; exact rT
      refine loop1 (fun x V => ∃ q : Nat, fst L.ents.length cuts[k] ≤ q ∧ q ≤ lst L.ents.length cuts[k] + 1 ∧ x = .int .i64 q ∧ Ext w V ∧ At V c3 (.cells s.cells.toArray 52 (0, 0)) ∧ At V c6 (.cells SBox.zero.cells.toArray 24 (0, 0)) ∧ At V c9 (.cells g3.cells.toArray 24 (0, 0)) ∧
        BoxT N V g3 (b1, cutBox L (cuts.take (k + 1))) ∧ BoolRow w.heap.size V tv ((List.range L.ents.length).map (F q))) (fun x _ => lst L.ents.length cuts[k] + 1 - (intOf x).toNat)
        ⟨_, Nat.le_refl _, by show fst L.ents.length cuts[k] ≤ lst L.ents.length cuts[k] + 1; omega, rfl, x05, r3, r6, hat9', hB5, rT⟩ ?_
      rintro hq _ V hxq ⟨q, q1, q2, rfl, xV, t3, t6, t9, tB, tR⟩ K4 hK4
      have q1 : fst L.ents.length cuts[k] ≤ q := q1
      have q2 : q ≤ lst L.ents.length cuts[k] + 1 := q2
      rw [hxq, bin_leq]
      refine Br_i (fun hb => ?_) fun hb => ?_
      · have hle : q ≤ lst L.ents.length cuts[k] := by have := dec_t hb; omega
        rw [bin_sub, i64_wrap (by omega) (by omega), show ((q : Nat) : Int) - 1 = ((q - 1 : Nat) : Int) by omega]
        refine bools_set (n := L.ents.length) tR (show q - 1 < L.ents.length by omega) fun V2 tR2 m2 => ?_
        rw [bin_add, i64_wrap (by omega) (by omega)]
        have xV2 : Ext w V2 := ((Mod.of_ext xV : Mod (w.heap.size ≤ ·) w V).trans (m2.mono fun b _ hb => (Own.block tR hb).1)).new
        refine hK4 _ _ ⟨q + 1, by omega, by show q + 1 ≤ lst L.ents.length cuts[k] + 1; omega, by simp, xV2, t3.mod m2 (fun e => Own.off_at tR t3 (by decide) c3 e rfl), t6.mod m2 (fun e => Own.off_at tR t6 (by decide) c6 e rfl), t9.mod m2 (fun e => Own.off_at tR t9 (by decide) c9 e rfl), tB.soft (.row tR (by decide) (by decide) hN m2), ?_⟩ (by simp [intOf]; omega)
        have e : (List.range L.ents.length).map (F (q + 1)) = (List.range L.ents.length).map fun i => if i = q - 1 then true else F q i := List.map_congr_left fun j _ => by
          show (_ || _) = if j = q - 1 then true else (_ || _)
          by_cases hj : j = q - 1
          · rw [if_pos hj, decide_eq_true (by omega), Bool.or_true]
          · rw [if_neg hj]
            congr 1
            rw [decide_eq_decide]; omega
        rw [e]; exact tR2
      · have hqe : q = lst L.ents.length cuts[k] + 1 := by have := dec_f hb; omega
        subst hqe
        refine hK2 _ _ ⟨g3, xV, t3, t6, t9, tB, ?_⟩
        have e : (List.range L.ents.length).map (F (lst L.ents.length cuts[k] + 1)) = (List.range L.ents.length).map (cutHas L.ents.length (cuts.take (k + 1))) := List.map_congr_left fun j _ => by
          rw [cutHas_step hlt]
          show (_ || _) = _
          congr 1
          rw [decide_eq_decide]
          show _ ↔ _ ∧ _ ≤ _
          omega
        rw [← e]; exact tR
    refine join1 (fun x V => x = .bool false ∧ V = u4) ?_ fun K4 hK4 => ?_
    · rintro hh2 _ V hx2 ⟨rfl, rfl⟩
      rw [hx2]
      refine Br_i (fun hb => by cases hb) fun _ => hK3 _ rfl
    rw [bin_neq]
    refine gd_n ?_
    rw [bin_neq]
    refine gd_n ?_
    rw [un_not]
    exact hK4 _ _ ⟨rfl, rfl⟩
  · have hke : k = cuts.length := by have := dec_f hb; omega
    subst hke
    rw [List.take_length] at hB hR9
    rw [SBox.g_all (has_of_at q9)]
    refine box_out3 (g := g) q6 fun W' m => hR _ _ ⟨g, tv, rfl, hB.soft (.box q6 (by omega) m), Own.mod hR9 m (Own.off_at hR9 q6 (by decide)), ext_step xW m (by omega)⟩
theorem fl_bool (l : List Bool) : fl (fun b : Bool => [Value.bool b]) l = l.map Value.bool := by
  induction l with
  | nil => rfl
  | cons b l ih => rw [fl_cons, ih]; rfl
theorem cuts_upto {w : World} {v : Value} {l : List Nat} (h : CutRow w v l) {k : Nat} (hk : k ≤ l.length) : ∃ v', CutRow w v' (l.take k) ∧ ∀ (w1 : World) (K : Value → World → Prop) (X : List PanicEntry → World → Prop), DoV Tryz.prog (Instr.sliceAt 53 v none (some (.int .i64 k)) none) w1 K X = K v' w1 := by
  obtain ⟨i, hi, hz, hs, hby⟩ := Ty.info_parts Ty.u16_info26
  obtain ⟨v', h1, h2⟩ := upto_val (k := .i64) Ty.u16s26 hi hs (by decide) h hk
  rw [fl_take (c := cutc) (fun _ => rfl)] at h1
  exact ⟨v', by rw [CutRow, List.length_take, Nat.min_eq_left hk]; exact h1, h2⟩
open Msh in
theorem MeshKnows_ret {s : SLog} {L : Rep.Lg} {z : Int} {cv : Value} {cuts : List Nat} (hok : LogOk L) (hz : 0 ≤ z ∧ z < 256) (hcu : ∀ c ∈ cuts, c < 65536) (w : World) (h : LogIs w s L) (hcv : CutRow w cv cuts) (hT : Tab w) :
    Ret Tryz.prog 7 #[.agg s.cells.toArray, .int .u8 z, cv] w (TrueQ w) := by
  refine ret_of (fun _ _ => sh_landfalllaw26_MeshKnows_ok _ _ _) fun R hR => ?_
  unfold sh_landfalllaw26_MeshKnows
  refine box_i fun c3 w1 x1 hat3 _ _ => ?_
  refine callF_ret (head26_ret w1 (hT.ext x1)) ?_
  rintro _ w2 ⟨rfl, x2⟩
  have x02 := x1.trans x2
  have h3 := hat3.ext x2
  have hle := h.2.2.le
  have hcle := Sl.le hcv
  refine join0 (fun W => Ext w2 W ∧ L.valid = true ∧ 0 < L.ents.length ∧ L.ents.length ≤ 40 ∧ 0 < cuts.length ∧ cuts.length ≤ 10) ?_ fun K hK => ?_
  · rintro _ W ⟨xW, hv, h0, h40, hc0, hc10⟩
    have x0W := x02.trans xW
    have hb1 : Rep.isID (1 + z) = true := by unfold Rep.isID; simp; omega
    rw [SLog.g_all (has_of_at (h3.ext xW)), conv_int Ty.u8 Ty.int, i64_wrap (by omega) (by omega), bin_add, i64_wrap (by omega) (by omega)]
    refine callF_ret (parts_ret (N := W.heap.size) hok hv h0 h40 hb1 hc10 hcu W (h.ext x0W) (Sl.ext hcv x0W) (hT.ext x0W) (Nat.le_refl _)) ?_
    rintro _ w3 ⟨g8, tv, rfl, hB8, hR8, x3⟩
    rw [ext3_0, ext3_1, ext3_2]
    refine SBox.var fun c8 w4 x4 hat8 hb8 => ?_
    have xW4 := x3.trans x4
    have x04 := x0W.trans xW4
    obtain ⟨vc, hvc, hsl⟩ := cuts_upto hcv (k := cuts.length - 1) (by omega)
    refine drawRX fun w5 x5 z5 => ?_
    have x05 := x04.trans x5
    refine det_rx _ (fun V x K => SLog.g_all (has_of_at (((h3.ext xW).ext (xW4.trans x5)).ext x))) ?_
    refine det_rx (.int .i64 z) (fun V x K => by rw [conv_int Ty.u8 Ty.int, i64_wrap (by omega) (by omega)]) ?_
    refine det_rx (.int .i64 (1 + z)) (fun V x K => by rw [bin_add, i64_wrap (by omega) (by omega)]) ?_
    refine det_rx (.int .i64 cuts.length) (fun V x K => (Sl.ext hcv (x05.trans x)).len Ty.u16s26) ?_
    refine det_rx (.int .i64 ((cuts.length - 1 : Nat) : Int)) (fun V x K => by rw [bin_sub, i64_wrap (by omega) (by omega), show ((cuts.length : Nat) : Int) - 1 = ((cuts.length - 1 : Nat) : Int) by omega]) ?_
    refine det_rx vc (fun V x K => hsl V K _) ?_
    refine thr_x (fun vs V => ∃ (v1 v2 v3 : Value) (g : SBox), vs = [v1, v2, .agg g.cells.toArray, v3, .bool true] ∧ BoxT W.heap.size V g (1 + z, cutBox L (cuts.take (cuts.length - 1)))) ?_ ?_
    · refine nd_x (fun v V => ∃ (g : SBox) (tv : Value), v = .tuple #[.agg g.cells.toArray, tv, .bool true] ∧ BoxT W.heap.size V g (1 + z, cutBox L (cuts.take (cuts.length - 1)))) (fun v a b h x => by obtain ⟨g, tv, e, h⟩ := h; exact ⟨g, tv, e, h.ext x⟩) (fun w6 x6 _ => ?_) fun v1 => ?_
      · have x06 := x05.trans x6
        refine callF_ret (parts_ret (N := W.heap.size) hok hv h0 h40 hb1 (by rw [List.length_take]; omega) (fun c hc => hcu c (List.mem_of_mem_take hc)) w6 (h.ext x06) (Sl.ext hvc x06) (hT.ext x06) ((xW4.trans x5).trans x6).size) ?_
        rintro _ w7 ⟨g, tv', rfl, hB, _, x7⟩
        exact ⟨x7, g, tv', rfl, hB⟩
      refine nd_x (fun v V => ∃ (g : SBox) (tv : Value), v = .tuple #[.agg g.cells.toArray, tv, .bool true] ∧ BoxT W.heap.size V g (1 + z, cutBox L (cuts.take (cuts.length - 1)))) (fun v a b h x => by obtain ⟨g, tv, e, h⟩ := h; exact ⟨g, tv, e, h.ext x⟩) (fun w6 x6 h6 => ⟨Ext.refl _, h6⟩) fun v2 => ?_
      refine nd_x (fun v V => ∃ (g : SBox) (tv : Value), v2 = .tuple #[.agg g.cells.toArray, tv, .bool true] ∧ v = .agg g.cells.toArray ∧ BoxT W.heap.size V g (1 + z, cutBox L (cuts.take (cuts.length - 1)))) (fun v a b h x => by obtain ⟨g, tv, e, e', h⟩ := h; exact ⟨g, tv, e, e', h.ext x⟩) (fun w6 x6 h6 => by obtain ⟨g, tv', rfl, hB⟩ := h6; rw [ext3_0]; exact ⟨Ext.refl _, g, tv', rfl, rfl, hB⟩) fun v3 => ?_
      refine nd_x (fun v V => ∃ (g : SBox) (tv : Value), v2 = .tuple #[.agg g.cells.toArray, tv, .bool true] ∧ v3 = .agg g.cells.toArray ∧ BoxT W.heap.size V g (1 + z, cutBox L (cuts.take (cuts.length - 1)))) (fun v a b h x => by obtain ⟨g, tv, e, e', h⟩ := h; exact ⟨g, tv, e, e', h.ext x⟩) (fun w6 x6 h6 => by obtain ⟨g, tv', rfl, rfl, hB⟩ := h6; rw [ext3_1]; exact ⟨Ext.refl _, g, tv', rfl, rfl, hB⟩) fun v4 => ?_
      refine nd_x (fun v V => ∃ (g : SBox), v = .bool true ∧ v3 = .agg g.cells.toArray ∧ BoxT W.heap.size V g (1 + z, cutBox L (cuts.take (cuts.length - 1)))) (fun v a b h x => by obtain ⟨g, e, e', h⟩ := h; exact ⟨g, e, e', h.ext x⟩) (fun w6 x6 h6 => by obtain ⟨g, tv', rfl, rfl, hB⟩ := h6; rw [ext3_2]; exact ⟨Ext.refl _, g, rfl, rfl, hB⟩) fun v5 => ?_
      intro w6 x6 h6
      obtain ⟨g, rfl, rfl, hB⟩ := h6
      exact ⟨v1, v2, v4, g, rfl, hB⟩
    refine thr_x (fun vs V => ∃ c : Nat, vs = [.pointer (some ⟨c, 0, none⟩)] ∧ w5.heap.size ≤ c ∧ At V c (.cells SBox.zero.cells.toArray 24 (0, 0))) ?_ ?_
    · refine nd_x (fun v V => ∃ c : Nat, v = .pointer (some ⟨c, 0, none⟩) ∧ w5.heap.size ≤ c ∧ At V c (.cells SBox.zero.cells.toArray 24 (0, 0))) (fun v a b h x => by obtain ⟨c, e, hc, h⟩ := h; exact ⟨c, e, hc, h.ext x⟩) (fun w6 x6 _ => alloc_i Ty.SBox_zero fun b w7 x7 hat hb _ => ⟨x7, b, rfl, by rw [← hb]; exact x6.size, hat⟩) fun v => ?_
      intro w6 x6 h6
      obtain ⟨c, rfl, hc, hat⟩ := h6
      exact ⟨c, rfl, hc, hat⟩
    rintro hh w6 x6 ⟨_, ⟨_, v1, v2, v3, gf, e1, hBf⟩, c11, e2, hc11, hat11⟩
    simp only [List.cons.injEq, and_true] at e1 e2
    obtain ⟨_, _, e70, _, e72⟩ := e1
    rw [e2, e70, e72]
    have xW6 := (xW4.trans x5).trans x6
    have x06 := x05.trans x6
    have zW := x0W.size
    have zW4 := xW4.size
    have l8 := hat8.lt
    have l3 := (h3.ext xW).lt
    refine SBox.set (r := SBox.zero) hat11 fun w7 m7 hat11' s7 => ?_
    have x07 : Ext w w7 := ext_step x06 m7 (by omega)
    have hS : Soft W.heap.size w6 w7 := .box hat11 (by omega) m7
    have r3 := ((h3.ext xW).ext xW6).mod m7 (fun e => by omega)
    have r8 := (hat8.ext (x5.trans x6)).mod m7 (fun e => by omega)
    have hB8' := (hB8.ext ((x4.trans x5).trans x6)).soft hS
    have hBf' := hBf.soft hS
    have hR8' : BoolRow W.heap.size w7 tv ((List.range L.ents.length).map (cutHas L.ents.length cuts)) := Own.mod (Own.ext hR8 ((x4.trans x5).trans x6)) m7 (Own.off_at (Own.ext hR8 ((x4.trans x5).trans x6)) hat11 (by decide))
    have hQ : (1000 : Nat) < Sig.Q := by decide
    have hokc : ∀ cs : List Nat, cs.length ≤ 10 → ∀ r ∈ cutBox L cs, RepOk r := fun cs hcs r hr => by
      obtain ⟨c, i, hm, rfl⟩ := mem_cutBox.1 hr
      have hi : i < 10 := by
        have := List.mem_zipIdx hm
        omega
      obtain ⟨g1, g2⟩ := fst_le (c := c) h0
      exact Rep.made_repok hok (by unfold I64; omega) (by omega) sm ⟨by omega, by omega⟩
    have kn1 : knownV (1 + z, cutBox L cuts) L.veh = (known L.veh (cutBox L cuts), Rep.carry (Rep.begin L.veh) (known L.veh (cutBox L cuts)), 0) := knownV_ok (bval_cuts hv h0 hb1 (by omega)) (Rep.valid_id hv)
    have kn2 : knownV (1 + z, cutBox L (cuts.take (cuts.length - 1))) L.veh = (known L.veh (cutBox L (cuts.take (cuts.length - 1))), Rep.carry (Rep.begin L.veh) (known L.veh (cutBox L (cuts.take (cuts.length - 1)))), 0) := knownV_ok (bval_cuts hv h0 hb1 (by rw [List.length_take]; omega)) (Rep.valid_id hv)
    rw [SBox.g_all (has_of_at r8), SLog.g_veh (has_of_at r3), h.1]
    refine callF_ret (mKnown_ret (hokc cuts hc10) hok.1 w7 hB8'.is (hT.ext x07)) ?_
    rintro _ w8 ⟨ak, rfl, q8, y8⟩
    rw [ext3_0, ext3_1, ext3_2, SBox.g_all (has_of_at (hat11'.ext y8)), SLog.g_veh (has_of_at (r3.ext y8)), h.1]
    refine callF_ret (mKnown_ret (hokc _ (by rw [List.length_take]; omega)) hok.1 w8 (hBf'.ext y8).is (hT.ext (x07.trans y8))) ?_
    rintro _ w9 ⟨af, rfl, q9, y9⟩
    have x79 := y8.trans y9
    have x09 := x07.trans x79
    rw [ext3_0, ext3_1, ext3_2]
    refine join0 (fun V => V = w9) ?_ fun K2 hK2 => ?_
    · intro _ V hV
      rw [hV]
      clear hV V
      have hbl : ((List.range L.ents.length).map (cutHas L.ents.length cuts)).length = L.ents.length := by simp
      refine loop1 (fun x V => ∃ n : Nat, n ≤ L.ents.length ∧ x = .int .i64 n ∧ V = w9 ∧ ∀ j, j < n → cutHas L.ents.length cuts j = true) (fun x _ => L.ents.length - (intOf x).toNat)
        ⟨0, by omega, rfl, rfl, fun j hj => by omega⟩ ?_
      rintro hq _ V hxq ⟨n, hn, rfl, hV, hpre⟩ K3 hK3
      rw [hV]
      clear hV V
      have rT := Own.ext hR8' x79
      have rS := Sl.of_owns rT
      refine join0 (fun V2 => V2 = w9 ∧ n < L.ents.length ∧ cutHas L.ents.length cuts n = true) ?_ fun K4 hK4 => ?_
      · rintro _ V ⟨hV, hlt, hth⟩
        rw [hV]
        clear hV V
        rw [hxq, bin_add, i64_wrap (by omega) (by omega)]
        exact hK3 _ _ ⟨n + 1, by omega, by simp, rfl, fun j hj => by
          rcases Nat.lt_or_ge j n with hh | hh
          · exact hpre j hh
          · rw [show j = n by omega]; exact hth⟩ (by simp [intOf]; omega)
      rw [rS.len Ty.bools26, hbl, hxq, bin_lss]
      refine Gd_i (fun hb => ?_) fun hb => ?_
      · have hlt : n < L.ents.length := by have := dec_t hb; omega
        obtain ⟨ii, hii, hiz, his, _⟩ := Ty.info_parts Ty.bool_info26
        have rS' := rS
        rw [← fl_bool] at rS'
        obtain ⟨pb, po, hcell, hpb, hix⟩ := Sl.el (c := fun b : Bool => [Value.bool b]) (fun _ => rfl) rS' Ty.bools26 hii his (k := .i64) (j := n) (by rw [hbl]; exact hlt) (by decide)
        rw [hix, load_cell Ty.bool_agg26 (cell_ext (o := po) (hcell 0 _ rfl) hpb (Ext.refl _)), List.getElem_map, List.getElem_range]
        refine Br_i (fun hth => hK4 _ ⟨rfl, hlt, hth⟩) fun hth => ?_
        rw [SLog.g_all (has_of_at (r3.ext x79))]
        refine callF_ret (Chain_ret (last := ((n : Nat) : Int)) hok _ (h.ext (x07.trans x79)) (hT.ext (x07.trans x79))) ?_
        rintro _ V2 ⟨rfl, y2⟩
        have xV2 := y2
        obtain ⟨k1, m, hm, k2⟩ := knows_plain hv h0 cuts (cuts.length - 1) n hn hpre (by intro _; exact hth)
        have hch : Rep.chainV L ((n : Nat) : Int) = (Rep.carry (Rep.begin L.veh) (L.ents.take n), 0) := by unfold Rep.chainV; rw [if_pos ⟨hv, by omega, by omega⟩, Int.toNat_natCast]
        rw [hch, ext2_0, ext2_1]
        refine gd_t ?_
        rw [bin_eql]
        refine gd_e ?_
        rw [kn1, u64_eql]
        refine gd_d (by show Rep.carry _ (Msh.known L.veh (cutBox L cuts)) = _; rw [k1]) ?_
        obtain ⟨va, ha1, ha2⟩ := ents_upto h.2.2 hn
        rw [SLog.g_ents (has_of_at (r3.ext (x79.trans xV2))), ha2]
        have qk : SEntry.Row w8 ak (L.ents.take n) := by have := q8; rw [kn1] at this; rw [← k1]; exact this
        have qf : SEntry.Row w9 af (L.ents.take m) := by have := q9; rw [kn2] at this; rw [← k2]; exact this
        refine callF_ret (SameEntries_ret V2 (Sl.ext qk (y9.trans xV2)) (Sl.ext ha1 (x09.trans xV2))) ?_
        rintro _ V3 ⟨rfl, y3⟩
        refine gd_d rfl ?_
        have xV3 := xV2.trans y3
        have hml : (L.ents.take m).length = m := by rw [List.length_take]; omega
        rw [SEntry.row_len (Sl.ext qf xV3), hml, bin_leq]
        refine gd_d (by omega) ?_
        rw [SEntry.row_len (Sl.ext qf xV3), hml]
        obtain ⟨vb, hb1, hb2⟩ := ents_upto (k := m) qk (by rw [List.length_take]; omega)
        rw [hb2]
        refine callF_ret (SameEntries_ret V3 (Sl.ext qf xV3) (Sl.ext hb1 (y9.trans xV3))) ?_
        rintro _ V4 ⟨rfl, y4⟩
        exact hR _ _ ⟨by rw [decide_eq_true (by rw [List.take_take, Nat.min_eq_left hm])], (x09.trans xV3).trans y4⟩
      · have hne : n = L.ents.length := by have := dec_f hb; omega
        rw [SLog.g_all (has_of_at (r3.ext x79))]
        refine callF_ret (Chain_ret (last := ((n : Nat) : Int)) hok _ (h.ext (x07.trans x79)) (hT.ext (x07.trans x79))) ?_
        rintro _ V2 ⟨rfl, y2⟩
        have xV2 := y2
        obtain ⟨k1, m, hm, k2⟩ := knows_plain hv h0 cuts (cuts.length - 1) n hn hpre (by intro hh; omega)
        have hch : Rep.chainV L ((n : Nat) : Int) = (Rep.carry (Rep.begin L.veh) (L.ents.take n), 0) := by unfold Rep.chainV; rw [if_pos ⟨hv, by omega, by omega⟩, Int.toNat_natCast]
        rw [hch, ext2_0, ext2_1]
        refine gd_t ?_
        rw [bin_eql]
        refine gd_e ?_
        rw [kn1, u64_eql]
        refine gd_d (by show Rep.carry _ (Msh.known L.veh (cutBox L cuts)) = _; rw [k1]) ?_
        obtain ⟨va, ha1, ha2⟩ := ents_upto h.2.2 hn
        rw [SLog.g_ents (has_of_at (r3.ext (x79.trans xV2))), ha2]
        have qk : SEntry.Row w8 ak (L.ents.take n) := by have := q8; rw [kn1] at this; rw [← k1]; exact this
        have qf : SEntry.Row w9 af (L.ents.take m) := by have := q9; rw [kn2] at this; rw [← k2]; exact this
        refine callF_ret (SameEntries_ret V2 (Sl.ext qk (y9.trans xV2)) (Sl.ext ha1 (x09.trans xV2))) ?_
        rintro _ V3 ⟨rfl, y3⟩
        refine gd_d rfl ?_
        have xV3 := xV2.trans y3
        have hml : (L.ents.take m).length = m := by rw [List.length_take]; omega
        rw [SEntry.row_len (Sl.ext qf xV3), hml, bin_leq]
        refine gd_d (by omega) ?_
        rw [SEntry.row_len (Sl.ext qf xV3), hml]
        obtain ⟨vb, hb1, hb2⟩ := ents_upto (k := m) qk (by rw [List.length_take]; omega)
        rw [hb2]
        refine callF_ret (SameEntries_ret V3 (Sl.ext qf xV3) (Sl.ext hb1 (y9.trans xV3))) ?_
        rintro _ V4 ⟨rfl, y4⟩
        exact hR _ _ ⟨by rw [decide_eq_true (by rw [List.take_take, Nat.min_eq_left hm])], (x09.trans xV3).trans y4⟩
    · refine join1 (fun x V => x = .bool false ∧ V = w9) ?_ fun K5 hK5 => ?_
      · rintro hh2 _ V hx2 ⟨rfl, hV⟩
        rw [hx2, hV]
        exact Br_i (fun hb => by cases hb) fun _ => hK2 _ rfl
      rw [un_not]
      refine gd_f ?_
      rw [un_not]
      refine gd_f ?_
      rw [kn1, kn2, bin_neq]
      refine gd_n ?_
      rw [bin_neq]
      exact hK5 _ _ ⟨by rw [decide_eq_true rfl]; rfl, rfl⟩
  · refine join1 (fun x W => ∃ t, x = .bool t ∧ Ext w2 W ∧ (t = false → L.valid = true ∧ 0 < L.ents.length ∧ L.ents.length ≤ 40 ∧ 0 < cuts.length ∧ cuts.length ≤ 10)) ?_ fun K4 hK4 => ?_
    · rintro hh _ W hx ⟨t, rfl, xW, ht⟩
      rw [hx]
      refine Br_i (fun hb => ?_) fun hb => ?_
      · exact hR _ _ ⟨rfl, x02.trans xW⟩
      · exact hK _ ⟨xW, ht hb⟩
    have bad : ∀ W, Ext w2 W → K4 [.bool true] W := fun W xW => hK4 _ _ ⟨true, rfl, xW, fun h => by cases h⟩
    rw [SLog.g_all (has_of_at h3)]
    refine callF_ret (Few_ret w2 (h.ext x02)) ?_
    rintro _ w4 ⟨⟨t4, rfl, f4⟩, x4⟩
    rw [un_not]
    refine Gd_i (fun b4 => ?_) fun _ => bad _ x4
    rw [SLog.g_all (has_of_at (h3.ext x4))]
    refine callF_ret ((h.ext (x02.trans x4)).refValid_ret) ?_
    rintro _ w5 ⟨rfl, x5⟩
    have x25 := x4.trans x5
    have x05 := x02.trans x25
    rw [un_not]
    refine Gd_i (fun b5 => ?_) fun _ => bad _ x25
    rw [SLog.g_ents (has_of_at (h3.ext x25)), SEntry.row_len (Sl.ext h.2.2 x05), bin_eql]
    refine Gd_i (fun b6 => ?_) fun _ => bad _ x25
    rw [(Sl.ext hcv x05).len Ty.u16s26, bin_eql]
    refine Gd_i (fun b7 => ?_) fun _ => bad _ x25
    rw [(Sl.ext hcv x05).len Ty.u16s26, bin_gtr]
    refine hK4 _ _ ⟨_, rfl, x25, fun hf => ⟨b_nt b5, ?_, f4 (b_nt b4), ?_, ?_⟩⟩
    · have := dec_f b6; omega
    · have := dec_f b7; omega
    · have := dec_f hf; omega
end Go.Proofs.YtohmledhhgdgaaaGreatDoor
