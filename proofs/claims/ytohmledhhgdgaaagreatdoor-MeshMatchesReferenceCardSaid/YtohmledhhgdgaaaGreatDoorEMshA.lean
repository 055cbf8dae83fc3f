/- Boxes of reports: Add and Merge, the plain law; the reference's Add and Merge. -/
import Derived.Test.YtohmledhhgdgaaaGreatDoorEMshY
set_option linter.unusedVariables false
set_option linter.unusedSimpArgs false
namespace Go.Proofs.YtohmledhhgdgaaaGreatDoor
set_option maxRecDepth 100000
set_option maxHeartbeats 8000000
open Sh Go.RowKit
noncomputable def addV (b : Int × List Rep.Rpt) (r : Rep.Rpt) (p : Int) : (Int × List Rep.Rpt) × Bool × Int :=
  if bvalid b = false then ((0, []), false, 1) else if (Rep.checkV r p).2 ≠ 0 then ((0, []), false, (Rep.checkV r p).2) else if (Rep.checkV r p).1 = false then (b, false, 0)
  else if 500 < (Msh.put b.2 r).length then ((0, []), false, 2) else ((b.1, Msh.put b.2 r), true, 0)
noncomputable def mergeV (a b : Int × List Rep.Rpt) : (Int × List Rep.Rpt) × Int :=
  if bvalid a = false ∨ bvalid b = false then ((0, []), 1) else if 500 < (Msh.merge a.2 b.2).length then ((0, []), 2) else ((a.1, Msh.merge a.2 b.2), 0)
def LiveB (B : Nat → Prop) (w : World) (g : SBox) (b : Int × List Rep.Rpt) : Prop := g.veh = b.1 ∧ LiveR B w g.reps.val b.2
section live
variable {B B' : Nat → Prop} {w w0 W : World} {v : Value} {s : SReport} {g : SBox} {b : Int × List Rep.Rpt} {r : Rep.Rpt} {l : List Rep.Rpt}
theorem LiveB.is (h : LiveB B w g b) : BoxIs w g b := ⟨h.1, h.2.is⟩
theorem LiveB.mod (h : LiveB B w g b) (m : Mod B w W) : LiveB B W g b := ⟨h.1, h.2.mod m⟩
theorem LiveB.ext (h : LiveB B w g b) (x : Ext w W) : LiveB B W g b := ⟨h.1, h.2.ext x⟩
theorem wide_mod (x : Ext w W) (hB : ∀ k, B' k → B k ∨ w.heap.size ≤ k) {W' : World} (m : Mod B' W W') : Mod B w W' :=
  (Mod.of_ext x : Mod B w W).comp m (fun _ _ h => h) fun k hk h => (hB k h).elim id fun e => by omega
theorem LiveS.wide (h : LiveS B w s r) (x : Ext w W) (hB : ∀ k, B' k → B k ∨ w.heap.size ≤ k) : LiveS B' W s r := fun W' m => h W' (wide_mod x hB m)
theorem LiveR.wide (h : LiveR B w v l) (x : Ext w W) (hB : ∀ k, B' k → B k ∨ w.heap.size ≤ k) : LiveR B' W v l := by
  obtain ⟨ss, h1, h2, h3⟩ := h
  exact ⟨ss, fun W' m => h1 W' (wide_mod x hB m), h2, fun i s r e1 e2 => (h3 i s r e1 e2).wide x hB⟩
theorem LiveR.sub (h : LiveR B' w v l) (hB : ∀ k, B k → B' k) : LiveR B w v l := by
  obtain ⟨ss, h1, h2, h3⟩ := h
  exact ⟨ss, fun W' m => h1 W' (m.mono fun k _ => hB k), h2, fun i s r e1 e2 W' m => h3 i s r e1 e2 W' (m.mono fun k _ => hB k)⟩
theorem LiveR.nil (B : Nat → Prop) (w : World) : LiveR B w (.slice none 0 0) [] := ⟨[], fun W _ => SReport.row_nil W, RepsL.nil⟩
theorem LiveB.zero (B : Nat → Prop) (w : World) : LiveB B w SBox.zero (0, []) := ⟨rfl, LiveR.nil B w⟩
end live
theorem LiveR.hdr {B : Nat → Prop} {w : World} {v : Value} {l : List Rep.Rpt} (h : LiveR B w v l) : ∃ d : Hdr, v = d.val := by
  obtain ⟨ss, h1, _⟩ := h
  exact Hdr.of_sl (h1 w (Mod.refl _ _))
def AddQ (B : Nat → Prop) (b : Int × List Rep.Rpt) (r : Rep.Rpt) (p : Int) (w : World) (u : Value) (w' : World) : Prop := ∃ g : SBox, u = .tuple #[.agg g.cells.toArray, .bool (addV b r p).2.1, .int .i64 (addV b r p).2.2] ∧ LiveB B w' g (addV b r p).1 ∧ Ext w w'
def MergeQ (B : Nat → Prop) (a b : Int × List Rep.Rpt) (w : World) (u : Value) (w' : World) : Prop := ∃ g : SBox, u = .tuple #[.agg g.cells.toArray, .int .i64 (mergeV a b).2] ∧ LiveB B w' g (mergeV a b).1 ∧ Ext w w'
theorem new_nobox : Tryz.prog.built 24 [] = some SBox.zero.cells.toArray := by kernel_rfl
theorem box_out3 {g r : SBox} {b : Nat} {w : World} {x y : Value} {R : Ending → World → Prop} {X : List PanicEntry → World → Prop} (hat : At w b (.cells r.cells.toArray 24 (0, 0))) (hR : ∀ w', Mod (· = b) w w' → R (.returned (.tuple #[.agg g.cells.toArray, x, y])) w') :
    DoU Tryz.prog (Instr.storeAt 24 (.pointer (some ⟨b, 0, none⟩)) (.agg g.cells.toArray)) w (fun _ w8 => Res Tryz.prog [.cell (.pointer (some ⟨b, 0, none⟩)) 24, .tmp x, .tmp y] w8 R) X := by
  refine SBox.set (s := g) hat fun w2 m2 h2 _ => ?_
  have hvv : (loadVar 24 ⟨b, 0, none⟩).run Tryz.prog w2 = .ok (.agg g.cells.toArray) w2 := loadVar_agg Ty.SBox_agg Ty.SBox_size (xs := g.cells) rfl (has_of_at h2)
  exact res_i (rv_cell hvv (rv_tmp (rv_tmp (rv_nil w2)))) (hR _ m2)
theorem box_out2 {g r : SBox} {b : Nat} {w : World} {x : Value} {R : Ending → World → Prop} {X : List PanicEntry → World → Prop} (hat : At w b (.cells r.cells.toArray 24 (0, 0))) (hR : ∀ w', Mod (· = b) w w' → R (.returned (.tuple #[.agg g.cells.toArray, x])) w') :
    DoU Tryz.prog (Instr.storeAt 24 (.pointer (some ⟨b, 0, none⟩)) (.agg g.cells.toArray)) w (fun _ w8 => Res Tryz.prog [.cell (.pointer (some ⟨b, 0, none⟩)) 24, .tmp x] w8 R) X := by
  refine SBox.set (s := g) hat fun w2 m2 h2 _ => ?_
  have hvv : (loadVar 24 ⟨b, 0, none⟩).run Tryz.prog w2 = .ok (.agg g.cells.toArray) w2 := loadVar_agg Ty.SBox_agg Ty.SBox_size (xs := g.cells) rfl (has_of_at h2)
  exact res_i (rv_cell hvv (rv_tmp (rv_nil w2))) (hR _ m2)
theorem refAdd_ret26 {B : Nat → Prop} {s : SBox} {t : SReport} {b : Int × List Rep.Rpt} {r : Rep.Rpt} {p : Int} (hokr : RepOk r) (w : World) (hv : LiveB B w s b) (ht : LiveS B w t r) (hB : ∀ k, B k → k < w.heap.size) :
    Ret Tryz.prog 12 #[.agg s.cells.toArray, .agg t.cells.toArray, .int .i64 p] w (AddQ B b r p w) := by
  refine ret_of (fun _ _ => sh_landfallref26_Add_ok _ _ _) fun R hR => ?_
  unfold sh_landfallref26_Add
  refine box_i fun b3 w1 x1 hat3 hb3 _ => ?_
  refine box_i fun b4 w2 x2 hat4 hb4 _ => ?_
  refine alloc_i Ty.SBox_zero fun b6 w3 x3 hat6 hb6 _ => ?_
  have x03 := (x1.trans x2).trans x3
  have h3 := (At.ext hat3 x2).ext x3
  have h4 := At.ext hat4 x3
  have z1 := x1.size
  have z2 := x2.size
  have z3 := x3.size
  have l3 := h3.lt
  have l6 := hat6.lt
  -- what is given out
  have out : ∀ {W W' : World} {g : SBox} {f : Bool} {e : Int}, Ext w W → Mod (· = b6) W W' → (addV b r p).2.1 = f → (addV b r p).2.2 = e → LiveB B W' g (addV b r p).1 → R (.returned (.tuple #[.agg g.cells.toArray, .bool f, .int .i64 e])) W' := fun xW m e1 e2 hl => hR _ _ ⟨_, by rw [e1, e2], hl, ext_step xW m (by omega)⟩
  rw [SBox.g_all (has_of_at h3)]
  refine callF_ret (refBoxValid_ret w3 (hv.is.ext x03)) ?_
  rintro _ w4 ⟨rfl, x4⟩
  have x04 := x03.trans x4
  rw [un_not]
  refine Br_i (fun hb => ?_) fun hb => ?_
  · have hb : bvalid b = false := by simpa using hb
    have e : addV b r p = ((0, []), false, 1) := by unfold addV; rw [if_pos hb]
    rw [build_i new_nobox]
    exact box_out3 (g := SBox.zero) (hat6.ext x4) fun w' m => out x04 m (by rw [e]) (by rw [e]) (by rw [e]; exact LiveB.zero _ _)
  have hbv : bvalid b = true := by simpa using hb
  have hV := bvalid_iff.1 hbv
  rw [SReport.g_all (has_of_at (h4.ext x4))]
  refine callF_ret (refCheck_ret (p := p) hokr w4 (ht.is.ext x04)) ?_
  rintro _ w5 ⟨rfl, x5⟩
  have x05 := x04.trans x5
  have x35 := x4.trans x5
  rw [ext2_0, ext2_1, bin_neq]
  refine Br_i (fun hb => ?_) fun hb => ?_
  · have hne : (Rep.checkV r p).2 ≠ 0 := by simpa using hb
    have e : addV b r p = ((0, []), false, (Rep.checkV r p).2) := by unfold addV; rw [if_neg (by rw [hbv]; decide), if_pos hne]
    rw [build_i new_nobox]
    exact box_out3 (g := SBox.zero) (hat6.ext x35) fun w' m => out x05 m (by rw [e]) (by rw [e]) (by rw [e]; exact LiveB.zero _ _)
  have h0 : (Rep.checkV r p).2 = 0 := by simpa using hb
  rw [un_not]
  refine Br_i (fun hb => ?_) fun hb => ?_
  · have hr0 : (Rep.checkV r p).1 = false := by simpa using hb
    have e : addV b r p = (b, false, 0) := by unfold addV; rw [if_neg (by rw [hbv]; decide), if_neg (by rw [h0]; decide), if_pos hr0]
    rw [SBox.g_all (has_of_at (h3.ext x35))]
    refine box_out3 (g := s) (hat6.ext x35) fun w' m => out x05 m (by rw [e]) (by rw [e]) ?_
    rw [e]; exact hv.ext (ext_step x05 m (by omega))
  have hr1 : (Rep.checkV r p).1 = true := by simpa using hb
  have hokR : Rep.okR r = true := by
    cases h : Rep.okR r with
    | true => rfl
    | false => rw [Rep.check_bad h] at hr1; cases hr1
  let B' : Nat → Prop := fun k => B k ∨ k = b3 ∨ k = b6
  have hB' : ∀ k, B' k → B k ∨ w.heap.size ≤ k := fun k h => h.imp id fun h => by rcases h with h | h <;> omega
  have z5 := x05.size
  have z35 := x35.size
  have hBl : ∀ k, B' k → k < w5.heap.size := fun k h => by
    rcases h with h | h | h
    · have := hB k h; omega
    · omega
    · omega
  rw [SBox.g_reps (has_of_at (h3.ext x35)), SReport.g_all (has_of_at (h4.ext x35))]
  refine callF_ret (refPut_ret (B := B') hV.2.2.2 (by have := hV.2.1; omega) (fun x hx => okR_few (hV.2.2.1 x hx)) (okR_few hokR) w5 (hv.2.wide x05 hB') (ht.wide x05 hB') hBl) ?_
  rintro u w6 ⟨hu, x6⟩
  obtain ⟨d, rfl⟩ := hu.hdr
  have x36 := x35.trans x6
  refine SBox.s_reps (h3.ext x36) fun w7 m7 hat7 _ => ?_
  have x07 : Ext w w7 := ext_step (x05.trans x6) m7 (by omega)
  have hu7 := hu.mod (m7.mono fun k _ h => .inr (.inl h))
  have hat67 := (hat6.ext x36).mod m7 (by omega)
  rw [SBox.g_reps (has_of_at hat7), hu7.is.len, bin_gtr]
  refine Br_i (fun hb => ?_) fun hb => ?_
  · have hg := dec_t hb
    have e : addV b r p = ((0, []), false, 2) := by unfold addV; rw [if_neg (by rw [hbv]; decide), if_neg (by rw [h0]; decide), if_neg (by rw [hr1]; decide), if_pos (by omega)]
    rw [build_i new_nobox]
    exact box_out3 (g := SBox.zero) hat67 fun w' m => out x07 m (by rw [e]) (by rw [e]) (by rw [e]; exact LiveB.zero _ _)
  · have hg := dec_f hb
    have e : addV b r p = ((b.1, Msh.put b.2 r), true, 0) := by unfold addV; rw [if_neg (by rw [hbv]; decide), if_neg (by rw [h0]; decide), if_neg (by rw [hr1]; decide), if_neg (by omega)]
    rw [SBox.g_all (s := { s with reps := d }) (has_of_at hat7)]
    refine box_out3 (g := { s with reps := d }) hat67 fun w' m => out x07 m (by rw [e]) (by rw [e]) ?_
    rw [e]
    exact ⟨hv.1, (hu7.mod (m.mono fun k _ h => .inr (.inr h))).sub fun k h => .inl h⟩
theorem merge_take {a b : List Rep.Rpt} {k : Nat} (h : k < b.length) : Msh.merge a (b.take (k + 1)) = Msh.put (Msh.merge a (b.take k)) b[k] := by
  unfold Msh.merge
  rw [List.take_succ_eq_append_getElem h, List.foldl_append]; rfl
theorem refMerge_ret26 {B : Nat → Prop} {s t : SBox} {a b : Int × List Rep.Rpt} (w : World) (ha : LiveB B w s a) (hb : LiveB B w t b) (hB : ∀ k, B k → k < w.heap.size) :
    Ret Tryz.prog 17 #[.agg s.cells.toArray, .agg t.cells.toArray] w (MergeQ B a b w) := by
  refine ret_of (fun _ _ => sh_landfallref26_Merge_ok _ _) fun R hR => ?_
  unfold sh_landfallref26_Merge
  refine box_i fun b2 w1 x1 hat2 hb2 _ => ?_
  refine box_i fun b3 w2 x2 hat3 hb3 _ => ?_
  refine alloc_i Ty.SBox_zero fun b4 w3 x3 hat4 hb4 _ => ?_
  have x03 := (x1.trans x2).trans x3
  have h2 := (At.ext hat2 x2).ext x3
  have h3 := At.ext hat3 x3
  have z1 := x1.size
  have z2 := x2.size
  have z3 := x3.size
  have l2 := At.lt hat2
  have l3 := h3.lt
  have l4 := hat4.lt
  have out : ∀ {W W' : World} {g : SBox} {e : Int}, Ext w W → Mod (· = b4) W W' → (mergeV a b).2 = e → LiveB B W' g (mergeV a b).1 → R (.returned (.tuple #[.agg g.cells.toArray, .int .i64 e])) W' := fun xW m e1 hl => hR _ _ ⟨_, by rw [e1], hl, ext_step xW m (by omega)⟩
  rw [SBox.g_all (has_of_at h2)]
  refine callF_ret (refBoxValid_ret w3 (ha.is.ext x03)) ?_
  rintro _ w4 ⟨rfl, x4⟩
  rw [SBox.g_all (has_of_at (h3.ext x4))]
  refine callF_ret (refBoxValid_ret w4 (hb.is.ext (x03.trans x4))) ?_
  rintro _ w5 ⟨rfl, x5⟩
  have x35 := x4.trans x5
  have x05 := x03.trans x35
  have z35 := x35.size
  have bad : (bvalid a = false ∨ bvalid b = false) → ∀ X1 X2 : List PanicEntry → World → Prop, DoV Tryz.prog (Instr.build 24 #[]) w5 (fun t13 w13 => DoU Tryz.prog (Instr.storeAt 24 (.pointer (some ⟨b4, 0, none⟩)) t13) w13 (fun _ w14 => Res Tryz.prog [.cell (.pointer (some ⟨b4, 0, none⟩)) 24, .tmp (.int .i64 1)] w14 R) X1) X2 := fun h X1 X2 => by
    have e : mergeV a b = ((0, []), 1) := by unfold mergeV; rw [if_pos h]
    rw [build_i new_nobox]
    exact box_out2 (g := SBox.zero) (hat4.ext x35) fun w' m => out x05 m (by rw [e]) (by rw [e]; exact LiveB.zero _ _)
  refine join0 (fun W => W = w5 ∧ bvalid a = true ∧ bvalid b = true) ?_ fun K hK => ?_
  · rintro _ W ⟨rfl, va, vb⟩
    have hVa := bvalid_iff.1 va
    have hVb := bvalid_iff.1 vb
    let B' : Nat → Prop := fun k => B k ∨ k = b2 ∨ k = b4
    have hB' : ∀ k, B' k → B k ∨ w.heap.size ≤ k := fun k h => h.imp id fun h => by rcases h with h | h <;> omega
    have hlb := hb.2.is.le
    have hn : ∀ k, (Msh.merge a.2 (b.2.take k)).length ≤ 1000 := fun k => by
      have := Msh.merge_le (a := a.2) (b := b.2.take k)
      have := hVa.2.1
      have := hVb.2.1
      rw [List.length_take] at *
      omega
    have hok : ∀ k, ∀ x ∈ Msh.merge a.2 (b.2.take k), Rep.okR x = true := fun k x hx => (Msh.mem_merge.1 hx).elim (hVa.2.2.1 x) fun h => hVb.2.2.1 x (List.mem_of_mem_take h)
    refine loop1 (fun x W' => ∃ (k : Nat) (d : Hdr), k ≤ b.2.length ∧ x = .int .i64 k ∧ Ext w W' ∧ At W' b2 (.cells ({ s with reps := d } : SBox).cells.toArray 24 (0, 0)) ∧ At W' b3 (.cells t.cells.toArray 24 (0, 0)) ∧ At W' b4 (.cells SBox.zero.cells.toArray 24 (0, 0)) ∧ LiveR B' W' d.val (Msh.merge a.2 (b.2.take k)))
      (fun x _ => b.2.length - (intOf x).toNat) ⟨0, s.reps, by omega, rfl, x05, h2.ext x35, h3.ext x35, hat4.ext x35, by rw [List.take_zero]; exact ha.2.wide x05 hB'⟩ ?_
    rintro hh _ W hx ⟨k, d, hk, rfl, xW, g2, g3, g4, hd⟩ K2 hK2
    have hbW := hb.ext xW
    rw [hx, SBox.g_reps (has_of_at g3), hbW.2.is.len, bin_lss]
    refine Br_i (fun hbr => ?_) fun hbr => ?_
    · have hlt : k < b.2.length := by have := dec_t hbr; omega
      obtain ⟨ss, hrow, hof⟩ := id hb.2
      have hks : k < ss.length := by have := hof.1; omega
      obtain ⟨p1, q1, hh1, _, hix1⟩ := SReport.row_at (hrow w (Mod.refl _ _)) hks
      have hl1 : LiveS B w ss[k] b.2[k] := hof.2 k _ _ (List.getElem?_eq_getElem hks) (List.getElem?_eq_getElem hlt)
      refine draw_ext fun w6 x6 => ?_
      have x06 := xW.trans x6
      refine det_read _ (fun W' x K => Ty.SBox_f1) ?_
      refine det_read d.val (fun W' x K => load_cell (fun w => show (isAgg 22).run Tryz.prog w = .ok false w by kernel_rfl) (has_at (has_of_at ((g2.ext x6).ext x)) (d := 1) rfl rfl)) ?_
      refine det_read _ (fun W' x K => Ty.SBox_f1) ?_
      refine det_read t.reps.val (fun W' x K => load_cell (fun w => show (isAgg 22).run Tryz.prog w = .ok false w by kernel_rfl) (has_at (has_of_at ((g3.ext x6).ext x)) (d := 1) rfl rfl)) ?_
      refine det_read _ (fun W' x K => hix1 W' K _) ?_
      refine det_read _ (fun W' x K => SReport.g_all (hh1 W' (x06.trans x))) ?_
      intro w7 x7 _
      have x07 := x06.trans x7
      have xW7 := x6.trans x7
      have zW7 := (xW.trans xW7).size
      have q2 := g2.ext xW7
      have q4 := g4.ext xW7
      have lq2 := q2.lt
      have lq4 := q4.lt
      have hBl : ∀ k, B' k → k < w7.heap.size := fun k h => by
        rcases h with h | h | h
        · have := hB k h; omega
        · omega
        · omega
      refine callF_ret (refPut_ret (B := B') hVa.2.2.2.merge (by have := hn k; omega) (fun x hx => okR_few (hok k x hx)) (okR_few (hVb.2.2.1 _ (List.getElem_mem hlt))) w7 (hd.ext xW7) (hl1.wide x07 hB') hBl) ?_
      rintro u w8 ⟨hu, x8⟩
      obtain ⟨d2, rfl⟩ := hu.hdr
      refine SBox.s_reps (q2.ext x8) fun w9 m9 hat9 _ => ?_
      rw [bin_add, i64_wrap (by omega) (by omega)]
      refine hK2 _ _ ⟨k + 1, d2, by omega, by simp, ext_step (x07.trans x8) m9 (by omega), hat9, ((g3.ext xW7).ext x8).mod m9 (by omega), (q4.ext x8).mod m9 (by omega), ?_⟩ (by simp [intOf]; omega)
      rw [merge_take hlt]
      exact hu.mod (m9.mono fun k _ h => .inr (.inl h))
    · have hge : b.2.length ≤ k := by have := dec_f hbr; omega
      rw [List.take_of_length_le hge] at hd
      have nb : ¬ (bvalid a = false ∨ bvalid b = false) := by rw [va, vb]; simp
      rw [SBox.g_reps (has_of_at g2), hd.is.len, bin_gtr]
      refine Br_i (fun hg => ?_) fun hg => ?_
      · have hg := dec_t hg
        have e : mergeV a b = ((0, []), 2) := by unfold mergeV; rw [if_neg nb, if_pos (by omega)]
        rw [build_i new_nobox]
        exact box_out2 (g := SBox.zero) g4 fun w' m => out xW m (by rw [e]) (by rw [e]; exact LiveB.zero _ _)
      · have hg := dec_f hg
        have e : mergeV a b = ((a.1, Msh.merge a.2 b.2), 0) := by unfold mergeV; rw [if_neg nb, if_neg (by omega)]
        rw [SBox.g_all (s := { s with reps := d }) (has_of_at g2)]
        refine box_out2 (g := { s with reps := d }) g4 fun w' m => out xW m (by rw [e]) ?_
        rw [e]
        exact ⟨ha.1, (hd.mod (m.mono fun k _ h => .inr (.inr h))).sub fun k h => .inl h⟩
  · refine join_in fun K3 hK3 => ?_
    rw [un_not]
    refine Gd_i (fun hbi => ?_) fun hbi => leaf1 hK3 fun hh he => by
      rw [he]
      exact br_t (bad (.inl (by simpa using hbi)) _ _)
    rw [un_not]
    refine leaf1 hK3 fun hh he => ?_
    rw [he]
    exact Br_i (fun hbj => bad (.inr (by simpa using hbj)) _ _) fun hbj => hK _ ⟨rfl, by simpa using hbi, by simpa using hbj⟩
end Go.Proofs.YtohmledhhgdgaaaGreatDoor
