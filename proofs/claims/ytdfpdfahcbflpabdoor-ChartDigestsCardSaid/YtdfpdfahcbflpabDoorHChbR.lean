/- A chart in which one number is another one. -/
import Derived.Test.YtdfpdfahcbflpabDoorHChbQ
set_option linter.unusedVariables false
set_option linter.unusedSimpArgs false
namespace Go.Proofs.YtdfpdfahcbflpabDoor
set_option maxRecDepth 100000
set_option maxHeartbeats 16000000
open Sh Go.RowKit
theorem own_has {α : Type} {c : α → List Value} {w : World} {base sz k g n cap : Nat} {e : TypeId} {l : List α} (hc : ∀ a, (c a).length = sz) (h : w.ownsRow base e sz (.slice (some ⟨g, 0, none⟩) n cap) l.length (fl c l)) (hk : k < l.length) : Has w g (k * sz) (c l[k]) := by
  obtain ⟨h1, h2⟩ := h
  rcases h2 with ⟨h, _⟩ | ⟨g', cap', cur, hv, hb, hg, hn, hcm, hcs, htk⟩
  · cases h
  · injection hv with hv1 hv2 hv3
    injection hv1 with hv1; injection hv1 with hv1
    subst hv1
    intro j u hu
    have h1 := fl_get hc (l := l) hk hu
    rw [← htk, List.getElem?_take] at h1
    split at h1
    · exact cell_of15 (show At w g (.cells cur e (0, 0)) from hg) h1
    · cases h1
namespace Cha
theorem void_turned (v : Bool) : Dig.Turned (if v then 1 else 0) (if !v then 1 else 0) := by
  cases v
  · exact .inl (by decide)
  · exact .inl (by decide)
theorem one_cells {C : Cht} {k : Nat} (hk : k < C.cells.length) {a : SCell} (h : One (cellInts C.cells[k]) (cellInts a)) : One (ints C) (ints { C with cells := C.cells.set k a }) := by
  unfold ints
  simp only [List.length_set]
  have := (h.flat hk).mid [C.ver, C.x, C.y, C.w, C.h, C.size, (C.cells.length : Int)] ([(C.beacons.length : Int)] ++ C.beacons.flatMap beaconInts ++ [(C.lines.length : Int)] ++ C.lines.flatMap lineInts)
  simpa only [List.append_assoc] using this
theorem one_beacons {C : Cht} {k : Nat} (hk : k < C.beacons.length) {a : SBeacon} (h : One (beaconInts C.beacons[k]) (beaconInts a)) : One (ints C) (ints { C with beacons := C.beacons.set k a }) := by
  unfold ints
  simp only [List.length_set]
  have := (h.flat hk).mid ([C.ver, C.x, C.y, C.w, C.h, C.size, (C.cells.length : Int)] ++ C.cells.flatMap cellInts ++ [(C.beacons.length : Int)]) ([(C.lines.length : Int)] ++ C.lines.flatMap lineInts)
  simpa only [List.append_assoc] using this
theorem one_lines {C : Cht} {k : Nat} (hk : k < C.lines.length) {a : Line} (h : One (lineInts C.lines[k]) (lineInts a)) : One (ints C) (ints { C with lines := C.lines.set k a }) := by
  unfold ints
  simp only [List.length_set]
  have := (h.flat hk).mid ([C.ver, C.x, C.y, C.w, C.h, C.size, (C.cells.length : Int)] ++ C.cells.flatMap cellInts ++ [(C.beacons.length : Int)] ++ C.beacons.flatMap beaconInts ++ [(C.lines.length : Int)]) []
  simpa only [List.append_assoc, List.append_nil] using this
theorem mem_set {α : Type} {l : List α} {k : Nat} {a b : α} (h : b ∈ l.set k a) : b ∈ l ∨ b = a := List.mem_or_eq_of_mem_set h
end Cha
def ChgQ (w : World) (b8 : Nat) (C : Cht) (g : Nat) (W : World) : Prop :=
  ∃ (t : SChart) (D : Cht), Mod (w.heap.size ≤ ·) w W ∧ At W g (.cells t.cells.toArray 26 (0, 0)) ∧ At W b8 (.cells SChart.zero.cells.toArray 26 (0, 0)) ∧ (∀ W', Mod (· = b8) W W' → ChartIs W' t D) ∧ ChartOk D ∧ Cha.SizeP D ∧ Cha.One (Cha.ints C) (Cha.ints D)
theorem bin_rem8 {w : World} {K : Value → World → Prop} {X : List PanicEntry → World → Prop} {t : TypeId} {ox oy : Operand} {a : Int} : DoV Tryd.prog (binS .rem t ox oy (.int .u8 a) (.int .u8 6)) w K X = K (.int .u8 (a.tmod 6)) w := bin_rem (by decide)
open Cha in
theorem changed15_ret {s : SChart} {C : Cht} {what which b : Int} (w : World) (hc : ChartIs w s C) (hok : ChartOk C) (hG : GoodC C) (hwh : 0 ≤ which ∧ which < 256) (hby : 0 ≤ b ∧ b < 256) :
    Ret Tryd.prog 11 #[.agg s.cells.toArray, .int .u8 what, .int .u8 which, .int .u8 b] w fun r w' => (∃ (t : SChart) (D : Cht), r = .agg t.cells.toArray ∧ ChartIs w' t D ∧ ChartOk D ∧ SizeP D ∧ One (ints C) (ints D)) ∧ Ext w w' := by
  refine ret_of (fun _ _ => sh_landfalllaw15_changed_ok _ _ _ _) fun R hR => ?_
  unfold sh_landfalllaw15_changed
  obtain ⟨ic, hic, hzc, hsc, hbc⟩ := Ty.info_parts Ty.SCell_info
  obtain ⟨ib, hib, hzb, hsb, hbb⟩ := Ty.info_parts Ty.SBeacon_info
  obtain ⟨il, hil, hzl, hsl, hbl'⟩ := Ty.info_parts Ty.SLine_info
  obtain ⟨ip, hip, hzp, hsp, hbp⟩ := Ty.info_parts Ty.SPoint_info
  have hS := good_size hG
  obtain ⟨hcl, hbl, hll, hpl⟩ := id hS
  have hc1 : 1 ≤ C.cells.length := by
    have hw := hG.1.2.1; have hh := hG.1.2.2.1; have hwh := hG.1.2.2.2.2.1
    have := (mul_bnd hw hh).1
    omega
  refine box_i fun g w1 x1 hat1 hg1 _ => ?_
  refine alloc_i Ty.SChart_zero fun b8 w2 x2 hat8 hb8 _ => ?_
  have hat8 : At w2 b8 (.cells SChart.zero.cells.toArray 26 (0, 0)) := hat8
  have l1 := hat1.lt
  have l8 := hat8.lt
  have z1 := x1.size
  have z2 := x2.size
  refine SCell.row_lit0 fun v0 w3 x3 ho3 _ => ?_
  have x13 := x2.trans x3
  have z3 := x3.size
  have h3 := hat1.ext x13
  rw [SChart.g_cs (has_of_at h3)]
  refine SCell.row_apps ho3 (Sl.ext hc.cells (x1.trans x13)) (by simp; omega) (by omega) fun vc w4 ho4 m4 => ?_
  rw [List.nil_append] at ho4
  obtain ⟨dc, rfl⟩ := Hdr.of_sl (Sl.of_owns ho4)
  have old3 : ∀ {v : Value} {base k sz n : Nat} {e : TypeId} {xs : List Value} {V : World}, V.ownsRow base e sz v n xs → w2.heap.size ≤ base → k < w2.heap.size → ¬ v.ownBlock = some k := fun ho hb hk e => by have := (Own.block ho e).1; omega
  have h4 := h3.mod m4 (old3 ho3 (Nat.le_refl _) (by omega))
  have b84 := (hat8.ext x3).mod m4 (old3 ho3 (Nat.le_refl _) l8)
  refine SChart.s_cs (x := dc) h4 fun w5 m5 h5 s5 => ?_
  have z34 := m4.size
  have m25 : Mod (fun k => k = g ∨ w2.heap.size ≤ k) w2 w5 := ((Mod.of_ext x3).trans (m4.mono fun k _ hk => .inr (Own.block ho3 hk).1)).trans (m5.mono fun k _ hk => .inl hk)
  have b85 := b84.mod m5 (by omega)
  have ho5 := Own.mod ho4 m5 (Own.off_at ho4 h4 (by decide))
  refine SBeacon.row_lit0 fun v1 w6 x6 ho6 _ => ?_
  have h6 := h5.ext x6
  have z6 := x6.size
  have x06 : Ext w w6 := (((Mod.of_ext (x1.trans x2) : Mod (w.heap.size ≤ ·) w w2).trans (m25.mono fun k _ h => by omega)).trans (.of_ext x6)).new
  rw [SChart.g_bs (has_of_at h6)]
  refine SBeacon.row_apps ho6 (Sl.ext hc.beacons x06) (by simp; omega) (by omega) fun vb w7 ho7 m7 => ?_
  rw [List.nil_append] at ho7
  obtain ⟨db, rfl⟩ := Hdr.of_sl (Sl.of_owns ho7)
  have h7 := h6.mod m7 (old3 ho6 (by omega) (by omega))
  have b87 := (b85.ext x6).mod m7 (old3 ho6 (by omega) l8)
  have hc7 := Own.mod (Own.ext ho5 x6) m7 (Own.off_own ho6 (Own.ext ho5 x6) (by decide))
  refine SChart.s_bs (x := db) h7 fun w8 m8 h8 s8 => ?_
  have b88 := b87.mod m8 (by omega)
  have hc8 := Own.mod hc7 m8 (Own.off_at hc7 h7 (by decide))
  have hb8' := Own.mod ho7 m8 (Own.off_at ho7 h7 (by decide))
  have z67 := m7.size
  have m08 : Mod (w.heap.size ≤ ·) w w8 := ((Mod.of_ext x06).trans (m7.mono fun k _ hk => by have := (Own.block ho6 hk).1; omega)).trans (m8.mono fun k _ hk => by omega)
  let s2 : SChart := { s with cs := dc, bs := db }
  have h8 : At w8 g (.cells s2.cells.toArray 26 (0, 0)) := h8
  have z08 := m08.size
  have z28 : w2.heap.size ≤ w8.heap.size := by have := m25.size; omega
  obtain ⟨gc, capc, hdc, hgc1, hgc2⟩ := own_open hc8 (by omega)
  have gcb : gc ≠ b8 := by omega
  have gcg : gc ≠ g := by omega
  have h2' : ∀ V, Ext w8 V → Has V g 0 s2.cells := fun V x => has_of_at (h8.ext x)
  refine draw_ext fun w9 x9 => ?_
  refine det_read _ (fun V x K => Ty.SChart_f6) ?_
  refine det_read dc.val (fun V x K => load_cell (fun w => show (isAgg 22).run Tryd.prog w = .ok false w by kernel_rfl) (has_at (h2' V (x9.trans x)) (d := 6) rfl rfl)) ?_
  refine det_read (.int .i64 which) (fun V x K => by rw [conv_int Ty.u8 Ty.int, i64_wrap (by omega) (by omega)]) ?_
  refine det_read _ (fun V x K => Ty.SChart_f6) ?_
  refine det_read dc.val (fun V x K => load_cell (fun w => show (isAgg 22).run Tryd.prog w = .ok false w by kernel_rfl) (has_at (h2' V (x9.trans x)) (d := 6) rfl rfl)) ?_
  refine det_read _ (fun V x K => SCell.row_len (Sl.ext (Sl.of_owns hc8) (x9.trans x))) ?_
  refine det_read (.int .i64 ((which.toNat % C.cells.length : Nat) : Int)) (fun V x K => by rw [bin_rem (by omega), tmod_nat hwh.1]) ?_
  intro w10 x10 _
  generalize hkk : which.toNat % C.cells.length = k
  have hk : k < C.cells.length := by rw [← hkk]; exact Nat.mod_lt _ (by omega)
  rw [hdc, own_idx Ty.SCell_row15 hic hsc hk, Nat.zero_add]
  have x810 := x9.trans x10
  have hc10 := Own.ext hc8 x810
  rw [hdc] at hc10
  have hb10 := Own.ext hb8' x810
  have h10 := h8.ext x810
  have b10 := b88.ext x810
  have m010 : Mod (w.heap.size ≤ ·) w w10 := m08.trans (.of_ext x810)
  have hx := own_has SCell.len hc10 hk
  have z10 := x810.size
  have cok : cellOk C.cells[k] = true := List.all_eq_true.1 hG.2.1 _ (List.getElem_mem hk)
  unfold cellOk at cok
  have cok := of_decide_eq_true cok
  have cI := hok.cells _ (List.getElem_mem hk)
  refine join0 (ChgQ w b8 C g) ?_ fun K hK => ?_
  · rintro _ W ⟨t, D, mW, hatg, hatb, hlive, hokD, hSD, hone⟩
    rw [SChart.g_all (has_of_at hatg)]
    refine SChart.set (r := SChart.zero) hatb fun w11 m11 hat11 s11 => ?_
    refine res_i (rv_cell (loadVar_agg Ty.SChart_agg Ty.SChart_size (xs := t.cells) rfl (has_of_at hat11)) (rv_nil _)) (hR _ _ ⟨⟨t, D, rfl, hlive _ m11, hokD, hSD, hone⟩, (mW.trans (m11.mono fun k _ h => by omega)).new⟩)
  -- a cell is another one
  have cellK : ∀ (V : World) (a : SCell), Mod (· = gc) w10 V → SCell.Owns w2.heap.size V (.slice (some ⟨gc, 0, none⟩) C.cells.length capc) (C.cells.set k a) → a.Ok → One (cellInts C.cells[k]) (cellInts a) → K [] V := fun V a m ho haok hone => by
    have mV : Mod (w.heap.size ≤ ·) w V := m010.trans (m.mono fun k _ h => by omega)
    refine hK _ ⟨s2, { C with cells := C.cells.set k a }, mV, h10.mod m gcg.symm, b10.mod m gcb.symm, fun W' m' => ?_, ⟨hok.nums, fun c hc => ?_, hok.beacons, hok.lines⟩, ⟨by simp only [List.length_set]; exact hcl, hbl, hll, hpl⟩, one_cells hk hone⟩
    · have q := hc.ext ((mV.trans (m'.mono fun k _ h => by omega)).new)
      have hbV := Own.mod hb10 m (fun j hj e => by subst e; exact Own.off_own hc10 hb10 (by decide) _ hj rfl)
      refine ⟨q.ver, q.x, q.y, q.w, q.h, q.size, ?_, Sl.of_owns (Own.mod hbV m' (Own.off_at hbV (b10.mod m gcb.symm) (by decide))), q.lines⟩
      show SCell.Row W' dc.val _
      rw [hdc]
      exact Sl.of_owns (Own.mod ho m' (Own.off_at ho (b10.mod m gcb.symm) (by decide)))
    · rcases mem_set hc with h | rfl
      · exact hok.cells c h
      · exact haok
  -- nothing else is
  have same : ∀ V, Ext w10 V → K [] V := fun V x => by
    have mV : Mod (w.heap.size ≤ ·) w V := m010.trans (.of_ext x)
    refine hK _ ⟨s2, C, mV, h10.ext x, b10.ext x, fun W' m' => ?_, hok, hS, .inl rfl⟩
    have q := hc.ext ((mV.trans (m'.mono fun k _ h => by omega)).new)
    have hcV := Own.ext hc10 x
    have hbV := Own.ext hb10 x
    refine ⟨q.ver, q.x, q.y, q.w, q.h, q.size, ?_, Sl.of_owns (Own.mod hbV m' (Own.off_at hbV (b10.ext x) (by decide))), q.lines⟩
    show SCell.Row W' dc.val _
    rw [hdc]
    exact Sl.of_owns (Own.mod hcV m' (Own.off_at hcV (b10.ext x) (by decide)))
  have after : ∀ {V : World} {a : SCell}, Ext w10 V → ∀ W, Mod (· = gc) V W → Mod (· = gc) w10 W := fun x W m => (Mod.of_ext x).trans m
  rw [bin_rem8, bin_eql]
  refine Br_i (fun _ => ?_) fun _ => ?_
  · rw [nil_ptr, Ty.SCell_f0, Ty.SSpan_f0, load_cell Ty.int_agg (has_at hx (d := 0) (by omega) rfl)]
    refine callF_ret (turned15_ret (by omega) hby w10) ?_
    rintro _ w11 ⟨rfl, x11⟩
    rw [nil_ptr, Ty.SCell_f0, Ty.SSpan_f0]
    have hr : turnV C.cells[k].depth.lo b = turnV C.cells[k].depth.lo b := rfl
    have rng := turnV_rng (n := C.cells[k].depth.lo) (b := b) (by omega)
    refine own_cell (j := 0) (a' := { C.cells[k] with depth := ⟨turnV C.cells[k].depth.lo b, C.cells[k].depth.hi⟩ }) SCell.len (Own.ext hc10 x11) hk (by decide) rfl Ty.int_size rfl fun W mW ho => ?_
    exact cellK W _ ((Mod.of_ext x11).trans mW) ho ⟨⟨⟨by simp only; omega, by simp only; omega⟩, cI.1.2⟩, cI.2⟩ (.inr ⟨[], _, _, _, rfl, rfl, turnV_one⟩)
  rw [bin_eql]
  refine Br_i (fun _ => ?_) fun _ => ?_
  · rw [nil_ptr, Ty.SCell_f0, Ty.SSpan_f1, load_cell Ty.int_agg (has_at hx (d := 1) (by omega) rfl)]
    refine callF_ret (turned15_ret (by omega) hby w10) ?_
    rintro _ w11 ⟨rfl, x11⟩
    rw [nil_ptr, Ty.SCell_f0, Ty.SSpan_f1]
    have rng := turnV_rng (n := C.cells[k].depth.hi) (b := b) (by omega)
    refine own_cell (j := 1) (a' := { C.cells[k] with depth := ⟨C.cells[k].depth.lo, turnV C.cells[k].depth.hi b⟩ }) SCell.len (Own.ext hc10 x11) hk (by decide) rfl Ty.int_size rfl fun W mW ho => ?_
    exact cellK W _ ((Mod.of_ext x11).trans mW) ho ⟨⟨cI.1.1, ⟨by simp only; omega, by simp only; omega⟩⟩, cI.2⟩ (.inr ⟨[C.cells[k].depth.lo], _, _, _, rfl, rfl, turnV_one⟩)
  rw [bin_eql]
  refine Br_i (fun _ => ?_) fun _ => ?_
  · rw [nil_ptr, Ty.SCell_f1, load_cell Ty.int_agg (has_at hx (d := 2) (by omega) rfl)]
    refine callF_ret (turned15_ret (by omega) hby w10) ?_
    rintro _ w11 ⟨rfl, x11⟩
    rw [nil_ptr, Ty.SCell_f1]
    have rng := turnV_rng (n := C.cells[k].date) (b := b) (by omega)
    refine own_cell (j := 2) (a' := { C.cells[k] with date := turnV C.cells[k].date b }) SCell.len (Own.ext hc10 x11) hk (by decide) rfl Ty.int_size rfl fun W mW ho => ?_
    exact cellK W _ ((Mod.of_ext x11).trans mW) ho ⟨cI.1, ⟨by simp only; omega, by simp only; omega⟩, trivial⟩ (.inr ⟨[C.cells[k].depth.lo, C.cells[k].depth.hi], _, _, _, rfl, rfl, turnV_one⟩)
  rw [bin_eql]
  refine Br_i (fun _ => ?_) fun _ => ?_
  · rw [nil_ptr, Ty.SCell_f2, load_cell Ty.bool_agg (has_at hx (d := 3) (by omega) rfl), un_not, nil_ptr, Ty.SCell_f2]
    refine own_cell (j := 3) (a' := { C.cells[k] with void := !C.cells[k].void }) SCell.len hc10 hk (by decide) rfl Ty.bool_size rfl fun W mW ho => ?_
    exact cellK W _ mW ho cI (.inr ⟨[C.cells[k].depth.lo, C.cells[k].depth.hi, C.cells[k].date], [], _, _, rfl, rfl, .inl (void_turned C.cells[k].void)⟩)
  have hg10 : ∀ V, Ext w10 V → Has V g 0 s2.cells := fun V x => has_of_at (h10.ext x)
  rw [bin_eql]
  refine Br_i (fun _ => ?_) fun _ => ?_
  · rw [SChart.g_bs (hg10 w10 (Ext.refl _)), SBeacon.row_len (Sl.of_owns hb10), bin_gtr]
    refine Br_i (fun hpos => ?_) fun _ => same _ (Ext.refl _)
    have hpos : 0 < C.beacons.length := by have := dec_t hpos; omega
    obtain ⟨gb, capb, hdb, hgb1, hgb2⟩ := own_open hb10 hpos
    have gbb : gb ≠ b8 := by omega
    have gbg : gb ≠ g := by omega
    have hb10' := hb10
    rw [hdb] at hb10'
    have hkb : which.toNat % C.beacons.length < C.beacons.length := Nat.mod_lt _ hpos
    have hmem := List.getElem_mem hkb
    have bok : beaconOk C.beacons[which.toNat % C.beacons.length] = true := List.all_eq_true.1 hG.2.2.1.1 _ hmem
    unfold beaconOk at bok
    rw [Bool.and_eq_true] at bok
    have pl := Hul.place_iff.1 bok.2
    generalize hkb' : which.toNat % C.beacons.length = kb at *
    have ldb : ∀ V, Ext w10 V → ∀ {K : Value → World → Prop} {X : List PanicEntry → World → Prop}, DoV Tryd.prog (Instr.loadAt 23 (.pointer (some ⟨g, 0 + 7, none⟩))) V K X = K db.val V := fun V x K X => load_cell (fun w => show (isAgg 23).run Tryd.prog w = .ok false w by kernel_rfl) (has_at (hg10 V x) (d := 7) rfl rfl)
    refine draw_ext fun w11 x11 => ?_
    have hxb : ∀ V, Ext w11 V → Has V gb (kb * 3) C.beacons[kb].cells := fun V x => own_has SBeacon.len (Own.ext hb10' (x11.trans x)) hkb
    have convW : ∀ (V : World) {K : Value → World → Prop} {X : List PanicEntry → World → Prop}, DoV Tryd.prog (convert 5 3 (.int .u8 which)) V K X = K (.int .i64 which) V := fun V K X => by rw [conv_int Ty.u8 Ty.int, i64_wrap (by omega) (by omega)]
    have remW : ∀ (V : World) {ox oy : Operand} {K : Value → World → Prop} {X : List PanicEntry → World → Prop}, DoV Tryd.prog (binS .rem 3 ox oy (.int .i64 which) (.int .i64 C.beacons.length)) V K X = K (.int .i64 (kb : Int)) V := fun V ox oy K X => by rw [bin_rem (by omega), tmod_nat hwh.1, hkb']
    refine det_read _ (fun V x K => Ty.SChart_f7) ?_
    refine det_read _ (fun V x K => ldb V (x11.trans x)) ?_
    refine det_read _ (fun V x K => convW V) ?_
    refine det_read _ (fun V x K => remW V) ?_
    refine det_read _ (fun V x K => Ty.SChart_f7) ?_
    refine det_read _ (fun V x K => ldb V (x11.trans x)) ?_
    refine det_read _ (fun V x K => convW V) ?_
    refine det_read _ (fun V x K => remW V) ?_
    refine det_read (.pointer (some ⟨gb, kb * 3, none⟩)) (fun V x K => by rw [hdb, own_idx Ty.SBeacon_row hib hsb hkb, Nat.zero_add]) ?_
    refine det_read _ (fun V x K => Ty.SBeacon_f1) ?_
    refine det_read _ (fun V x K => Ty.SPoint_f0) ?_
    refine det_read (.int .i64 C.beacons[kb].at_.x) (fun V x K => load_cell Ty.int_agg (has_at (hxb V x) (d := 1) rfl rfl)) ?_
    refine det_ret _ (fun V x => turned15_ret (n := C.beacons[kb].at_.x) (by omega) hby V) ?_
    intro w12 x12 _
    have x1012 := x11.trans x12
    rw [hdb, own_idx Ty.SBeacon_row hib hsb hkb, Nat.zero_add, Ty.SBeacon_f1, Ty.SPoint_f0]
    have rng := turnV_rng (n := C.beacons[kb].at_.x) (b := b) (by omega)
    have bI := hok.beacons _ hmem
    refine own_cell (j := 1) (a' := { C.beacons[kb] with at_ := ⟨turnV C.beacons[kb].at_.x b, C.beacons[kb].at_.y⟩ }) SBeacon.len (Own.ext hb10' x1012) hkb (by decide) rfl Ty.int_size rfl fun W mW ho => ?_
    have m : Mod (· = gb) w10 W := (Mod.of_ext x1012).trans mW
    have mV : Mod (w.heap.size ≤ ·) w W := m010.trans (m.mono fun k _ h => by omega)
    refine hK _ ⟨s2, { C with beacons := C.beacons.set kb { C.beacons[kb] with at_ := ⟨turnV C.beacons[kb].at_.x b, C.beacons[kb].at_.y⟩ } }, mV, h10.mod m gbg.symm, b10.mod m gbb.symm, fun W' m' => ?_, ⟨hok.nums, hok.cells, fun c hc => ?_, hok.lines⟩, ⟨hcl, by simp only [List.length_set]; exact hbl, hll, hpl⟩, one_beacons hkb (.inr ⟨[C.beacons[kb].id], _, _, _, rfl, rfl, turnV_one⟩)⟩
    · have q := hc.ext ((mV.trans (m'.mono fun k _ h => by omega)).new)
      have hcV := Own.mod hc10 m (fun j hj e => by subst e; exact Own.off_own hb10' hc10 (by decide) _ hj rfl)
      refine ⟨q.ver, q.x, q.y, q.w, q.h, q.size, ?_, ?_, q.lines⟩
      · show SCell.Row W' dc.val _
        rw [hdc]
        exact Sl.of_owns (Own.mod hcV m' (Own.off_at hcV (b10.mod m gbb.symm) (by decide)))
      · show SBeacon.Row W' db.val _
        rw [hdb]
        exact Sl.of_owns (Own.mod ho m' (Own.off_at ho (b10.mod m gbb.symm) (by decide)))
    · rcases mem_set hc with h | rfl
      · exact hok.beacons c h
      · exact ⟨bI.1, ⟨by simp only; omega, by simp only; omega⟩, bI.2.2⟩
  rw [bin_eql]
  refine Br_i (fun _ => ?_) fun _ => same _ (Ext.refl _)
  -- a line is another one
  obtain ⟨ss, hrow, hssl, hrel⟩ := hc.lines
  refine SLine.row_lit0 fun v2 w11 x11 ho11 _ => ?_
  have h11 := h10.ext x11
  rw [SChart.g_ls (has_of_at h11)]
  have x011 : Ext w w11 := (m010.trans (.of_ext x11)).new
  refine SLine.row_apps ho11 (Sl.ext hrow x011) (by simp; omega) (by have := x11.size; omega) fun vl w12 ho12 m12 => ?_
  rw [List.nil_append] at ho12
  obtain ⟨dl, rfl⟩ := Hdr.of_sl (Sl.of_owns ho12)
  have hbase : w2.heap.size ≤ w10.heap.size := by omega
  have h12 := h11.mod m12 (old3 ho11 hbase (by omega))
  have b12 := (b10.ext x11).mod m12 (old3 ho11 hbase l8)
  have hc12 := Own.mod (Own.ext hc10 x11) m12 (Own.off_own ho11 (Own.ext hc10 x11) (by decide))
  have hb12 := Own.mod (Own.ext hb10 x11) m12 (Own.off_own ho11 (Own.ext hb10 x11) (by decide))
  refine SChart.s_ls (x := dl) h12 fun w13 m13 h13 s13 => ?_
  have b13 := b12.mod m13 (by omega)
  have hc13 := Own.mod hc12 m13 (Own.off_at hc12 h12 (by decide))
  have hb13 := Own.mod hb12 m13 (Own.off_at hb12 h12 (by decide))
  have hl13 := Own.mod ho12 m13 (Own.off_at ho12 h12 (by decide))
  let s3 : SChart := { s2 with ls := dl }
  have h13 : At w13 g (.cells s3.cells.toArray 26 (0, 0)) := h13
  have z12 := m12.size
  have z11 := x11.size
  have m013 : Mod (w.heap.size ≤ ·) w w13 := ((Mod.of_ext x011).trans (m12.mono fun k _ hk => by have := (Own.block ho11 hk).1; omega)).trans (m13.mono fun k _ hk => by omega)
  rw [SChart.g_ls (has_of_at h13), SLine.row_len (Sl.of_owns hl13), bin_gtr]
  refine Br_i (fun hpos => ?_) fun hnone => ?_
  · have hpos : 0 < ss.length := by have := dec_t hpos; omega
    obtain ⟨gl, capl, hdl, hgl1, hgl2⟩ := own_open hl13 hpos
    rw [hdl] at hl13
    have hkl : which.toNat % ss.length < ss.length := Nat.mod_lt _ hpos
    generalize hkl' : which.toNat % ss.length = kl at *
    have hklC : kl < C.lines.length := by omega
    have hmem := List.getElem_mem hklC
    have hp64 := hpl _ hmem
    have pok := pathOk_iff.1 (List.all_eq_true.1 hG.2.2.2.1 _ hmem)
    have hli := hrel kl _ _ (List.getElem?_eq_getElem hkl) (List.getElem?_eq_getElem hklC)
    have hp0 : 0 < C.lines[kl].2.length := by have := pok.2.1.1; omega
    have pl := Hul.place_iff.1 (List.all_eq_true.1 pok.2.2.1 _ (List.getElem_mem hp0))
    have hg13 : ∀ V, Ext w13 V → Has V g 0 s3.cells := fun V x => has_of_at (h13.ext x)
    refine draw_ext fun w14 x14 => ?_
    refine det_read _ (fun V x K => Ty.SChart_f8) ?_
    refine det_read dl.val (fun V x K => load_cell (fun w => show (isAgg 24).run Tryd.prog w = .ok false w by kernel_rfl) (has_at (hg13 V (x14.trans x)) (d := 8) rfl rfl)) ?_
    refine det_read (.int .i64 which) (fun V x K => by rw [conv_int Ty.u8 Ty.int, i64_wrap (by omega) (by omega)]) ?_
    refine det_read (.int .i64 (kl : Int)) (fun V x K => by rw [bin_rem (by omega), tmod_nat hwh.1, hkl']) ?_
    intro w15 x15 _
    have x1315 := x14.trans x15
    rw [hdl, own_idx Ty.SLine_row hil hsl hkl, Nat.zero_add]
    refine SPoint.row_lit0 fun v3 w16 x16 ho16 _ => ?_
    have x1316 := x1315.trans x16
    have hl16 := Own.ext hl13 x1316
    rw [nil_ptr, SLine.g_pts (own_has SLine.len hl16 hkl)]
    have x016 : Ext w w16 := (m013.trans (.of_ext x1316)).new
    have z1316 := x1316.size
    have z1315 := x1315.size
    refine SPoint.row_apps ho16 (Sl.ext hli.2 x016) (by simp; omega) (by have := x16.size; omega) fun vp w17 ho17 m17 => ?_
    rw [List.nil_append] at ho17
    obtain ⟨dp, rfl⟩ := Hdr.of_sl (Sl.of_owns ho17)
    have hl17 := Own.mod hl16 m17 (Own.off_own ho16 hl16 (by decide))
    rw [nil_ptr, Ty.SLine_f1]
    have base16 : w2.heap.size ≤ w15.heap.size := by omega
    have h17 := (h13.ext x1316).mod m17 (old3 ho16 base16 (by omega))
    have b17 := (b13.ext x1316).mod m17 (old3 ho16 base16 l8)
    have hc17 := Own.mod (Own.ext hc13 x1316) m17 (Own.off_own ho16 (Own.ext hc13 x1316) (by decide))
    have hb17 := Own.mod (Own.ext hb13 x1316) m17 (Own.off_own ho16 (Own.ext hb13 x1316) (by decide))
    have z17 := m17.size
    refine own_cell (j := 1) (a' := { ss[kl] with pts := dp }) SLine.len hl17 hkl (by decide) rfl (fun w => show (sizeOf 37).run Tryd.prog w = .ok 1 w by kernel_rfl) rfl fun w18 m18 hl18 => ?_
    have glb : gl ≠ b8 := by omega
    have glg : gl ≠ g := by omega
    have h18 := h17.mod m18 glg.symm
    have b18 := b17.mod m18 glb.symm
    have hc18 := Own.mod hc17 m18 (fun j hj e => by subst e; exact Own.off_own hl17 hc17 (by decide) _ hj rfl)
    have hb18 := Own.mod hb17 m18 (fun j hj e => by subst e; exact Own.off_own hl17 hb17 (by decide) _ hj rfl)
    have hp18 := Own.mod ho17 m18 (fun j hj e => by subst e; exact Own.off_own hl17 ho17 (by decide) _ hj rfl)
    have m018 : Mod (w.heap.size ≤ ·) w w18 := ((Mod.of_ext x016).trans (m17.mono fun k _ hk => by have := (Own.block ho16 hk).1; omega)).trans (m18.mono fun k _ hk => by omega)
    obtain ⟨gp, capp, hdp, hgp1, hgp2⟩ := own_open hp18 hp0
    rw [hdp] at hp18
    have hkl2 : kl < (ss.set kl { ss[kl] with pts := dp }).length := by rw [List.length_set]; exact hkl
    have hget : (ss.set kl { ss[kl] with pts := dp })[kl] = { ss[kl] with pts := dp } := List.getElem_set_self ..
    have ldp : ∀ V, Ext w18 V → ∀ {K : Value → World → Prop} {X : List PanicEntry → World → Prop}, DoV Tryd.prog (Instr.loadAt 37 (.pointer (some ⟨gl, kl * 2 + 1, none⟩))) V K X = K dp.val V := fun V x K X => by
      have hh := own_has SLine.len (Own.ext hl18 x) hkl2
      rw [hget] at hh
      exact load_cell Ty.pts_agg15 (has_at hh (d := 1) rfl rfl)
    refine draw_ext fun w19 x19 => ?_
    refine det_read _ (fun V x K => nil_ptr) ?_
    refine det_read _ (fun V x K => Ty.SLine_f1) ?_
    refine det_read _ (fun V x K => ldp V (x19.trans x)) ?_
    refine det_read _ (fun V x K => nil_ptr) ?_
    refine det_read _ (fun V x K => Ty.SLine_f1) ?_
    refine det_read _ (fun V x K => ldp V (x19.trans x)) ?_
    refine det_read (.pointer (some ⟨gp, 0 * 2, none⟩)) (fun V x K => by rw [hdp]; have := @own_idx Tryd.prog V K NoX 37 31 ip 2 Ty.SPoint_row hip hsp gp 0 C.lines[kl].2.length capp 0 hp0; rw [Nat.zero_add] at this; exact own_idx (j := 0) Ty.SPoint_row hip hsp hp0) ?_
    refine det_read _ (fun V x K => Ty.SPoint_f1) ?_
    refine det_read (.int .i64 C.lines[kl].2[0].y) (fun V x K => load_cell Ty.int_agg (has_at (own_has SPoint.len (Own.ext hp18 (x19.trans x)) hp0) (d := 1) rfl rfl)) ?_
    refine det_ret _ (fun V x => turned15_ret (n := C.lines[kl].2[0].y) (by omega) hby V) ?_
    intro w20 x20 _
    have x1820 := x19.trans x20
    have rng := turnV_rng (n := C.lines[kl].2[0].y) (b := b) (by omega)
    rw [hdp, show ((.int .i64 0 : Value)) = .int .i64 ((0 : Nat) : Int) from rfl, own_idx Ty.SPoint_row hip hsp hp0, Nat.zero_add, Ty.SPoint_f1]
    refine own_cell (j := 1) (a' := ⟨C.lines[kl].2[0].x, turnV C.lines[kl].2[0].y b⟩) SPoint.len (Own.ext hp18 x1820) hp0 (by decide) rfl Ty.int_size rfl fun W mW ho => ?_
    have gpb : gp ≠ b8 := by omega
    have gpg : gp ≠ g := by omega
    have m : Mod (· = gp) w18 W := (Mod.of_ext x1820).trans mW
    have mV : Mod (w.heap.size ≤ ·) w W := m018.trans (m.mono fun k _ h => by omega)
    have hpI := (hok.lines _ hmem).2 _ (List.getElem_mem hp0)
    have hlW := Own.mod hl18 m (fun j hj e => by subst e; exact Own.off_own hp18 hl18 (by decide) _ hj rfl)
    have hcW := Own.mod hc18 m (fun j hj e => by subst e; exact Own.off_own hp18 hc18 (by decide) _ hj rfl)
    have hbW := Own.mod hb18 m (fun j hj e => by subst e; exact Own.off_own hp18 hb18 (by decide) _ hj rfl)
    have bW := b18.mod m gpb.symm
    refine hK _ ⟨s3, { C with lines := C.lines.set kl (C.lines[kl].1, C.lines[kl].2.set 0 ⟨C.lines[kl].2[0].x, turnV C.lines[kl].2[0].y b⟩) }, mV, h18.mod m gpg.symm, bW, fun W' m' => ?_, ⟨hok.nums, hok.cells, hok.beacons, fun l hl => ?_⟩, ⟨hcl, hbl, by simp only [List.length_set]; exact hll, fun l hl => ?_⟩, one_lines hklC ?_⟩
    · have hx' := (mV.trans (m'.mono fun k _ h => by omega)).new
      have q := hc.ext hx'
      refine ⟨q.ver, q.x, q.y, q.w, q.h, q.size, ?_, Sl.of_owns (Own.mod hbW m' (Own.off_at hbW bW (by decide))), ss.set kl { ss[kl] with pts := dp }, ?_, by simp only [List.length_set]; exact hssl, fun i sl l e1 e2 => ?_⟩
      · show SCell.Row W' dc.val _
        rw [hdc]
        exact Sl.of_owns (Own.mod hcW m' (Own.off_at hcW bW (by decide)))
      · show SLine.Row W' dl.val _
        rw [hdl]
        have := Sl.of_owns (Own.mod hlW m' (Own.off_at hlW bW (by decide)))
        exact this
      · by_cases hik : i = kl
        · subst hik
          rw [List.getElem?_set_self hkl] at e1
          rw [List.getElem?_set_self hklC] at e2
          injection e1 with e1; injection e2 with e2
          subst e1 e2
          refine ⟨hli.1, ?_⟩
          show SPoint.Row W' dp.val _
          rw [hdp]
          exact Sl.of_owns (Own.mod ho m' (Own.off_at ho bW (by decide)))
        · rw [List.getElem?_set_ne (fun e => hik e.symm)] at e1 e2
          exact (hrel i _ _ e1 e2).ext hx'
    · rcases mem_set hl with h | rfl
      · exact hok.lines l h
      · refine ⟨(hok.lines _ hmem).1, fun p hp => ?_⟩
        rcases mem_set hp with h | rfl
        · exact (hok.lines _ hmem).2 p h
        · exact ⟨hpI.1, ⟨by simp only; omega, by simp only; omega⟩⟩
    · rcases mem_set hl with h | rfl
      · exact hpl l h
      · simp only [List.length_set]; exact hp64
    · unfold lineInts
      simp only [List.length_set]
      have h1 : One (ptInts C.lines[kl].2[0]) (ptInts ⟨C.lines[kl].2[0].x, turnV C.lines[kl].2[0].y b⟩) := .inr ⟨[C.lines[kl].2[0].x], [], _, _, rfl, rfl, turnV_one⟩
      have := (h1.flat hp0).mid [C.lines[kl].1, (C.lines[kl].2.length : Int)] []
      simpa only [List.append_nil] using this
  · have hz : ss.length = 0 := by have := dec_f hnone; omega
    have hzl : C.lines = [] := List.eq_nil_of_length_eq_zero (by omega)
    refine hK _ ⟨s3, C, m013, h13, b13, fun W' m' => ?_, hok, hS, .inl rfl⟩
    have q := hc.ext ((m013.trans (m'.mono fun k _ h => by omega)).new)
    refine ⟨q.ver, q.x, q.y, q.w, q.h, q.size, ?_, Sl.of_owns (Own.mod hb13 m' (Own.off_at hb13 b13 (by decide))), ss, Sl.of_owns (Own.mod hl13 m' (Own.off_at hl13 b13 (by decide))), hssl, fun i sl l e1 e2 => by rw [hzl] at e2; simp at e2⟩
    show SCell.Row W' dc.val _
    rw [hdc]
    exact Sl.of_owns (Own.mod hc13 m' (Own.off_at hc13 b13 (by decide)))
end Go.Proofs.YtdfpdfahcbflpabDoor
