/- The chapter's example of a chart, and what stands at the head of each law. -/
import Derived.Test.YtdfpdfahcbflpabDoorHChbG
set_option linter.unusedVariables false
set_option linter.unusedSimpArgs false
namespace Go.Proofs.YtdfpdfahcbflpabDoor
set_option maxRecDepth 100000
set_option maxHeartbeats 16000000
open Sh Go.RowKit
namespace Dig
def frd : Nat → Nat → List UInt8
  | 0, _ => []
  | f + 1, u => if u = 0 then [] else UInt8.ofNat (48 + u % 10) :: frd f (u / 10)
theorem frd_eq : ∀ (f u : Nat), u < 10 ^ f → frd f u = rdig u
  | 0, u, h => by
    have : u = 0 := by simpa using h
    subst this
    rw [frd, rdig_zero]
  | f + 1, u, h => by
    rw [frd]
    by_cases hu : u = 0
    · subst hu; rw [if_pos rfl, rdig_zero]
    · rw [if_neg hu, rdig_pos hu, frd_eq f (u / 10) (by rw [Nat.pow_succ] at h; omega)]
def fitoa (n : Int) : List UInt8 := if n = 0 then [48] else (frd 20 n.natAbs ++ if n < 0 then [45] else []).reverse
def small (n : Int) : Bool := decide (n.natAbs < 100000000000000000000)
theorem fitoa_eq {n : Int} (h : small n = true) : fitoa n = Go.Lib.itoa n := by
  unfold fitoa
  by_cases h0 : n = 0
  · subst h0; rw [if_pos rfl]; unfold Go.Lib.itoa; rw [if_neg (by decide), Go.Lib.decDigits, dif_pos (by decide)]; rfl
  · have h := of_decide_eq_true h
    rw [if_neg h0, itoa_rdig h0, frd_eq 20 _ (by omega)]
def fnext (d : BitVec 64) (l : List Int) : BitVec 64 := text (bytes8 d ++ l.flatMap fun n => fitoa n ++ [32])
theorem fnext_eq {d : BitVec 64} {l : List Int} (h : l.all small = true) : next d l = fnext d l := by
  unfold next fnext texts
  congr 2
  rw [List.all_eq_true] at h
  clear d
  induction l with
  | nil => rfl
  | cons a l ih => rw [List.flatMap_cons, List.flatMap_cons, fitoa_eq (h a (by simp)), ih fun x hx => h x (by simp [hx])]
end Dig
namespace Cha
def exC : Cht := ⟨1, 10, 20, 3, 2, 5, List.replicate 6 SCell.zero, [⟨7, ⟨1, 2⟩⟩], [(8, [⟨0, 0⟩, ⟨9, 9⟩])]⟩
def exD : Cht := ⟨2, 10, 20, 3, 2, 5, List.replicate 6 SCell.zero, [⟨7, ⟨1, 2⟩⟩], [(8, [⟨0, 0⟩, ⟨9, 9⟩])]⟩
def noC : Cht := ⟨0, 0, 0, 0, 0, 0, [], [], []⟩
theorem ex_path : pathOk (8, [⟨0, 0⟩, ⟨9, 9⟩]) = true := pathOk_iff.2 ⟨by decide, by decide, by decide, fun i hi => by
  have : i = 0 := by simp at hi; omega
  subst this
  show (⟨0, 0⟩ : SPoint) ≠ ⟨9, 9⟩
  decide⟩
theorem ex_good : GoodC exC := ⟨by unfold FrameP; decide, by decide, by decide, by unfold exC; simp only [List.all_cons, List.all_nil, Bool.and_true]; exact ex_path, by decide, by decide⟩
theorem exD_good : GoodC exD := ⟨by unfold FrameP; decide, by decide, by decide, by unfold exD; simp only [List.all_cons, List.all_nil, Bool.and_true]; exact ex_path, by decide, by decide⟩
theorem no_good : ¬ GoodC noC := fun h => by have := h.1.1; exact absurd this (by decide)
theorem ex_ok : ChartOk exC := ⟨by simp [exC, I64], fun c hc => by
    have : c = SCell.zero := List.eq_of_mem_replicate hc
    subst this; simp [SCell.Ok, SSpan.Ok, SCell.zero, I64], fun b hb => by
    simp only [exC, List.mem_singleton] at hb; subst hb; simp [SBeacon.Ok, SPoint.Ok, I64], fun l hl => by
    simp only [exC, List.mem_singleton] at hl; subst hl
    refine ⟨by simp [I64], fun p hp => ?_⟩
    simp only [List.mem_cons, List.not_mem_nil, or_false] at hp
    rcases hp with rfl | rfl <;> simp [SPoint.Ok, I64]⟩
theorem exD_ok : ChartOk exD := ⟨by simp [exD, I64], ex_ok.cells, ex_ok.beacons, ex_ok.lines⟩
theorem no_ok : ChartOk noC := ⟨by simp [noC, I64], fun _ h => (by cases h), fun _ h => (by cases h), fun _ h => (by cases h)⟩
theorem at1 : atV exC ⟨14, 20⟩ = (0, true, 0) := by
  unfold atV
  rw [if_pos ⟨valid_iff.2 ex_good, by decide⟩, show under exC ⟨14, 20⟩ ⟨14, 20⟩ = [0] by decide +kernel]
theorem at2 : atV exC ⟨15, 25⟩ = (4, true, 0) := by
  unfold atV
  rw [if_pos ⟨valid_iff.2 ex_good, by decide⟩, show under exC ⟨15, 25⟩ ⟨15, 25⟩ = [4] by decide +kernel]
theorem at3 : atV exC ⟨25, 20⟩ = (0, false, 0) := by
  unfold atV
  rw [if_pos ⟨valid_iff.2 ex_good, by decide⟩, show under exC ⟨25, 20⟩ ⟨25, 20⟩ = [] by decide +kernel]
theorem sq4 : squareV exC 4 = (⟨15, 25⟩, ⟨19, 29⟩, 0) := by
  unfold squareV
  rw [if_pos ⟨ex_good, by decide, by decide⟩]; decide +kernel
theorem sq6 : squareV exC 6 = (⟨0, 0⟩, ⟨0, 0⟩, 1) := by
  unfold squareV
  rw [if_neg fun h => absurd h.2.2 (by decide)]
theorem tch : touchV exC ⟨0, 0⟩ ⟨15, 24⟩ = ([0, 1], 0) := by
  unfold touchV
  rw [if_pos ⟨ex_good, by decide, by decide, by decide, by decide⟩]; decide +kernel
theorem bc7 : beaconV exC 7 = (⟨1, 2⟩, true, 0) := by
  unfold beaconV
  rw [if_pos ex_good]; rfl
theorem ln8 : lineV exC 8 = ((8, [⟨0, 0⟩, ⟨9, 9⟩]), true, 0) := by
  unfold lineV
  rw [if_pos ex_good]; rfl
theorem ln7 : lineV exC 7 = ((0, []), false, 0) := by
  unfold lineV
  rw [if_pos ex_good]; rfl
theorem dg1 : digestV exC = (Dig.fnext Dig.begin64 (ints exC), 0) := by
  unfold digestV
  rw [if_pos ex_good]
  show (Dig.next Dig.begin64 _, _) = _
  rw [Dig.fnext_eq (by decide +kernel)]
theorem dg2 : digestV exD = (Dig.fnext Dig.begin64 (ints exD), 0) := by
  unfold digestV
  rw [if_pos exD_good]
  show (Dig.next Dig.begin64 _, _) = _
  rw [Dig.fnext_eq (by decide +kernel)]
theorem dg_ne : Dig.fnext Dig.begin64 (ints exC) ≠ Dig.fnext Dig.begin64 (ints exD) := by decide +kernel
end Cha
theorem Ty.SCell_row15 : Tryd.prog.underlying 22 = some (.slice 74) := by kernel_rfl
theorem make_cells {w : World} {K : Value → World → Prop} {X : List PanicEntry → World → Prop} (hk : ∀ v w1, SCell.Owns w.heap.size w1 v (List.replicate 6 SCell.zero) → Ext w w1 → K v w1) : DoV Tryd.prog (Instr.makeSlice 22 (.int .i64 6) (.int .i64 6)) w K X := by
  obtain ⟨i, hi, hz, hs, hby⟩ := Ty.info_parts Ty.SCell_info
  obtain ⟨w', hr, ho, hg⟩ := run_makeSlice_full (P := Tryd.prog) (w := w) w.heap.size _ _ i _ 4 Ty.SCell_row15 hi hz hs .i64 .i64 6 (by decide) (by rw [hby]; decide) (by decide) (Nat.le_refl _)
  have hr : (Instr.makeSlice 22 (.int .i64 6) (.int .i64 6)).run Tryd.prog w = _ := hr
  rw [DoV_ok hr]
  refine hk _ _ ?_ ?_
  · have e : (madeCells (Value.agg SCell.zero.cells.toArray).cells (6 * 4)).toList = fl SCell.cells (List.replicate 6 SCell.zero) := by kernel_rfl
    rw [e] at ho
    exact ho
  · exact ((Mod.grown hg).mono (fun k _ h => by cases h) : Mod (w.heap.size ≤ ·) w w').new
theorem new_beacon15 (n : Int) (p : SPoint) : Tryd.prog.built 33 [(0, .int .i64 n), (1, .agg p.cells.toArray)] = some (SBeacon.mk n p).cells.toArray := by kernel_rfl
theorem new_line15 (n : Int) (d : Hdr) : Tryd.prog.built 39 [(0, .int .i64 n), (1, d.val)] = some (SLine.mk n d).cells.toArray := by kernel_rfl
theorem new_chart15 (a b c d e f : Int) (x y z : Hdr) : Tryd.prog.built 26 [(0, .int .i64 a), (1, .int .i64 b), (2, .int .i64 c), (3, .int .i64 d), (4, .int .i64 e), (5, .int .i64 f), (6, x.val), (7, y.val), (8, z.val)] = some (SChart.mk a b c d e f x y z).cells.toArray := by kernel_rfl
theorem new_nochart15 : Tryd.prog.built 26 [] = some SChart.zero.cells.toArray := by kernel_rfl
theorem nochart_is (W : World) : ChartIs W SChart.zero Cha.noC := ⟨rfl, rfl, rfl, rfl, rfl, rfl, SCell.row_nil W, SBeacon.row_nil W, ⟨[], SLine.row_nil W, rfl, fun i s l h => by simp at h⟩⟩
theorem chart_new {s : SChart} {w : World} {K : Value → World → Prop} {X1 X2 : List PanicEntry → World → Prop} (hk : ∀ b W, Ext w W → At W b (.cells s.cells.toArray 26 (0, 0)) → w.heap.size ≤ b → K (.pointer (some ⟨b, 0, none⟩)) W) :
    DoV Tryd.prog (Instr.alloc 26 true (.tuple #[])) w (fun p w1 => DoU Tryd.prog (Instr.storeAt 26 p (.agg s.cells.toArray)) w1 (fun _ w2 => K p w2) X2) X1 := by
  refine alloc_i Ty.SChart_zero fun b w1 x1 hat hb _ => ?_
  refine SChart.set (r := SChart.zero) hat fun w2 m2 h2 _ => ?_
  exact hk _ _ (ext_step15 x1 m2 (by omega)) h2 (by omega)
theorem pt_new {p : SPoint} {w : World} {K : Value → World → Prop} {X1 X2 : List PanicEntry → World → Prop} (hk : ∀ b W, Ext w W → At W b (.cells p.cells.toArray 31 (0, 0)) → K (.pointer (some ⟨b, 0, none⟩)) W) :
    DoV Tryd.prog (Instr.alloc 31 true (.tuple #[])) w (fun a w1 => DoU Tryd.prog (Instr.storeAt 31 a (.agg p.cells.toArray)) w1 (fun _ w2 => K a w2) X2) X1 := by
  refine alloc_i Ty.SPoint_zero fun b w1 x1 hat hb _ => ?_
  refine SPoint.set (r := SPoint.zero) hat fun w2 m2 h2 _ => ?_
  exact hk _ _ (ext_step15 x1 m2 (by omega)) h2
theorem line_new {p : SLine} {w : World} {K : Value → World → Prop} {X1 X2 : List PanicEntry → World → Prop} (hk : ∀ b W, Ext w W → At W b (.cells p.cells.toArray 39 (0, 0)) → K (.pointer (some ⟨b, 0, none⟩)) W) :
    DoV Tryd.prog (Instr.alloc 39 true (.tuple #[])) w (fun a w1 => DoU Tryd.prog (Instr.storeAt 39 a (.agg p.cells.toArray)) w1 (fun _ w2 => K a w2) X2) X1 := by
  refine alloc_i Ty.SLine_zero fun b w1 x1 hat hb _ => ?_
  refine SLine.set (r := SLine.zero) hat fun w2 m2 h2 _ => ?_
  exact hk _ _ (ext_step15 x1 m2 (by omega)) h2
theorem two_new {p q : SPoint} {w : World} {K : Value → Value → World → Prop} {X1 X2 X3 X4 : List PanicEntry → World → Prop} (hk : ∀ a b W, Ext w W → At W a (.cells p.cells.toArray 31 (0, 0)) → At W b (.cells q.cells.toArray 31 (0, 0)) → K (.pointer (some ⟨a, 0, none⟩)) (.pointer (some ⟨b, 0, none⟩)) W) :
    DoV Tryd.prog (Instr.alloc 31 true (.tuple #[])) w (fun a w1 => DoV Tryd.prog (Instr.alloc 31 true (.tuple #[])) w1 (fun b w2 => DoU Tryd.prog (Instr.storeAt 31 a (.agg p.cells.toArray)) w2 (fun _ w3 => DoU Tryd.prog (Instr.storeAt 31 b (.agg q.cells.toArray)) w3 (fun _ w4 => K a b w4) X4) X3) X2) X1 := by
  refine alloc_i Ty.SPoint_zero fun a w1 x1 hat1 ha _ => ?_
  refine alloc_i Ty.SPoint_zero fun b w2 x2 hat2 hb _ => ?_
  have l1 := hat1.lt
  have z1 := x1.size
  refine SPoint.set (s := p) (r := SPoint.zero) (hat1.ext x2) fun w3 m3 h3 _ => ?_
  refine SPoint.set (s := q) (r := SPoint.zero) (hat2.mod m3 (by omega)) fun w4 m4 h4 _ => ?_
  exact hk _ _ _ (ext_step15 (ext_step15 (x1.trans x2) m3 (by omega)) m4 (by omega)) (h3.mod m4 (by omega)) h4
theorem gd_d {A B : Prop} {p : Prop} [Decidable p] (hp : p) (h : A) : Gd (.bool (decide p)) true A B := Gd_i (fun _ => h) fun hh => by rw [decide_eq_true hp] at hh; cases hh
open Cha in
theorem example15_ret (w : World) : Ret Tryd.prog 18 #[] w fun r w' => (∃ s : SChart, r = .agg s.cells.toArray ∧ ChartIs w' s exC) ∧ Ext w w' := by
  refine ret_of (fun _ _ => sh_landfalllaw15_example_ok) fun R hR => ?_
  unfold sh_landfalllaw15_example
  refine alloc_i Ty.SChart_zero fun b0 w1 x1 hat0 hb0 _ => ?_
  refine make_cells fun vc w2 hoc x2 => ?_
  rw [build_i (new_pt15 _ _), build_i (new_beacon15 _ _)]
  refine SBeacon.row_lit [⟨7, ⟨1, 2⟩⟩] rfl (by decide) (by decide) rfl fun vb w3 x3 hob _ => ?_
  rw [build_i (new_pt15 _ _), build_i (new_pt15 _ _)]
  refine SPoint.row_lit [⟨0, 0⟩, ⟨9, 9⟩] rfl (by decide) (by decide) rfl fun vp w4 x4 hop _ => ?_
  obtain ⟨dp, rfl⟩ := Hdr.of_sl (Sl.of_owns hop)
  rw [build_i (new_line15 _ _)]
  refine SLine.row_lit [⟨8, dp⟩] rfl (by decide) (by decide) rfl fun vl w5 x5 hol _ => ?_
  obtain ⟨dc, rfl⟩ := Hdr.of_sl (Sl.of_owns hoc)
  obtain ⟨db, rfl⟩ := Hdr.of_sl (Sl.of_owns hob)
  obtain ⟨dl, rfl⟩ := Hdr.of_sl (Sl.of_owns hol)
  rw [build_i (new_chart15 _ _ _ _ _ _ _ _ _)]
  have x15 : Ext w1 w5 := ((x2.trans x3).trans x4).trans x5
  have l0 := hat0.lt
  have z1 := x1.size
  refine SChart.set (r := SChart.zero) (hat0.ext x15) fun w6 m6 hat6 s6 => ?_
  have off : ∀ {e : TypeId} {sz n base : Nat} {v : Value} {xs : List Value} {V : World}, V.ownsRow base e sz v n xs → w1.heap.size ≤ base → Off (· = b0) v := fun ho hb k hk e => by have := (Own.block ho hk).1; omega
  have z2 := x2.size
  have z3 := x3.size
  have z4 := x4.size
  refine res_i (rv_cell (loadVar_agg Ty.SChart_agg Ty.SChart_size (xs := (SChart.mk 1 10 20 3 2 5 dc db dl).cells) rfl (has_of_at hat6)) (rv_nil _)) (hR _ _ ⟨⟨_, rfl, ?_⟩, ext_step15 (x1.trans x15) m6 (by omega)⟩)
  refine ⟨rfl, rfl, rfl, rfl, rfl, rfl, ?_, ?_, [⟨8, dp⟩], ?_, rfl, fun i s l h1 h2 => ?_⟩
  · exact Sl.mod (Sl.of_owns (Own.ext hoc ((x3.trans x4).trans x5))) m6 (off hoc (by omega))
  · exact Sl.mod (Sl.of_owns (Own.ext hob (x4.trans x5))) m6 (off hob (by omega))
  · exact Sl.mod (Sl.of_owns hol) m6 (off hol (by omega))
  · cases i with
    | zero =>
      simp only [exC, List.getElem?_cons_zero, Option.some.injEq] at h1 h2
      subst h1 h2
      exact ⟨rfl, Sl.mod (Sl.of_owns (Own.ext hop x5)) m6 (off hop (by omega))⟩
    | succ i => simp at h1
open Cha in
theorem head15_ret (w : World) (hT : Tab w) : Ret Tryd.prog 6 #[] w (TrueQ w) := by
  refine ret_of (fun _ _ => sh_landfalllaw15_head_ok) fun R hR => ?_
  unfold sh_landfalllaw15_head
  refine callF_ret (example15_ret w) ?_
  rintro _ w1 ⟨⟨s, rfl, hc⟩, x1⟩
  refine chart_new fun b1 w2 x2 hat2 _ => ?_
  have x02 := x1.trans x2
  have hc2 := hc.ext x2
  have hg : ∀ V, Ext w2 V → Has V b1 0 s.cells := fun V x => has_of_at (hat2.ext x)
  have ok : ∀ a b : Int, -1000 ≤ a ∧ a ≤ 1000 → -1000 ≤ b ∧ b ≤ 1000 → (SPoint.mk a b).Ok := fun a b h1 h2 => ⟨⟨by simp only; omega, by simp only; omega⟩, ⟨by simp only; omega, by simp only; omega⟩⟩
  rw [SChart.g_all (hg w2 (Ext.refl _)), build_i (new_pt15 _ _)]
  refine callF_ret (chAt_ret (x := ⟨14, 20⟩) w2 hc2 ex_ok (ok _ _ (by decide) (by decide))) ?_
  rintro _ w3 ⟨rfl, x3⟩
  rw [at1, ext3_0, ext3_1, ext3_2, SChart.g_all (hg w3 x3), build_i (new_pt15 _ _)]
  refine callF_ret (chAt_ret (x := ⟨15, 25⟩) w3 (hc2.ext x3) ex_ok (ok _ _ (by decide) (by decide))) ?_
  rintro _ w4 ⟨rfl, x4⟩
  have x24 := x3.trans x4
  rw [at2, ext3_0, ext3_1, ext3_2, SChart.g_all (hg w4 x24), build_i (new_pt15 _ _)]
  refine callF_ret (chAt_ret (x := ⟨25, 20⟩) w4 (hc2.ext x24) ex_ok (ok _ _ (by decide) (by decide))) ?_
  rintro _ w5 ⟨rfl, x5⟩
  have x25 := x24.trans x5
  rw [at3, ext3_0, ext3_1, ext3_2, SChart.g_all (hg w5 x25)]
  refine callF_ret (chSquare_ret (i := 4) w5 (hc2.ext x25) ex_ok (by unfold I64; decide)) ?_
  rintro _ w6 ⟨rfl, x6⟩
  have x26 := x25.trans x6
  rw [sq4, ext3_0, ext3_1, ext3_2]
  refine two_new fun b11 b12 w7 x7 hat11 hat12 => ?_
  have x27 := x26.trans x7
  rw [SChart.g_all (hg w7 x27), build_i (show Tryd.prog.built 31 [] = some (SPoint.mk 0 0).cells.toArray by kernel_rfl), build_i (new_pt15 _ _)]
  refine callF_ret (chTouched_ret (lo := ⟨0, 0⟩) (hi := ⟨15, 24⟩) w7 (hc2.ext x27) ex_ok (ok _ _ (by decide) (by decide)) (ok _ _ (by decide) (by decide))) ?_
  rintro _ w8 ⟨⟨lv, rfl, hlv⟩, x8⟩
  have x28 := x27.trans x8
  rw [tch] at hlv
  rw [tch, ext2_0, ext2_1, SChart.g_all (hg w8 x28)]
  refine callF_ret (chBeacon_ret (id := 7) w8 (hc2.ext x28) ex_ok) ?_
  rintro _ w9 ⟨rfl, x9⟩
  have x29 := x28.trans x9
  rw [bc7, ext3_0, ext3_1, ext3_2]
  refine pt_new fun b16 w10 x10 hat16 => ?_
  have x210 := x29.trans x10
  rw [SChart.g_all (hg w10 x210)]
  refine callF_ret (chLineOf_ret (id := 8) w10 (hc2.ext x210) ex_ok) ?_
  rintro _ w11 ⟨⟨t8, rfl, hl8⟩, x11⟩
  have x211 := x210.trans x11
  rw [ln8] at hl8
  rw [ln8, ext3_0, ext3_1, ext3_2]
  refine line_new fun b19 w12 x12 hat19 => ?_
  have x212 := x211.trans x12
  rw [SChart.g_all (hg w12 x212)]
  refine callF_ret (chLineOf_ret (id := 7) w12 (hc2.ext x212) ex_ok) ?_
  rintro _ w13 ⟨⟨t7, rfl, hl7⟩, x13⟩
  have x213 := x212.trans x13
  rw [ln7, ext3_0, ext3_1, ext3_2]
  refine line_new fun b22 w14 x14 hat22 => ?_
  have x214 := x213.trans x14
  rw [SChart.g_all (hg w14 x214)]
  refine callF_ret (chDigest_ret w14 (hc2.ext x214) ex_ok (hT.ext (x02.trans x214))) ?_
  rintro _ w15 ⟨rfl, x15⟩
  have x215 := x214.trans x15
  rw [dg1, ext2_0, ext2_1, SChart.g_all (hg w15 x215)]
  refine callF_ret (chSquare_ret (i := 6) w15 (hc2.ext x215) ex_ok (by unfold I64; decide)) ?_
  rintro _ w16 ⟨rfl, x16⟩
  have x216 := x215.trans x16
  rw [sq6, ext3_0, ext3_1, ext3_2]
  refine two_new fun b27 b28 w17 x17 hat27 hat28 => ?_
  have x217 := x216.trans x17
  refine join1 (fun x W => x = .bool true ∧ Ext w17 W) ?_ fun K hK => ?_
  · rintro hh _ W hx ⟨rfl, xW⟩
    have x2W := x217.trans xW
    refine join1 (fun x V => x = .bool true ∧ Ext w17 V) ?_ fun K2 hK2 => ?_
    · rintro hh2 _ V hx2 ⟨rfl, xV⟩
      have x2V := x217.trans xV
      rw [SChart.g_all (hg V x2V)]
      refine chart_new fun b31 V1 y1 hat31 _ => ?_
      refine SChart.s_ver (x := 2) hat31 fun V2 m2 hat32 s2 => ?_
      have y2 : Ext V V2 := ext_step15 y1 m2 (by assumption)
      rw [SChart.g_all (has_of_at hat32)]
      have x2V2 := x2V.trans y2
      have hcV := hc2.ext x2V2
      have hcD : ChartIs V2 { s with ver := 2 } exD := ⟨rfl, hcV.x, hcV.y, hcV.w, hcV.h, hcV.size, hcV.cells, hcV.beacons, hcV.lines⟩
      refine callF_ret (chDigest_ret V2 hcD exD_ok (hT.ext (x02.trans x2V2))) ?_
      rintro _ V3 ⟨rfl, y3⟩
      have x2V3 := x2V2.trans y3
      rw [dg2, ext2_0, ext2_1, hx2]
      refine gd_t ?_
      have hat19V := (((((((hat19.ext x13).ext x14).ext x15).ext x16).ext x17).ext xV).ext y2).ext y3
      have hl8V := ((((((((hl8.ext x12).ext x13).ext x14).ext x15).ext x16).ext x17).ext xV).ext y2).ext y3
      rw [SLine.g_pts (has_of_at hat19V), SPoint.row_len hl8V.2, bin_eql]
      refine gd_d (by decide) ?_
      rw [bin_eql]
      refine gd_d rfl ?_
      unfold u64v
      rw [bin_neq]
      refine Gd_i (fun _ => ?_) fun hb => ?_
      · rw [SChart.g_all (hg V3 x2V3)]
        refine callF_ret (chValid_ret V3 (hc2.ext x2V3) ex_ok) ?_
        rintro _ V4 ⟨rfl, y4⟩
        rw [valid_iff.2 ex_good]
        refine gd_t ?_
        rw [build_i new_nochart15]
        refine callF_ret (chValid_ret V4 (nochart_is V4) no_ok) ?_
        rintro _ V5 ⟨rfl, y5⟩
        rw [valid_f no_good, un_not]
        exact hR _ _ ⟨rfl, ((x02.trans x2V3).trans y4).trans y5⟩
      · exfalso
        have h2 := of_decide_eq_true (Cha.nd hb)
        exact dg_ne (BitVec.eq_of_toNat_eq (Int.ofNat.inj h2))
    · rw [hx]
      refine gd_t (gd_t (gd_t ?_))
      rw [un_not]
      refine gd_t (gd_t (gd_t ?_))
      rw [un_not]
      refine gd_t ?_
      rw [bin_eql]; refine gd_d rfl ?_
      rw [bin_eql]; refine gd_d rfl ?_
      have a11 := (((((((((((hat11.ext x8).ext x9).ext x10).ext x11).ext x12).ext x13).ext x14).ext x15).ext x16).ext x17).ext xW)
      have a12 := (((((((((((hat12.ext x8).ext x9).ext x10).ext x11).ext x12).ext x13).ext x14).ext x15).ext x16).ext x17).ext xW)
      have a16 := (((((((hat16.ext x11).ext x12).ext x13).ext x14).ext x15).ext x16).ext x17).ext xW
      have lW := (((((((((hlv.ext x9).ext x10).ext x11).ext x12).ext x13).ext x14).ext x15).ext x16).ext x17).ext xW
      rw [SPoint.g_all (has_of_at a11), build_i (new_pt15 _ _), SPoint.eql]; refine gd_d rfl ?_
      rw [SPoint.g_all (has_of_at a12), build_i (new_pt15 _ _), SPoint.eql]; refine gd_d rfl ?_
      refine lit_ints [0, 1] rfl (by decide) (by decide) rfl fun v01 W1 y1 ho1 _ => ?_
      refine callF_ret (sameInts_ret W1 (lW.ext y1) (Sl.of_owns ho1)) ?_
      rintro _ W2 ⟨rfl, y2⟩
      refine gd_d rfl ?_
      rw [SPoint.g_all (has_of_at ((a16.ext y1).ext y2)), build_i (new_pt15 _ _), SPoint.eql]
      exact hK2 _ _ ⟨by rw [decide_eq_true rfl], (xW.trans y1).trans y2⟩
  · rw [bin_eql]; refine gd_d rfl ?_
    rw [bin_eql]; refine gd_d rfl ?_
    rw [bin_eql]; refine gd_d rfl ?_
    rw [bin_eql]; refine gd_d rfl ?_
    rw [bin_eql]; refine gd_d rfl ?_
    rw [bin_eql]; refine gd_d rfl ?_
    rw [bin_eql]; refine gd_d rfl ?_
    rw [bin_eql]; refine gd_d rfl ?_
    rw [bin_eql]; refine gd_d rfl ?_
    rw [bin_eql]
    exact hK _ _ ⟨by rw [decide_eq_true rfl], Ext.refl _⟩
end Go.Proofs.YtdfpdfahcbflpabDoor
