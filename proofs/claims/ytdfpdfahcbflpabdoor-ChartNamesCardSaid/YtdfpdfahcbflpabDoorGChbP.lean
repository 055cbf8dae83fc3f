/- The law ChartNames. -/
import Derived.Test.YtdfpdfahcbflpabDoorGChbO
set_option linter.unusedVariables false
set_option linter.unusedSimpArgs false
namespace Go.Proofs.YtdfpdfahcbflpabDoor
set_option maxRecDepth 100000
set_option maxHeartbeats 16000000
open Sh Go.RowKit
theorem Names.obj {w : World} {b n : Nat} {l : List Int} (h : Names w b n l) : ∀ cs e f, ¬ At w b (.cells cs e f) := by
  obtain ⟨D, h1, _⟩ := h
  obtain ⟨es, clock, hb, _⟩ := h1
  intro cs e f hat
  unfold At at hat
  rw [hb] at hat
  cases hat
theorem Names.mod {S : Nat → Prop} {w w' : World} {b n : Nat} {l : List Int} (h : Names w b n l) (m : Mod S w w') (hS : ¬ S b) : Names w' b n l := by
  obtain ⟨D, h1, h2, h3⟩ := h
  have hlt := h1.lt
  obtain ⟨es, clock, hb, F, hs, hD⟩ := h1
  exact ⟨D, ⟨es, clock, (m.block b hlt hS).trans hb, F, hs, hD⟩, h2, h3⟩
theorem Names.off {w : World} {b n base : Nat} {l : List Int} (h : Names w b n l) {e : TypeId} {sz k : Nat} {v : Value} {xs : List Value} (ho : w.ownsRow base e sz v k xs) : Off (· = b) v := by
  intro j hj hjb
  subst hjb
  rcases ho.2 with ⟨rfl, _⟩ | ⟨g, cap, cur, rfl, _, hg, _⟩
  · simp [Value.ownBlock] at hj
  · have : g = j := by simpa [Value.ownBlock] using hj
    subst this
    exact h.obj _ _ _ (show At w g _ from hg)
theorem Names.ne {w : World} {b n g : Nat} {l : List Int} (h : Names w b n l) {cs : Array Value} {e : TypeId} {f : Nat × Nat} (hat : At w g (.cells cs e f)) : g ≠ b := by
  rintro rfl; exact h.obj _ _ _ hat
namespace Cha
section
variable {α : Type} {f : α → Int} {l : List α}
theorem nodup_rev {β : Type} {l : List β} (h : l.Nodup) : l.reverse.Nodup := by
  unfold List.Nodup at h ⊢
  rw [List.pairwise_reverse]
  exact h.imp Ne.symm
theorem find_key (hnd : (l.map f).Nodup) {id : Int} {a : α} (ha : a ∈ l) (he : f a = id) : l.find? (fun b => decide (f b = id)) = some a := by
  induction l with
  | nil => cases ha
  | cons c l ih =>
    rw [List.map_cons, List.nodup_cons] at hnd
    rw [List.find?_cons]
    rcases List.mem_cons.1 ha with rfl | ha
    · rw [decide_eq_true he]
    · rw [decide_eq_false fun e => hnd.1 (by rw [e, ← he]; exact List.mem_map_of_mem ha)]
      exact ih hnd.2 ha
theorem find_rev (hnd : (l.map f).Nodup) (id : Int) : l.reverse.find? (fun b => decide (f b = id)) = l.find? (fun b => decide (f b = id)) := by
  cases h : l.find? (fun b => decide (f b = id)) with
  | none =>
    rw [List.find?_eq_none] at h ⊢
    exact fun x hx => h x (List.mem_reverse.1 hx)
  | some a =>
    have h1 := List.mem_of_find?_eq_some h
    have h2 := List.find?_some h
    refine find_key (by rw [List.map_reverse]; exact nodup_rev hnd) (List.mem_reverse.2 h1) (of_decide_eq_true h2)
theorem find_is (hnd : (l.map f).Nodup) (id : Int) : (l.find? (fun b => decide (f b = id))).isSome = decide (id ∈ l.map f) := by
  rw [Bool.eq_iff_iff, decide_eq_true_iff, List.find?_isSome, List.mem_map]
  exact ⟨fun ⟨x, h1, h2⟩ => ⟨x, h1, of_decide_eq_true h2⟩, fun ⟨x, h1, h2⟩ => ⟨x, h1, decide_eq_true h2⟩⟩
end
def turnC (C : Cht) : Cht := { C with beacons := C.beacons.reverse, lines := C.lines.reverse }
theorem turn_good {C : Cht} (hG : GoodC C) : GoodC (turnC C) := by
  obtain ⟨h1, h2, ⟨h3, h4, h5⟩, h6, h7, h8⟩ := hG
  refine ⟨h1, h2, ⟨?_, ?_, ?_⟩, ?_, ?_, ?_⟩
  · show C.beacons.reverse.all beaconOk = true
    rw [List.all_reverse]; exact h3
  · show (C.beacons.reverse.map _).Nodup
    rw [List.map_reverse]; exact nodup_rev h4
  · show C.beacons.reverse.length ≤ _
    rw [List.length_reverse]; exact h5
  · show C.lines.reverse.all pathOk = true
    rw [List.all_reverse]; exact h6
  · show (C.lines.reverse.map _).Nodup
    rw [List.map_reverse]; exact nodup_rev h7
  · show C.lines.reverse.length ≤ _
    rw [List.length_reverse]; exact h8
theorem beacon_turn {C : Cht} (hG : GoodC C) (id : Int) : beaconV (turnC C) id = beaconV C id := by
  unfold beaconV
  rw [if_pos hG, if_pos (turn_good hG)]
  rw [show (turnC C).beacons = C.beacons.reverse from rfl, find_rev hG.2.2.1.2.1]
theorem line_turn {C : Cht} (hG : GoodC C) (id : Int) : lineV (turnC C) id = lineV C id := by
  unfold lineV
  rw [if_pos hG, if_pos (turn_good hG)]
  rw [show (turnC C).lines = C.lines.reverse from rfl, find_rev hG.2.2.2.2.1]
theorem beacon_found {C : Cht} (hG : GoodC C) {b : SBeacon} (hb : b ∈ C.beacons) : beaconV C b.id = (b.at_, true, 0) := by
  unfold beaconV
  rw [if_pos hG, find_key hG.2.2.1.2.1 hb rfl]
theorem line_found {C : Cht} (hG : GoodC C) {l : Line} (hl : l ∈ C.lines) : lineV C l.1 = (l, true, 0) := by
  unfold lineV
  rw [if_pos hG, find_key hG.2.2.2.2.1 hl rfl]
theorem beacon_is {C : Cht} (hG : GoodC C) (id : Int) : (beaconV C id).2.1 = decide (id ∈ C.beacons.map (·.id)) ∧ (beaconV C id).2.2 = 0 := by
  rw [← find_is hG.2.2.1.2.1]
  unfold beaconV
  rw [if_pos hG]
  cases C.beacons.find? _ <;> exact ⟨rfl, rfl⟩
theorem line_is {C : Cht} (hG : GoodC C) (id : Int) : (lineV C id).2.1 = decide (id ∈ C.lines.map (·.1)) ∧ (lineV C id).2.2 = 0 := by
  rw [← find_is hG.2.2.2.2.1]
  unfold lineV
  rw [if_pos hG]
  cases C.lines.find? _ <;> exact ⟨rfl, rfl⟩
end Cha
theorem nd_beacon {w0 : World} {X : List PanicEntry → World → Prop} {rest : Value → (World → Prop) → Prop} (b : SBeacon)
    (hk : ∀ v, rest v fun W => SBeacon.Row W v [b]) : NdOp Ext Ext w0 (fun w1 K => DoV Tryd.prog (Instr.buildSlice 23 1 #[(0, .agg b.cells.toArray)]) w1 K X) rest :=
  ⟨fun v W => SBeacon.Row W v [b], fun _ _ _ h x => Sl.ext h x, fun w1 _ => SBeacon.row_lit [b] rfl (by decide) (by decide) rfl fun v w2 x2 ho _ => ⟨x2, Sl.of_owns ho⟩, hk⟩
theorem nd_line {w0 : World} {X : List PanicEntry → World → Prop} {rest : Value → (World → Prop) → Prop} (b : SLine)
    (hk : ∀ v, rest v fun W => SLine.Row W v [b]) : NdOp Ext Ext w0 (fun w1 K => DoV Tryd.prog (Instr.buildSlice 24 1 #[(0, .agg b.cells.toArray)]) w1 K X) rest :=
  ⟨fun v W => SLine.Row W v [b], fun _ _ _ h x => Sl.ext h x, fun w1 _ => SLine.row_lit [b] rfl (by decide) (by decide) rfl fun v w2 x2 ho _ => ⟨x2, Sl.of_owns ho⟩, hk⟩
def Nam (w5 : World) (s : SChart) (b6 km dm : Nat) (bl : List SBeacon) (ll : List SLine) (n1 n2 : Nat) (k1 k2 : List Int) (W : World) : Prop :=
  Ext w5 W ∧ ∃ d e : Hdr, At W b6 (.cells ({ s with bs := d, ls := e } : SChart).cells.toArray 26 (0, 0)) ∧ SBeacon.Owns w5.heap.size W d.val bl ∧ SLine.Owns w5.heap.size W e.val ll ∧ Names W km n1 k1 ∧ Names W dm n2 k2
theorem Nam.ext {w5 : World} {s : SChart} {b6 km dm : Nat} {bl : List SBeacon} {ll : List SLine} {n1 n2 : Nat} {k1 k2 : List Int} {W V : World} (h : Nam w5 s b6 km dm bl ll n1 n2 k1 k2 W) (x : Ext W V) : Nam w5 s b6 km dm bl ll n1 n2 k1 k2 V := by
  obtain ⟨h0, d, e, h1, h2, h3, h4, h5⟩ := h
  exact ⟨h0.trans x, d, e, h1.ext x, Own.ext h2 x, Own.ext h3 x, h4.ext x, h5.ext x⟩
theorem app_off {e e' : TypeId} {base base' sz sz' n n' : Nat} {v u : Value} {xs ys : List Value} {w w1 : World} (h' : w.ownsRow base' e' sz' u n' ys) (m : Mod (fun k => v.ownBlock = some k) w w1) (h : w.ownsRow base e sz v n xs) (hne : e ≠ e') : w1.ownsRow base' e' sz' u n' ys :=
  Own.mod h' m (Own.off_own h h' hne)
open Cha in
theorem ChartNames_ret {s : SChart} {C : Cht} {id : Int} (w : World) (hc : ChartIs w s C) (hok : ChartOk C) (hid : I64 id) (hT : Tab w) : Ret Tryd.prog 3 #[.agg s.cells.toArray, .int .i64 id] w (TrueQ w) := by
  refine ret_of (fun _ _ => sh_landfalllaw15_ChartNames_ok _ _) fun R hR => ?_
  unfold sh_landfalllaw15_ChartNames
  refine box_i fun g w1 x1 hat1 hg1 _ => ?_
  refine callF_ret (head15_ret w1 (hT.ext x1)) ?_
  rintro _ w2 ⟨rfl, x2⟩
  rw [SChart.g_all (has_of_at (hat1.ext x2))]
  refine callF_ret (usable_ret w2 (hc.ext (x1.trans x2))) ?_
  rintro _ w5 ⟨⟨t, rfl, ht⟩, x5⟩
  have x05 := (x1.trans x2).trans x5
  rw [un_not]
  refine Br_i (fun hb => hR _ _ ⟨rfl, x05⟩) fun hb => ?_
  have hG := (ht.1 (nd hb)).2
  have hat5 := hat1.ext (x2.trans x5)
  have l5 := hat5.lt
  have hc5 := hc.ext x05
  have hg : ∀ V, Ext w5 V → Has V g 0 s.cells := fun V x => has_of_at (hat5.ext x)
  have hbl := hG.2.2.1.2.2
  have hll := hG.2.2.2.2.2
  rw [SChart.g_all (hg w5 (Ext.refl _))]
  refine chart_new fun b6 w6 x6 hat6 hb6 => ?_
  refine SChart.s_bs (x := ⟨none, 0, 0⟩) hat6 fun w7 m7 hat7 s7 => ?_
  refine SChart.s_ls (x := ⟨none, 0, 0⟩) hat7 fun w8 m8 hat8 s8 => ?_
  have x58 : Ext w5 w8 := ((Mod.of_ext x6 : Mod (w5.heap.size ≤ ·) w5 w6).trans ((m7.trans m8).mono fun k _ h => by omega)).new
  refine names_make fun km w9 x9 hk9 hkm => ?_
  refine names_make fun dm w10 x10 hd10 hdm => ?_
  have hk10 := hk9.ext x10
  have z58 := x58.size
  have z9 := x9.size
  have hkd : km ≠ dm := by have := hk9.lt; omega
  have hn0 : Nam w5 s b6 km dm [] [] 0 0 [] [] w10 := ⟨(x58.trans x9).trans x10, _, _, (hat8.ext x9).ext x10, Own.nil _ _ _ _, Own.nil _ _ _ _, hk10, hd10⟩
  have x510 := (x58.trans x9).trans x10
  have hbm := hat6.lt
  have hle := hc.beacons.le
  rw [SChart.g_bs (hg w10 x510), SBeacon.row_len (Sl.ext hc5.beacons x510)]
  have hrb : C.beacons.reverse.length = C.beacons.length := List.length_reverse
  refine loop2 (fun a x W => ∃ i : Nat, i ≤ C.beacons.length ∧ a = .bool true ∧ x = .int .i64 i ∧ Nam w5 s b6 km dm (C.beacons.reverse.take i) [] i 0 ((C.beacons.take i).map (·.id)) [] W) (fun _ x _ => C.beacons.length - (intOf x).toNat) ⟨0, by omega, rfl, rfl, by simpa using hn0⟩ ?_
  rintro h _ _ W h5 h44 ⟨i, hi, rfl, rfl, hN⟩ K hK
  have xW := hN.1
  rw [h44, bin_lss]
  refine Br_i (fun hb1 => ?_) fun hb1 => ?_
  · have hlt : i < C.beacons.length := by have := dec_t hb1; omega
    refine join1 (fun a W' => a = .bool true ∧ Nam w5 s b6 km dm (C.beacons.reverse.take (i + 1)) [] (i + 1) 0 ((C.beacons.take (i + 1)).map (·.id)) [] W') ?_ fun K1 hK1 => ?_
    · rintro h2 _ W' ha ⟨rfl, y1⟩
      rw [ha, bin_add, i64_wrap (by omega) (by omega)]
      exact hK _ _ _ ⟨i + 1, by omega, rfl, by simp, y1⟩ (by simp [intOf]; omega)
    obtain ⟨pb, po, hh, _, hix⟩ := SBeacon.row_at hc5.beacons hlt
    have hmem := List.getElem_mem hlt
    rw [hix, SBeacon.g_all (hh W xW)]
    refine alloc_i Ty.SBeacon_zero fun b10 w11 x11 hat11 hb10 _ => ?_
    refine SBeacon.set (r := SBeacon.zero) hat11 fun w12 m12 hat12 s12 => ?_
    have z11 := x11.size
    have xW12 : Ext W w12 := ext_step15 x11 m12 (by omega)
    have x512 := xW.trans xW12
    rw [SChart.g_all (hg w12 x512), SBeacon.g_id (has_of_at hat12)]
    refine callF_ret (chBeacon_ret w12 (hc5.ext x512) hok) ?_
    rintro _ w13 ⟨rfl, x13⟩
    rw [beacon_found hG hmem]
    dsimp only
    rw [ext3_0, ext3_1, ext3_2]
    refine pt_new fun b11 w14 x14 hat14 => ?_
    have xW14 := (xW12.trans x13).trans x14
    have h12' := (hat12.ext x13).ext x14
    refine join1 (fun a W' => a = .bool true ∧ W' = w14) ?_ fun K2 hK2 => ?_
    · rintro h2 _ W' h5b ⟨rfl, hW'⟩
      subst W'
      refine draw_ext fun w15 x15 => ?_
      obtain ⟨_, d, e, n1, n2, n3, n4, n5⟩ := hN.ext (xW14.trans x15)
      have x515 := xW.trans (xW14.trans x15)
      have hrev : C.beacons.length - 1 - i < C.beacons.length := by omega
      obtain ⟨pb2, po2, hh2, _, hix2⟩ := SBeacon.row_at hc5.beacons hrev
      have hr6 : ∀ V, Ext w15 V → Has V b6 0 _ := fun V x => has_of_at (n1.ext x)
      have ld6 : ∀ V, Ext w15 V → ∀ {K : Value → World → Prop} {X : List PanicEntry → World → Prop}, DoV Tryd.prog (Instr.loadAt 23 (.pointer (some ⟨b6, 0 + 7, none⟩))) V K X = K d.val V := fun V x K X => load_cell (fun w => show (isAgg 23).run Tryd.prog w = .ok false w by kernel_rfl) (has_at (hr6 V x) (d := 7) rfl rfl)
      have ldg : ∀ V, Ext w15 V → ∀ {K : Value → World → Prop} {X : List PanicEntry → World → Prop}, DoV Tryd.prog (Instr.loadAt 23 (.pointer (some ⟨g, 0 + 7, none⟩))) V K X = K s.bs.val V := fun V x K X => load_cell (fun w => show (isAgg 23).run Tryd.prog w = .ok false w by kernel_rfl) (has_at (hg V (x515.trans x)) (d := 7) rfl rfl)
      refine det_read _ (fun V x K => Ty.SChart_f7) ?_
      refine det_read _ (fun V x K => ld6 V x) ?_
      refine det_read _ (fun V x K => Ty.SChart_f7) ?_
      refine det_read _ (fun V x K => ldg V x) ?_
      refine det_read _ (fun V x K => Ty.SChart_f7) ?_
      refine det_read _ (fun V x K => ldg V x) ?_
      refine det_read _ (fun V x K => SBeacon.row_len (Sl.ext hc5.beacons (x515.trans x))) ?_
      refine det_read (.int .i64 ((C.beacons.length : Int) - 1)) (fun V x K => by rw [bin_sub, i64_wrap (by omega) (by omega)]) ?_
      refine det_read (.int .i64 ((C.beacons.length - 1 - i : Nat) : Int)) (fun V x K => by rw [bin_sub, i64_wrap (by omega) (by omega)]; congr 2; omega) ?_
      refine det_read _ (fun V x K => hix2 V K _) ?_
      refine det_read _ (fun V x K => SBeacon.g_all (hh2 V (x515.trans x))) ?_
      refine nd_beacon _ fun vl => ?_
      intro w16 x16 hψ
      have hlit := hψ.2
      have n2' := Own.ext n2 x16
      have z16 := (xW.trans ((xW14.trans x15).trans x16)).size
      have hoff10 : ¬ d.val.ownBlock = some b10 := fun hk => by
        obtain ⟨_, d0, e0, n10, n20, _, _, _⟩ := hN
        have h1 := n10.ext (xW14.trans x15)
        unfold At at h1 n1
        rw [n1] at h1
        simp only [Option.some.injEq, Obj.cells.injEq, and_true] at h1
        have h2 : d = d0 := by
          have := congrArg (fun a : Array Value => a[7]?) h1
          exact (Hdr.val_inj _ _).1 (by simpa [SChart.cells] using this)
        subst h2
        have := (Own.block n20 hk).2
        omega
      refine SBeacon.row_apps n2' hlit (by simp; omega) (by omega) fun v' w17 ho17 m17 => ?_
      have hat17 := (n1.ext x16).mod m17 (Own.off_at n2' (n1.ext x16) (by decide) _ · rfl)
      obtain ⟨d', rfl⟩ := Hdr.of_sl (Sl.of_owns ho17)
      refine SChart.s_bs (x := d') hat17 fun w18 m18 hat18 s18 => ?_
      have hl10 := ((h12'.ext x15).ext x16).mod m17 hoff10
      have ne106 : b10 ≠ b6 := fun e => by rw [e] at hl10; exact At.inj hl10 hat17 (by decide) rfl
      have hl18 := hl10.mod m18 ne106
      rw [SBeacon.g_id (has_of_at hl18)]
      have hk17 := (n4.ext x16).mod m17 ((n4.ext x16).off n2' _ · rfl)
      have hd17 := (n5.ext x16).mod m17 ((n5.ext x16).off n2' _ · rfl)
      have hk18 := hk17.mod m18 (fun e => hk17.ne hat17 e.symm)
      have hd18 := hd17.mod m18 (fun e => hd17.ne hat17 e.symm)
      have ho18 := Own.mod ho17 m18 (Own.off_at ho17 hat17 (by decide))
      have he18 := Own.mod (app_off (Own.ext n3 x16) m17 n2' (by decide)) m18 (Own.off_at (app_off (Own.ext n3 x16) m17 n2' (by decide)) hat17 (by decide))
      refine names_put hk18 (hok.beacons _ hmem).1 (by simp [maxLen]; omega) fun w19 hk19 m19 => ?_
      refine hK1 _ _ ⟨h5b, ?_, d', e, hat18.mod m19 (hk18.ne hat18), ?_, Own.mod he18 m19 (hk18.off he18), ?_, hd18.mod m19 (fun e => hkd e.symm)⟩
      · have q1 : Mod (w5.heap.size ≤ ·) w5 w16 := .of_ext (x515.trans x16)
        exact (((q1.trans (m17.mono fun k _ hk => (Own.block n2' hk).1)).trans (m18.mono fun k _ h => by omega)).trans (m19.mono fun k _ h => by omega)).new
      · have e1 : C.beacons.reverse.take (i + 1) = C.beacons.reverse.take i ++ [C.beacons[C.beacons.length - 1 - i]] := by
          rw [List.take_succ_eq_append_getElem (by rw [hrb]; exact hlt), List.getElem_reverse]
        rw [e1]
        exact Own.mod ho18 m19 (hk18.off ho18)
      · refine hk19.congr fun q => ?_
        rw [List.take_succ_eq_append_getElem hlt, List.map_append, List.mem_append, List.mem_cons]
        simp [or_comm]
    · rw [h5]
      refine gd_t ?_
      rw [bin_eql]; refine gd_d rfl ?_
      refine gd_t ?_
      rw [SPoint.g_all (has_of_at hat14), SBeacon.g_at_ (has_of_at h12'), SPoint.eql]
      exact hK2 _ _ ⟨by rw [decide_eq_true rfl], rfl⟩
  have hie : i = C.beacons.length := by have := dec_f hb1; omega
  subst hie
  rw [List.take_length, List.take_of_length_le (by rw [hrb]; exact Nat.le_refl _)] at hN
  obtain ⟨ss, hrow, hsl, hrel⟩ := hc5.lines
  have hrs : ss.reverse.length = ss.length := List.length_reverse
  rw [SChart.g_ls (hg W xW), (hc5.lines.ext xW).len, h5]
  refine loop2 (fun a x W => ∃ i : Nat, i ≤ C.lines.length ∧ a = .bool true ∧ x = .int .i64 i ∧ Nam w5 s b6 km dm C.beacons.reverse (ss.reverse.take i) C.beacons.length i (C.beacons.map (·.id)) ((C.lines.take i).map (·.1)) W) (fun _ x _ => C.lines.length - (intOf x).toNat) ⟨0, by omega, rfl, rfl, by simpa using hN⟩ ?_
  clear hb1 h44 h5 hN xW
  rintro h _ _ W h5 h44 ⟨i, hi, rfl, rfl, hN⟩ K hK
  have xW := hN.1
  rw [h44, bin_lss]
  refine Br_i (fun hb1 => ?_) fun hb1 => ?_
  · have hlt : i < C.lines.length := by have := dec_t hb1; omega
    have hlts : i < ss.length := by omega
    refine join1 (fun a W' => a = .bool true ∧ Nam w5 s b6 km dm C.beacons.reverse (ss.reverse.take (i + 1)) C.beacons.length (i + 1) (C.beacons.map (·.id)) ((C.lines.take (i + 1)).map (·.1)) W') ?_ fun K1 hK1 => ?_
    · rintro h2 _ W' ha ⟨rfl, y1⟩
      rw [ha, bin_add, i64_wrap (by omega) (by omega)]
      exact hK _ _ _ ⟨i + 1, by omega, rfl, by simp, y1⟩ (by simp [intOf]; omega)
    obtain ⟨pb, po, hh, _, hix⟩ := SLine.row_at hrow hlts
    have hmem := List.getElem_mem hlt
    have hli := hrel i _ _ (List.getElem?_eq_getElem hlts) (List.getElem?_eq_getElem hlt)
    rw [hix, SLine.g_all (hh W xW)]
    refine alloc_i Ty.SLine_zero fun b10 w11 x11 hat11 hb10 _ => ?_
    refine SLine.set (r := SLine.zero) hat11 fun w12 m12 hat12 s12 => ?_
    have z11 := x11.size
    have xW12 : Ext W w12 := ext_step15 x11 m12 (by omega)
    have x512 := xW.trans xW12
    rw [SChart.g_all (hg w12 x512), SLine.g_id (has_of_at hat12), hli.1]
    refine callF_ret (chLineOf_ret w12 (hc5.ext x512) hok) ?_
    rintro _ w13 ⟨⟨tl, rfl, htl⟩, x13⟩
    rw [line_found hG hmem] at htl
    rw [line_found hG hmem]
    dsimp only at htl ⊢
    rw [ext3_0, ext3_1, ext3_2]
    refine line_new fun b11 w14 x14 hat14 => ?_
    have xW14 := (xW12.trans x13).trans x14
    have h12' := (hat12.ext x13).ext x14
    refine join1 (fun a W' => a = .bool true ∧ Ext w14 W') ?_ fun K2 hK2 => ?_
    · rintro h2 _ W' h5b ⟨rfl, xW'⟩
      refine draw_ext fun w15 x15 => ?_
      have xx := (xW14.trans xW').trans x15
      obtain ⟨_, d, e, n1, n2, n3, n4, n5⟩ := hN.ext xx
      have x515 := xW.trans xx
      have hrev : ss.length - 1 - i < ss.length := by omega
      obtain ⟨pb2, po2, hh2, _, hix2⟩ := SLine.row_at hrow hrev
      have hr6 : ∀ V, Ext w15 V → Has V b6 0 _ := fun V x => has_of_at (n1.ext x)
      have ld6 : ∀ V, Ext w15 V → ∀ {K : Value → World → Prop} {X : List PanicEntry → World → Prop}, DoV Tryd.prog (Instr.loadAt 24 (.pointer (some ⟨b6, 0 + 8, none⟩))) V K X = K e.val V := fun V x K X => load_cell (fun w => show (isAgg 24).run Tryd.prog w = .ok false w by kernel_rfl) (has_at (hr6 V x) (d := 8) rfl rfl)
      have ldg : ∀ V, Ext w15 V → ∀ {K : Value → World → Prop} {X : List PanicEntry → World → Prop}, DoV Tryd.prog (Instr.loadAt 24 (.pointer (some ⟨g, 0 + 8, none⟩))) V K X = K s.ls.val V := fun V x K X => load_cell (fun w => show (isAgg 24).run Tryd.prog w = .ok false w by kernel_rfl) (has_at (hg V (x515.trans x)) (d := 8) rfl rfl)
      refine det_read _ (fun V x K => Ty.SChart_f8) ?_
      refine det_read _ (fun V x K => ld6 V x) ?_
      refine det_read _ (fun V x K => Ty.SChart_f8) ?_
      refine det_read _ (fun V x K => ldg V x) ?_
      refine det_read _ (fun V x K => Ty.SChart_f8) ?_
      refine det_read _ (fun V x K => ldg V x) ?_
      refine det_read _ (fun V x K => SLine.row_len (Sl.ext hrow (x515.trans x))) ?_
      refine det_read (.int .i64 ((ss.length : Int) - 1)) (fun V x K => by rw [bin_sub, i64_wrap (by omega) (by omega)]) ?_
      refine det_read (.int .i64 ((ss.length - 1 - i : Nat) : Int)) (fun V x K => by rw [bin_sub, i64_wrap (by omega) (by omega)]; congr 2; omega) ?_
      refine det_read _ (fun V x K => hix2 V K _) ?_
      refine det_read _ (fun V x K => SLine.g_all (hh2 V (x515.trans x))) ?_
      refine nd_line _ fun vl => ?_
      intro w16 x16 hψ
      have hlit := hψ.2
      have n3' := Own.ext n3 x16
      have z16 := (xW.trans (xx.trans x16)).size
      have hoff10 : ¬ e.val.ownBlock = some b10 := fun hk => by
        obtain ⟨_, d0, e0, n10, _, n30, _, _⟩ := hN
        have h1 := n10.ext xx
        unfold At at h1 n1
        rw [n1] at h1
        simp only [Option.some.injEq, Obj.cells.injEq, and_true] at h1
        have h2 : e = e0 := by
          have := congrArg (fun a : Array Value => a[8]?) h1
          exact (Hdr.val_inj _ _).1 (by simpa [SChart.cells] using this)
        subst h2
        have := (Own.block n30 hk).2
        omega
      refine SLine.row_apps n3' hlit (by simp; omega) (by omega) fun v' w17 ho17 m17 => ?_
      have hat17 := (n1.ext x16).mod m17 (Own.off_at n3' (n1.ext x16) (by decide) _ · rfl)
      obtain ⟨e', rfl⟩ := Hdr.of_sl (Sl.of_owns ho17)
      refine SChart.s_ls (x := e') hat17 fun w18 m18 hat18 s18 => ?_
      have hl10 := (((h12'.ext xW').ext x15).ext x16).mod m17 hoff10
      have ne106 : b10 ≠ b6 := fun e => by rw [e] at hl10; exact At.inj hl10 hat17 (by decide) rfl
      have hl18 := hl10.mod m18 ne106
      rw [SLine.g_id (has_of_at hl18), hli.1]
      have hk17 := (n4.ext x16).mod m17 ((n4.ext x16).off n3' _ · rfl)
      have hd17 := (n5.ext x16).mod m17 ((n5.ext x16).off n3' _ · rfl)
      have hk18 := hk17.mod m18 (fun e => hk17.ne hat17 e.symm)
      have hd18 := hd17.mod m18 (fun e => hd17.ne hat17 e.symm)
      have ho18 := Own.mod ho17 m18 (Own.off_at ho17 hat17 (by decide))
      have hb18 := Own.mod (app_off (Own.ext n2 x16) m17 n3' (by decide)) m18 (Own.off_at (app_off (Own.ext n2 x16) m17 n3' (by decide)) hat17 (by decide))
      refine names_put hd18 (hok.lines _ hmem).1 (by simp [maxLen]; omega) fun w19 hd19 m19 => ?_
      refine hK1 _ _ ⟨h5b, ?_, d, e', hat18.mod m19 (hd18.ne hat18), Own.mod hb18 m19 (hd18.off hb18), ?_, hk18.mod m19 hkd, ?_⟩
      · have q1 : Mod (w5.heap.size ≤ ·) w5 w16 := .of_ext (x515.trans x16)
        exact (((q1.trans (m17.mono fun k _ hk => (Own.block n3' hk).1)).trans (m18.mono fun k _ h => by omega)).trans (m19.mono fun k _ h => by omega)).new
      · have e1 : ss.reverse.take (i + 1) = ss.reverse.take i ++ [ss[ss.length - 1 - i]] := by
          rw [List.take_succ_eq_append_getElem (by rw [hrs]; exact hlts), List.getElem_reverse]
        rw [e1]
        exact Own.mod ho18 m19 (hd18.off ho18)
      · refine hd19.congr fun q => ?_
        rw [List.take_succ_eq_append_getElem hlt, List.map_append, List.mem_append, List.mem_cons]
        simp [or_comm]
    · rw [h5]
      refine gd_t ?_
      rw [bin_eql]; refine gd_d rfl ?_
      refine gd_t ?_
      rw [SLine.g_all (has_of_at hat14), SLine.g_all (has_of_at h12')]
      refine callF_ret (refSameLine_ret w14 (htl.ext x14) (hli.ext (xW.trans xW14))) ?_
      rintro _ w15 ⟨rfl, x15⟩
      exact hK2 _ _ ⟨by rw [decide_eq_true rfl], x15⟩
  have hie : i = C.lines.length := by have := dec_f hb1; omega
  subst hie
  rw [List.take_length, List.take_of_length_le (by rw [hrs]; omega)] at hN
  have hGD := turn_good hG
  have hokD : ChartOk (turnC C) := ⟨hok.nums, hok.cells, fun b hb => hok.beacons b (List.mem_reverse.1 hb), fun l hl => hok.lines l (List.mem_reverse.1 hl)⟩
  obtain ⟨bi1, bi2⟩ := beacon_is hG id
  obtain ⟨li1, li2⟩ := line_is hG id
  obtain ⟨_, d, e, n1, n2, n3, n4, n5⟩ := hN
  have hD : ∀ V, Ext W V → ChartIs V ({ s with bs := d, ls := e } : SChart) (turnC C) := fun V x => by
    have q := hc5.ext (xW.trans x)
    refine ⟨q.ver, q.x, q.y, q.w, q.h, q.size, q.cells, Sl.ext (Sl.of_owns n2) x, ss.reverse, Sl.ext (Sl.of_owns n3) x, by rw [hrs, hsl]; exact (List.length_reverse).symm, fun j sl l e1 e2 => ?_⟩
    have hj : j < ss.length := by have := (List.getElem?_eq_some_iff.1 e1).1; omega
    rw [List.getElem?_reverse (by omega)] at e1
    have e2 : C.lines.reverse[j]? = some l := e2
    rw [List.getElem?_reverse (by omega), ← hsl] at e2
    exact (hrel _ _ _ e1 e2).ext (xW.trans x)
  have h6 : ∀ V, Ext W V → Has V b6 0 ({ s with bs := d, ls := e } : SChart).cells := fun V x => has_of_at (n1.ext x)
  rw [SChart.g_all (hg W xW)]
  refine callF_ret (chBeacon_ret W (hc5.ext xW) hok) ?_
  rintro _ v1 ⟨rfl, y1⟩
  rw [ext3_0, ext3_1, ext3_2]
  refine pt_new fun c19 v2 y2 hat19 => ?_
  have y12 := y1.trans y2
  rw [SChart.g_all (h6 v2 y12)]
  refine callF_ret (chBeacon_ret v2 (hD v2 y12) hokD) ?_
  rintro _ v3 ⟨rfl, y3⟩
  rw [beacon_turn hG, ext3_0, ext3_1, ext3_2]
  refine pt_new fun c22 v4 y4 hat22 => ?_
  have y14 := (y12.trans y3).trans y4
  rw [SChart.g_all (hg v4 (xW.trans y14))]
  refine callF_ret (chLineOf_ret v4 (hc5.ext (xW.trans y14)) hok) ?_
  rintro _ v5 ⟨⟨t1, rfl, ht1⟩, y5⟩
  rw [ext3_0, ext3_1, ext3_2]
  refine line_new fun c25 v6 y6 hat25 => ?_
  have y16 := (y14.trans y5).trans y6
  rw [SChart.g_all (h6 v6 y16)]
  refine callF_ret (chLineOf_ret v6 (hD v6 y16) hokD) ?_
  rintro _ v7 ⟨⟨t2, rfl, ht2⟩, y7⟩
  rw [line_turn hG] at ht2
  rw [line_turn hG, ext3_0, ext3_1, ext3_2]
  refine line_new fun c28 v8 y8 hat28 => ?_
  have y18 := (y16.trans y7).trans y8
  rw [h5, bi2, li2]
  refine gd_t ?_
  rw [bin_eql]; refine gd_d rfl ?_
  rw [bin_eql]; refine gd_d rfl ?_
  rw [bin_eql]; refine gd_d rfl ?_
  rw [bin_eql]; refine gd_d rfl ?_
  rw [SPoint.g_all (has_of_at ((((((hat19.ext y3).ext y4).ext y5).ext y6).ext y7).ext y8)), SPoint.g_all (has_of_at ((((hat22.ext y5).ext y6).ext y7).ext y8)), SPoint.eql]; refine gd_d rfl ?_
  rw [eql_bool15]; refine gd_d rfl ?_
  rw [names_look (n4.ext y18) hid, eql_bool15]; refine gd_d bi1 ?_
  rw [eql_bool15]; refine gd_d rfl ?_
  rw [names_look (n5.ext y18) hid, eql_bool15]; refine gd_d li1 ?_
  rw [SLine.g_all (has_of_at ((hat25.ext y7).ext y8)), SLine.g_all (has_of_at hat28)]
  refine callF_ret (refSameLine_ret v8 (((ht1.ext y6).ext y7).ext y8) (ht2.ext y8)) ?_
  rintro _ v9 ⟨rfl, y9⟩
  exact hR _ _ ⟨by rw [decide_eq_true rfl], ((x05.trans xW).trans y18).trans y9⟩
end Go.Proofs.YtdfpdfahcbflpabDoor
