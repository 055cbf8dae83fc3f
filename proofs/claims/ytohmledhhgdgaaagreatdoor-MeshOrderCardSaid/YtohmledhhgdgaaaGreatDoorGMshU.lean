/- Boxes of reports that live while variables of boxes turn: put and Add once more. -/
import Derived.Test.YtohmledhhgdgaaaGreatDoorGMshO
set_option linter.unusedVariables false
set_option linter.unusedSimpArgs false
namespace Go.Proofs.YtohmledhhgdgaaaGreatDoor
set_option maxRecDepth 100000
set_option maxHeartbeats 16000000
open Sh Go.RowKit
def EntT (N : Nat) (w : World) (v : Value) (l : List SEntry) : Prop := SEntry.Owns 0 w v l ∨ ∀ W, Mod (N ≤ ·) w W → SEntry.Row W v l
def RepT (N : Nat) (w : World) (s : SReport) (r : Rep.Rpt) : Prop := s.veh = r.veh ∧ s.first = r.first ∧ EntT N w s.ents.val r.ents ∧ s.before = r.before ∧ s.chain = r.chain ∧ s.sig = r.sig
def RowT (N : Nat) (w : World) (v : Value) (ss : List SReport) : Prop := SReport.Owns 0 w v ss ∨ ∀ W, Mod (N ≤ ·) w W → SReport.Row W v ss
def ListT (N : Nat) (w : World) (ss : List SReport) (l : List Rep.Rpt) : Prop := ss.length = l.length ∧ ∀ (i : Nat) (s : SReport) (r : Rep.Rpt), ss[i]? = some s → l[i]? = some r → RepT N w s r
def RepsT (N : Nat) (w : World) (v : Value) (l : List Rep.Rpt) : Prop := ∃ ss, RowT N w v ss ∧ ListT N w ss l
def BoxT (N : Nat) (w : World) (g : SBox) (b : Int × List Rep.Rpt) : Prop := g.veh = b.1 ∧ RepsT N w g.reps.val b.2
section typed
variable {N : Nat} {w W w0 : World} {v : Value} {s : SReport} {g : SBox} {b : Int × List Rep.Rpt} {r : Rep.Rpt} {l l' : List Rep.Rpt} {ss ss' : List SReport} {es : List SEntry}
inductive Soft (N : Nat) : World → World → Prop
  | ext {a b : World} (x : Ext a b) : Soft N a b
  | row {a b : World} {base sz n : Nat} {e : TypeId} {v : Value} {xs : List Value} (h : a.ownsRow base e sz v n xs) (h1 : e ≠ 89) (h2 : e ≠ 30) (hN : N ≤ base) (m : Mod (fun k => v.ownBlock = some k) a b) : Soft N a b
  | box {a b : World} {c : Nat} {cs : Array Value} {f : Nat × Nat} (hat : At a c (.cells cs 24 f)) (hN : N ≤ c) (m : Mod (· = c) a b) : Soft N a b
theorem EntT.soft (h : EntT N w v es) (x : Soft N w W) : EntT N W v es := by
  cases x with
  | row hr h1 h2 hN m => exact h.imp (fun h => Own.mod h m (Own.off_own hr h h1)) fun h W' m' => h W' ((m.mono fun k _ hk => Nat.le_trans hN (Own.block hr hk).1).trans m')
  | ext x => exact h.imp (fun h => Own.ext h x) fun h W' m' => h W' ((Mod.of_ext x).trans m')
  | box hat hN m => exact h.imp (fun h => Own.mod h m (Own.off_at h hat (by decide))) fun h W' m' => h W' ((m.mono fun k _ hk => by have hk : k = _ := hk; omega).trans m')
theorem RowT.soft (h : RowT N w v ss) (x : Soft N w W) : RowT N W v ss := by
  cases x with
  | row hr h1 h2 hN m => exact h.imp (fun h => Own.mod h m (Own.off_own hr h h2)) fun h W' m' => h W' ((m.mono fun k _ hk => Nat.le_trans hN (Own.block hr hk).1).trans m')
  | ext x => exact h.imp (fun h => Own.ext h x) fun h W' m' => h W' ((Mod.of_ext x).trans m')
  | box hat hN m => exact h.imp (fun h => Own.mod h m (Own.off_at h hat (by decide))) fun h W' m' => h W' ((m.mono fun k _ hk => by have hk : k = _ := hk; omega).trans m')
theorem RepT.soft (h : RepT N w s r) (x : Soft N w W) : RepT N W s r := ⟨h.1, h.2.1, h.2.2.1.soft x, h.2.2.2⟩
theorem ListT.soft (h : ListT N w ss l) (x : Soft N w W) : ListT N W ss l := ⟨h.1, fun i s r e1 e2 => (h.2 i s r e1 e2).soft x⟩
theorem RepsT.soft (h : RepsT N w v l) (x : Soft N w W) : RepsT N W v l := by obtain ⟨ss, h1, h2⟩ := h; exact ⟨ss, h1.soft x, h2.soft x⟩
theorem BoxT.soft (h : BoxT N w g b) (x : Soft N w W) : BoxT N W g b := ⟨h.1, h.2.soft x⟩
theorem BoxT.ext (h : BoxT N w g b) (x : Ext w W) : BoxT N W g b := h.soft (.ext x)
theorem EntT.row (h : EntT N w v es) : SEntry.Row w v es := h.elim Sl.of_owns fun h => h w (Mod.refl _ _)
theorem RowT.row (h : RowT N w v ss) : SReport.Row w v ss := h.elim Sl.of_owns fun h => h w (Mod.refl _ _)
theorem RepT.is (h : RepT N w s r) : RepIs w s r := ⟨h.1, h.2.1, h.2.2.1.row, h.2.2.2⟩
theorem RepsT.is (h : RepsT N w v l) : RepsIs w v l := by obtain ⟨ss, h1, h2, h3⟩ := h; exact ⟨ss, h1.row, h2, fun i s r e1 e2 => (h3 i s r e1 e2).is⟩
theorem BoxT.is (h : BoxT N w g b) : BoxIs w g b := ⟨h.1, h.2.is⟩
theorem RepsT.hdr (h : RepsT N w v l) : ∃ d : Hdr, v = d.val := by obtain ⟨ss, h1, _⟩ := h; exact Hdr.of_sl h1.row
theorem BoxT.zero (N : Nat) (w : World) (v : Int) : BoxT N w ⟨v, ⟨none, 0, 0⟩⟩ (v, []) := ⟨rfl, [], .inl (SReport.owns_nil _ _), rfl, fun i s r h _ => by simp at h⟩
theorem BoxT.of_ext (h : BoxIs w0 g b) (x : Ext w0 w) (hN : w0.heap.size ≤ N) : BoxT N w g b := by
  obtain ⟨ss, h1, h2⟩ := LiveR.of_ext (B := (N ≤ ·)) h.2 x fun k hk => by omega
  exact ⟨h.1, ss, .inr h1, h2.1, fun i s r e1 e2 => ⟨(h2.2 i s r e1 e2).is.1, (h2.2 i s r e1 e2).is.2.1, .inr fun W m => (h2.2 i s r e1 e2 W m).2.2.1, (h2.2 i s r e1 e2).is.2.2.2⟩⟩
theorem ListT.insert (h : ListT N w ss l) (hr : RepT N w s r) (i : Nat) : ListT N w (ss.take i ++ s :: ss.drop i) (l.take i ++ r :: l.drop i) := by
  refine ⟨by simp [h.1], fun j t q e1 e2 => ?_⟩
  rw [List.getElem?_append] at e1 e2
  rw [List.length_take] at e1 e2
  rw [← h.1] at e2
  split at e1
  · rename_i hj
    rw [if_pos hj] at e2
    rw [List.getElem?_take_of_lt (by omega)] at e1 e2
    exact h.2 j t q e1 e2
  · rename_i hj
    rw [if_neg hj] at e2
    cases hk : j - min i ss.length with
    | zero => rw [hk] at e1 e2; cases e1; cases e2; exact hr
    | succ k =>
      rw [hk] at e1 e2
      rw [List.getElem?_cons_succ, List.getElem?_drop] at e1 e2
      exact h.2 _ t q e1 e2
end typed
theorem mput_t {N : Nat} {v : Value} {t : SReport} {l : List Rep.Rpt} {r : Rep.Rpt} (hs : Msh.Sorted l) (hn : l.length < 10000) (hl : ∀ x ∈ l, x.ents.length < 1000000) (hr : r.ents.length < 1000000) (w : World) (hv : RepsT N w v l) (ht : RepIs w t r) :
    Ret Tryz.prog 31 #[v, .agg t.cells.toArray] w fun u w' => RepsT N w' u (Msh.put l r) ∧ Ext w w' := by
  refine ret_of (fun _ _ => sh_mesh_put_ok _ _) fun R hR => ?_
  unfold sh_mesh_put
  refine box_i fun g w1 x1 hat hg _ => ?_
  have z1 := x1.size
  rw [SReport.g_all (has_of_at hat)]
  have hv0 := hv
  obtain ⟨ss, hrow, hof⟩ := hv0
  have hlen := hof.1
  refine callF_ret (msearch_ret hs (by omega) hl hr w1 (hv.is.ext x1) (ht.ext x1)) ?_
  rintro _ w2 ⟨⟨i, b, rfl, hi, hbelow, hthere, hnot⟩, x2⟩
  have x02 := x1.trans x2
  rw [ext2_0, ext2_1]
  refine Br_i (fun hb => ?_) fun hb => ?_
  · refine hR _ _ ⟨?_, x02⟩
    rw [Msh.put_there hs (hthere hb)]
    exact hv.soft (.ext x02)
  have hput := Msh.put_at hi hbelow (hnot hb)
  have hat2 := hat.ext x2
  rw [SReport.g_ents (has_of_at hat2)]
  have ht2 := ht.ext x02
  refine callF_ret (Clone_ret w2 ht2.2.2.1 (by omega)) ?_
  rintro cv w3 ⟨hcl, x3⟩
  obtain ⟨d, rfl⟩ := Hdr.of_sl (Sl.of_owns hcl)
  refine SReport.s_ents (x := d) (hat2.ext x3) fun w4 m4 hat4 _ => ?_
  have x04 : Ext w w4 := ext_step (x02.trans x3) m4 (by omega)
  have z2 := x02.size
  have l4 := hat4.lt
  have hcl4 : SEntry.Owns w2.heap.size w4 d.val r.ents := Own.mod hcl m4 fun k hk hkg => by
    have := (Own.block hcl hk).1
    have := hat2.lt
    omega
  let t' : SReport := { t with ents := d }
  have htl : ∀ W, Ext w4 W → RepT N W t' r := fun W xW => ⟨ht.1, ht.2.1, .inl (Own.mono (Own.ext hcl4 xW) (Nat.zero_le _)), ht.2.2.2.1, ht.2.2.2.2.1, ht.2.2.2.2.2⟩
  refine drawRX fun w5 x5 z5 => ?_
  have x05 := x04.trans x5
  refine det_rx _ (fun W' x K => SReport.g_all (s := t') (has_of_at ((hat4.ext x5).ext x))) ?_
  refine thr_x (fun vs W => ∃ v, vs = [v] ∧ SReport.Owns w5.heap.size W v ss) ?_ ?_
  · refine nd_x (fun v W => SReport.Owns w5.heap.size W v ss) (fun v a b h x => Own.ext h x) (fun w6 x6 _ => callF_ret (mCloneRow_ret w6 (Sl.ext hrow.row (x05.trans x6)) (by omega)) fun v w7 hq => ⟨hq.2, Own.mono hq.1 x6.size⟩) fun v => ?_
    intro w6 x6 h
    exact ⟨v, rfl, h⟩
  refine thr_x (fun vs W => ∃ q, vs = [.slice (some ⟨q, 0, none⟩) 1 1] ∧ At W q (.cells t'.cells.toArray 30 (0, 0))) ?_ ?_
  · refine nd_x (fun v W => ∃ q, v = .slice (some ⟨q, 0, none⟩) 1 1 ∧ At W q (.cells t'.cells.toArray 30 (0, 0))) (fun v a b h x => by obtain ⟨q, e, h⟩ := h; exact ⟨q, e, h.ext x⟩) (fun w6 x6 _ => SReport.lit_one fun w7 x7 h7 => ⟨x7, _, rfl, h7⟩) fun v => ?_
    intro w6 x6 h
    obtain ⟨q, rfl, h⟩ := h
    exact ⟨q, rfl, h⟩
  rintro hh w6 x6 ⟨_, ⟨_, v1, e1, h1⟩, q, e2, h2⟩
  simp only [List.cons.injEq, and_true] at e1 e2
  rw [e1, e2]
  refine callF_ret (mInsert_ret w6 h1 h2 (by omega) (by omega) x6.size) ?_
  rintro u w7 ⟨ho7, m7⟩
  have x57 : Ext w5 w7 := ((Mod.of_ext x6 : Mod (w5.heap.size ≤ ·) w5 w6).trans m7).new
  have x07 := x05.trans x57
  refine hR _ _ ⟨?_, x07⟩
  rw [hput]
  exact ⟨_, .inl (Own.mono ho7 (Nat.zero_le _)), (hof.soft (.ext x07)).insert (htl _ (x5.trans x57)) i⟩
def AddT (N : Nat) (b : Int × List Rep.Rpt) (r : Rep.Rpt) (p : Int) (w : World) (u : Value) (w' : World) : Prop := ∃ g : SBox, u = .tuple #[.agg g.cells.toArray, .bool (addV b r p).2.1, .int .i64 (addV b r p).2.2] ∧ BoxT N w' g (addV b r p).1 ∧ Ext w w'
theorem mAdd_t {N : Nat} {s : SBox} {t : SReport} {b : Int × List Rep.Rpt} {r : Rep.Rpt} {p : Int} (hokr : RepOk r) (hok : ∀ x ∈ b.2, RepOk x) (w : World) (hv : BoxT N w s b) (ht : RepIs w t r) (hN : N ≤ w.heap.size) (hT : Tab w) :
    Ret Tryz.prog 11 #[.agg s.cells.toArray, .agg t.cells.toArray, .int .i64 p] w (AddT N b r p w) := by
  refine ret_of (fun _ _ => sh_mesh_Add_ok _ _ _) fun R hR => ?_
  unfold sh_mesh_Add
  refine box_i fun b3 w1 x1 hat3 hb3 _ => ?_
  refine box_i fun b4 w2 x2 hat4 hb4 _ => ?_
  refine alloc_i Ty.SBox_zero fun b6 w3 x3 hat6 hb6 _ => ?_
  have x03 := (x1.trans x2).trans x3
  have h3 := (At.ext hat3 x2).ext x3
  have h4 := At.ext hat4 x3
  have z1 := x1.size
  have z2 := x2.size
  have z3 := x3.size
  have l3 := h3.lt
  have l6 := hat6.lt
  have out : ∀ {W W' : World} {g : SBox} {f : Bool} {e : Int}, Ext w W → Mod (· = b6) W W' → (addV b r p).2.1 = f → (addV b r p).2.2 = e → BoxT N W' g (addV b r p).1 → R (.returned (.tuple #[.agg g.cells.toArray, .bool f, .int .i64 e])) W' := fun xW m e1 e2 hl => hR _ _ ⟨_, by rw [e1, e2], hl, ext_step xW m (by omega)⟩
  rw [SBox.g_all (has_of_at h3)]
  refine callF_ret (mvalid_ret hok w3 (hv.is.ext x03) (hT.ext x03)) ?_
  rintro _ w4 ⟨rfl, x4⟩
  have x04 := x03.trans x4
  rw [un_not]
  refine Br_i (fun hb => ?_) fun hb => ?_
  · have hb : bvalid b = false := by simpa using hb
    have e : addV b r p = ((0, []), false, 1) := by unfold addV; rw [if_pos hb]
    rw [build_i new_nobox]
    exact box_out3 (g := SBox.zero) (hat6.ext x4) fun w' m => out x04 m (by rw [e]) (by rw [e]) (by rw [e]; exact BoxT.zero _ _ 0)
  have hbv : bvalid b = true := by simpa using hb
  have hV := bvalid_iff.1 hbv
  rw [SReport.g_all (has_of_at (h4.ext x4))]
  refine callF_ret (Check_ret (p := p) hokr w4 (ht.ext x04) (hT.ext x04)) ?_
  rintro _ w5 ⟨rfl, x5⟩
  have x05 := x04.trans x5
  have x35 := x4.trans x5
  rw [ext2_0, ext2_1, bin_neq]
  refine Br_i (fun hb => ?_) fun hb => ?_
  · have hne : (Rep.checkV r p).2 ≠ 0 := by simpa using hb
    have e : addV b r p = ((0, []), false, (Rep.checkV r p).2) := by unfold addV; rw [if_neg (by rw [hbv]; decide), if_pos hne]
    rw [build_i new_nobox]
    exact box_out3 (g := SBox.zero) (hat6.ext x35) fun w' m => out x05 m (by rw [e]) (by rw [e]) (by rw [e]; exact BoxT.zero _ _ 0)
  have h0 : (Rep.checkV r p).2 = 0 := by simpa using hb
  rw [un_not]
  refine Br_i (fun hb => ?_) fun hb => ?_
  · have hr0 : (Rep.checkV r p).1 = false := by simpa using hb
    have e : addV b r p = (b, false, 0) := by unfold addV; rw [if_neg (by rw [hbv]; decide), if_neg (by rw [h0]; decide), if_pos hr0]
    rw [SBox.g_all (has_of_at (h3.ext x35))]
    refine box_out3 (g := s) (hat6.ext x35) fun w' m => out x05 m (by rw [e]) (by rw [e]) ?_
    rw [e]; exact hv.ext (ext_step x05 m (by omega))
  have hr1 : (Rep.checkV r p).1 = true := by simpa using hb
  have hokR : Rep.okR r = true := by
    cases h : Rep.okR r with
    | true => rfl
    | false => rw [Rep.check_bad h] at hr1; cases hr1
  have z5 := x05.size
  have z35 := x35.size
  rw [SBox.g_reps (has_of_at (h3.ext x35)), SReport.g_all (has_of_at (h4.ext x35))]
  refine callF_ret (mput_t (N := N) hV.2.2.2 (by have := hV.2.1; omega) (fun x hx => okR_few (hV.2.2.1 x hx)) (okR_few hokR) w5 (hv.2.soft (.ext x05)) (ht.ext x05)) ?_
  rintro u w6 ⟨hu, x6⟩
  obtain ⟨d, rfl⟩ := hu.hdr
  have x36 := x35.trans x6
  refine SBox.s_reps (h3.ext x36) fun w7 m7 hat7 _ => ?_
  have x07 : Ext w w7 := ext_step (x05.trans x6) m7 (by omega)
  have hu7 := hu.soft (.box (h3.ext x36) (by omega) m7)
  have hat67 := (hat6.ext x36).mod m7 (by omega)
  rw [SBox.g_reps (has_of_at hat7), hu7.is.len, bin_gtr]
  refine Br_i (fun hb => ?_) fun hb => ?_
  · have hg := dec_t hb
    have e : addV b r p = ((0, []), false, 2) := by unfold addV; rw [if_neg (by rw [hbv]; decide), if_neg (by rw [h0]; decide), if_neg (by rw [hr1]; decide), if_pos (by omega)]
    rw [build_i new_nobox]
    exact box_out3 (g := SBox.zero) hat67 fun w' m => out x07 m (by rw [e]) (by rw [e]) (by rw [e]; exact BoxT.zero _ _ 0)
  · have hg := dec_f hb
    have e : addV b r p = ((b.1, Msh.put b.2 r), true, 0) := by unfold addV; rw [if_neg (by rw [hbv]; decide), if_neg (by rw [h0]; decide), if_neg (by rw [hr1]; decide), if_neg (by omega)]
    rw [SBox.g_all (s := { s with reps := d }) (has_of_at hat7)]
    refine box_out3 (g := { s with reps := d }) hat67 fun w' m => out x07 m (by rw [e]) (by rw [e]) ?_
    rw [e]
    exact ⟨hv.1, hu7.soft (.box hat67 (by omega) m)⟩
end Go.Proofs.YtohmledhhgdgaaaGreatDoor
