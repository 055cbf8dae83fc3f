/- The walk of the reference's Record. -/
import Derived.Test.YtoeblipchoglaaaDoorZJouA
import Derived.Test.YtoeblipchoglaaaDoorZStrA
import Derived.Test.YtoeblipchoglaaaDoorZCodB
import Derived.Test.YtoeblipchoglaaaDoorZCodA
set_option linter.unusedVariables false
set_option linter.unusedSimpArgs false
namespace Go.Proofs.YtoeblipchoglaaaDoor
set_option maxRecDepth 100000
set_option maxHeartbeats 2000000
open Sh Go.RowKit
theorem refRecord_new1 (k : Int) (e : SEntry) : Tryd.prog.built 57 [(0, .int .i64 k), (1, .agg e.cells.toArray)] = some (SRecord.mk k e 0 0).cells.toArray := by kernel_rfl
theorem refRecord_new2 (k s : Int) (c : BitVec 64) : Tryd.prog.built 57 [(0, .int .i64 k), (2, .int .i64 s), (3, u64v c)] = some (SRecord.mk k SEntry.zero s c).cells.toArray := by kernel_rfl
end Go.Proofs.YtoeblipchoglaaaDoor
namespace Go.Proofs.YtoeblipchoglaaaDoor
set_option maxRecDepth 100000
set_option maxHeartbeats 2000000
open Sh Go.RowKit
def jputV (b : List UInt8) (r : SRecord) : List UInt8 × Int := if Jou.form r = false then ([], 1) else if 200000 < b.length + (Jou.frameOf r).length then ([], 2) else (b ++ Jou.frameOf r, 0)
def JPutQ (b : List UInt8) (r : SRecord) (w : World) (v : Value) (w' : World) : Prop :=
  ∃ x, v = .tuple #[x, .int .i64 (jputV b r).2] ∧ w'.ownsRow w.heap.size 5 1 x (jputV b r).1.length (bv (jputV b r).1) ∧ Ext w w'
theorem jframe_few {r : SRecord} (h : r.Ok) : 12 ≤ (Jou.frameOf r).length ∧ (Jou.frameOf r).length ≤ 400 := by
  have hl := (Jou.ints_len r).2
  unfold Jou.frameOf
  rw [Cod.frame_length]
  have h1 := Cod.put_length (Jou.ints_ok h) (by omega)
  have h2 := Cod.put_pos (Jou.ints r)
  omega
theorem jput_end {b : List UInt8} {r : SRecord} {w w4 : World} {v0 vf : Value} {R : Ending → World → Prop} (hR : ∀ v w', JPutQ b r w v w' → R (.returned v) w') (hx : Ext w w4) (h0 : Sl w4 1 v0 b.length (bv b)) (hfr : Sl w4 1 vf (Jou.frameOf r).length (bv (Jou.frameOf r)))
    (hf : ¬ Jou.form r = false) (hlt : ¬ 200000 < b.length + (Jou.frameOf r).length) :
    DoV Tryd.prog (Instr.buildSlice 26 0 #[]) w4 (fun x w5 => CallB Tryd.prog .append #[26, 26] 26 #[false, false] #[x, v0] w5 (fun y w6 => CallB Tryd.prog .append #[26, 26] 26 #[false, false] #[y, vf] w6 (fun z w7 => R (.returned (.tuple #[z, .int .i64 0])) w7) (Pan R)) (Pan R)) (Pan R) := by
  have z4 := hx.size
  refine lit_nobytes fun v5 w5 x5 hv5 hs5 => ?_
  have z5 := x5.size
  refine app_bytes hv5 (h0.ext x5) (by simp; omega) (by omega) fun v6 w6 hv6 m6 => ?_
  have hoff : ∀ k, v5.ownBlock = some k → w4.heap.size ≤ k := fun k hk => (Own.block hv5 hk).1
  have m46 : Mod (w4.heap.size ≤ ·) w4 w6 := (Mod.of_ext x5 : Mod (w4.heap.size ≤ ·) w4 w5).trans (m6.mono fun k _ hk => hoff k hk)
  have x6 : Ext w4 w6 := m46.new
  have z6 := x6.size
  rw [List.nil_append] at hv6
  refine app_bytes hv6 (hfr.ext x6) (by omega) (by omega) fun v7 w7 hv7 m7 => ?_
  have m47 : Mod (w4.heap.size ≤ ·) w4 w7 := m46.trans (m7.mono fun k _ hk => (Own.block hv6 hk).1)
  have e : jputV b r = (b ++ Jou.frameOf r, 0) := by unfold jputV; rw [if_neg hf, if_neg hlt]
  exact hR _ _ ⟨_, by rw [e], by rw [e]; exact Own.mono hv7 z4, hx.trans m47.new⟩
theorem jPut_ret {v0 : Value} {b : List UInt8} {r : SRecord} (hr : r.Ok) (hbl : b.length ≤ 1000000000000000) (w : World) (h0 : Sl w 1 v0 b.length (bv b)) : Ret Tryd.prog 29 #[v0, .agg r.cells.toArray] w (JPutQ b r w) := by
  refine ret_of (fun _ _ => sh_journal_Put_ok _ _) fun R hR => ?_
  unfold sh_journal_Put
  refine box_rec fun g w1 x1 hat hbs => ?_
  have h := has_of_at hat
  rw [SRecord.g_all h]
  refine callF_ret (isRecord_ret r w1) ?_
  rintro _ w2 ⟨rfl, x2⟩
  rw [un_not]
  refine Br_i (fun hb => ?_) fun hb => ?_
  · have hf : Jou.form r = false := by simpa using hb
    have e : jputV b r = ([], 1) := by unfold jputV; rw [if_pos hf]
    exact hR _ _ ⟨_, by rw [e], by rw [e]; exact Own.nil _ _ _ _, x1.trans x2⟩
  · have hf : ¬ Jou.form r = false := by simpa using hb
    rw [SRecord.g_all (has_of_at (hat.ext x2))]
    refine callF_ret (jints_ret r w2) ?_
    rintro vi w3 ⟨x3, hvi⟩
    refine callF_ret (Frame_ret (Jou.ints_ok hr) w3 (Sl.of_owns hvi)) ?_
    intro vf w4 hq
    obtain ⟨x4, hq⟩ := hq
    have hil := (Jou.ints_len r).2
    rw [if_neg (by omega)] at hq
    obtain ⟨vf', rfl, hown⟩ := hq
    have hfr : Sl w4 1 vf' (Jou.frameOf r).length (bv (Jou.frameOf r)) := Sl.of_owns hown
    rw [ext2_0, ext2_1]
    have hx4 := ((x1.trans x2).trans x3).trans x4
    have h04 := h0.ext hx4
    refine join0 (fun w' => w' = w4 ∧ ¬ 200000 < b.length + (Jou.frameOf r).length) ?_ fun K hK => ?_
    · rintro _ w5 ⟨hw, hlt⟩
      subst hw
      exact jput_end hR hx4 h04 hfr hf hlt
    · refine join1 (fun x w' => w' = w4 ∧ x = .bool (decide (200000 < b.length + (Jou.frameOf r).length))) ?_ fun K2 hK2 => ?_
      · rintro hh x w5 hx ⟨hw, hlt⟩
        subst hw hlt
        rw [hx]
        refine Br_i (fun hb => ?_) fun hb => ?_
        · have hlt := dec_t hb
          have e : jputV b r = ([], 2) := by unfold jputV; rw [if_neg hf, if_pos hlt]
          exact hR _ _ ⟨_, by rw [e], by rw [e]; exact Own.nil _ _ _ _, hx4⟩
        · exact hK _ ⟨rfl, dec_f hb⟩
      · have hb1 := h04.le
        have hb2 := hfr.le
        rw [show okE = Value.int .i64 0 from rfl, bin_neq]
        refine gd_f ?_
        rw [h04.len Ty.bytes, hfr.len Ty.bytes, bin_add, bin_gtr]
        have hb2 := (jframe_few hr).2
        have e1 : IntKind.i64.wrap ((b.length : Int) + (Jou.frameOf r).length) = ((b.length + (Jou.frameOf r).length : Nat) : Int) := by
          rw [i64_wrap (by omega) (by omega)]; omega
        rw [e1]
        refine hK2 _ _ ⟨rfl, ?_⟩
        congr 1
        rw [decide_eq_decide]
        omega
end Go.Proofs.YtoeblipchoglaaaDoor
namespace Go.Proofs.YtoeblipchoglaaaDoor
set_option maxRecDepth 100000
set_option maxHeartbeats 2000000
open Sh Go.RowKit
theorem Jou.loadL_drop {ll : List (List Int)} {k : Nat} (h : k < ll.length) : Jou.loadL (ll.drop k) = match Jou.rec_ ll[k] with | none => ([], 0) | some r => (r :: (Jou.loadL (ll.drop (k + 1))).1, (Cod.frame ll[k]).length + (Jou.loadL (ll.drop (k + 1))).2) := by
  rw [List.drop_eq_getElem_cons h]; rfl
theorem Cod.all_drop {ll : List (List Int)} {k : Nat} (h : k < ll.length) : (Cod.all (ll.drop k)).length = (Cod.frame ll[k]).length + (Cod.all (ll.drop (k + 1))).length := by
  rw [List.drop_eq_getElem_cons h, Cod.all_cons, List.length_append]
def LoadAt (wF : World) (ll : List (List Int)) (k n : Nat) (x : Value) (w : World) : Prop :=
  k ≤ ll.length ∧ ∃ out, SRecord.Owns wF.heap.size w x out ∧ Mod (wF.heap.size ≤ ·) wF w ∧ Jou.loadL ll = (out ++ (Jou.loadL (ll.drop k)).1, n + (Jou.loadL (ll.drop k)).2) ∧ out.length ≤ k ∧ n + (Cod.all (ll.drop k)).length ≤ 200000
def loadV (b : List UInt8) : List SRecord × Nat × Int := if 200000 < b.length then ([], 0, 2) else ((Jou.load b).1, (Jou.load b).2, 0)
def LoadQ (b : List UInt8) (w : World) (r : Value) (w' : World) : Prop :=
  ∃ x, r = .tuple #[x, .int .i64 (loadV b).2.1, .int .i64 (loadV b).2.2] ∧ SRecord.Row w' x (loadV b).1 ∧ Ext w w'
theorem Sl.header {w w' : World} {sz n : Nat} {v : Value} {xs : List Value} (h : Sl w sz v n xs) : Sl w' 0 v n [] := by
  obtain ⟨a, cap, rfl, h1, h2, _⟩ := h
  exact ⟨a, cap, rfl, h1, h2, by simp, .inl rfl⟩
theorem load_last {ll : List (List Int)} {n : Nat} {out : List SRecord} {k : Nat} (h : ll.length ≤ k ∨ ∃ hk : k < ll.length, Jou.rec_ ll[k] = none) (hl : Jou.loadL ll = (out ++ (Jou.loadL (ll.drop k)).1, n + (Jou.loadL (ll.drop k)).2)) : Jou.loadL ll = (out, n) := by
  have e : Jou.loadL (ll.drop k) = ([], 0) := by
    rcases h with h | ⟨hk, h⟩
    · rw [List.drop_eq_nil_of_le h]; rfl
    · rw [Jou.loadL_drop hk, h]
  rw [hl, e, List.append_nil]; rfl
def LoadQO (b : List UInt8) (w : World) (r : Value) (w' : World) : Prop :=
  ∃ x, r = .tuple #[x, .int .i64 (loadV b).2.1, .int .i64 (loadV b).2.2] ∧ SRecord.Owns w.heap.size w' x (loadV b).1 ∧ Ext w w'
theorem jLoad_own {v : Value} {b : List UInt8} (w : World) (h : Sl w 1 v b.length (bv b)) : Ret Tryd.prog 34 #[v] w (LoadQO b w) := by
  refine ret_of (fun _ _ => sh_journal_Load_ok _) fun R hR => ?_
  unfold sh_journal_Load
  refine callF_ret (Frames_ret w h) ?_
  intro r wF hq
  obtain ⟨vl, rfl, hll, xF⟩ := hq.use
  rw [ext3_0, ext3_1, ext3_2, bin_neq]
  refine Br_i (fun hb => ?_) fun hb => ?_
  · have hlt : 200000 < b.length := by
      refine Classical.byContradiction fun hn => ?_
      have : framesV b = ((Cod.frames b).1, (Cod.frames b).2, 0) := by unfold framesV; rw [if_neg hn]
      rw [this] at hb; simp at hb
    have e : loadV b = ([], 0, 2) := by unfold loadV; rw [if_pos hlt]
    have e2 : framesV b = ([], 0, 2) := by unfold framesV; rw [if_pos hlt]
    exact hR _ _ ⟨_, by rw [e, e2]; rfl, by rw [e]; exact SRecord.owns_nil _ _, xF⟩
  · have hle : ¬ 200000 < b.length := fun hn => by
      have : framesV b = ([], 0, 2) := by unfold framesV; rw [if_pos hn]
      rw [this] at hb; simp at hb
    have e2 : framesV b = ((Cod.frames b).1, (Cod.frames b).2, 0) := by unfold framesV; rw [if_neg hle]
    have hfit := (Cod.frames_inv b).2
    obtain ⟨hc1, hc2⟩ := Cod.frames_count b
    have hc3 := Cod.frames_len b
    have e : loadV b = ((Jou.load b).1, (Jou.load b).2, 0) := by unfold loadV; rw [if_neg hle]
    have hjl : Jou.load b = Jou.loadL (Cod.frames b).1 := rfl
    rw [e2] at hll
    have hll : LL wF vl (Cod.frames b).1 := hll
    generalize (Cod.frames b).1 = ll at hll hfit hc1 hc2 hjl
    refine join3 (fun x y z w' => ∃ out n : _, x = x ∧ SRecord.Owns wF.heap.size w' x out ∧ y = .int .i64 ((n : Nat) : Int) ∧ Jou.loadL ll = (out, n) ∧ Ext wF w') ?_ fun K6 hK6 => ?_
    · rintro hh x y z w' hx hy hz ⟨out, n, _, ho, rfl, hl, x'⟩
      rw [hx, hy]
      rw [← hjl] at hl
      exact hR _ _ ⟨_, by rw [e, hl], by rw [e, hl]; exact Own.mono ho xF.size, xF.trans x'⟩
    · rw [hll.len]
      refine loop3 (fun x y z w1 => ∃ k n : Nat, z = .int .i64 k ∧ y = .int .i64 n ∧ LoadAt wF ll k n x w1) (fun _ _ z _ => ll.length - (intOf z).toNat) ⟨0, 0, rfl, rfl, by omega, [], SRecord.owns_nil _ _, Mod.refl _ _, by simp, by simp, by simp; omega⟩ ?_
      rintro hh x _ _ w1 hx hy hz ⟨k, n, rfl, rfl, hk, out, ho, hm, hload, hlen, hsum⟩ K hK
      have x1 := hm.new
      rw [hx, hy, hz, bin_lss]
      refine Br_i (fun hb => ?_) fun hb => ?_
      · have hlt : k < ll.length := by have := dec_t hb; omega
        obtain ⟨hfi, hfl⟩ := hfit ll[k] (List.getElem_mem hlt)
        obtain ⟨u, g, o, hu, hg, hcell, hix⟩ := hll.at_ hlt
        rw [hix, load_cell Ty.ints_agg (cell_ext hcell hg x1)]
        refine callF_ret (record_ret w1 (hu.ext x1)) ?_
        rintro _ w2 ⟨x2, r, rfl, hr⟩
        rw [ext2_0, ext2_1]
        refine alloc_i Ty.SRecord_zero fun b3 w3 x3 hat hb3 _ => ?_
        refine SRecord.set (r := SRecord.zero) hat fun w4 m4 h4 _ => ?_
        have z1 := x1.size
        have z2 := x2.size
        have z3 := x3.size
        have m24 : Mod (w1.heap.size ≤ ·) w1 w4 := (Mod.of_ext (x2.trans x3) : Mod (w1.heap.size ≤ ·) w1 w3).trans (m4.mono fun k _ h => by omega)
        have hm4 : Mod (wF.heap.size ≤ ·) wF w4 := hm.trans (m24.mono fun k _ h => by omega)
        have ho4 := Own.ext ho m24.new
        rw [un_not]
        refine Br_i (fun hb => ?_) fun hb => ?_
        · have hn : Jou.rec_ ll[k] = none := by simpa using hb
          exact hK6 _ _ _ _ ⟨out, n, rfl, ho4, rfl, load_last (.inr ⟨hlt, hn⟩) hload, hm4.new⟩
        · have hs : (Jou.rec_ ll[k]).isSome = true := by simpa using hb
          obtain ⟨r', hr'⟩ := Option.isSome_iff_exists.1 hs
          obtain rfl := hr r' hr'
          rw [Jou.loadL_drop hlt, hr'] at hload
          rw [Cod.all_drop hlt] at hsum
          refine callF_ret (Frame_ret hfi w4 (hu.ext hm4.new)) ?_
          intro vf w5 hq
          obtain ⟨x5, hq⟩ := hq
          rw [if_neg (by omega)] at hq
          obtain ⟨vf', rfl, hown⟩ := hq
          rw [ext2_0, ext2_1, SRecord.g_all (has_of_at (h4.ext x5))]
          have z4 := hm4.new.size
          have z5 := x5.size
          refine SRecord.row_app (Own.ext ho4 x5) (by omega) (by omega) fun v' w6 ho6 m6 => ?_
          have hm6 : Mod (wF.heap.size ≤ ·) wF w6 := (hm4.trans (.of_ext x5)).trans m6
          have hf6 : Sl w6 0 vf' (Cod.frame ll[k]).length [] := Sl.header (Sl.of_owns hown)
          rw [hf6.len Ty.bytes, bin_add, i64_wrap (by omega) (by omega), bin_add, i64_wrap (by omega) (by omega)]
          refine hK _ _ _ _ ⟨k + 1, n + (Cod.frame ll[k]).length, by simp, by simp, by omega, _, ho6, hm6, ?_, by simp; omega, by omega⟩ (by simp [intOf]; omega)
          rw [hload]
          simp [Nat.add_assoc]
      · have hge : ll.length ≤ k := by have := dec_f hb; omega
        exact hK6 _ _ _ _ ⟨out, n, rfl, ho, rfl, load_last (.inl hge) hload, x1⟩
end Go.Proofs.YtoeblipchoglaaaDoor
namespace Go.Proofs.YtoeblipchoglaaaDoor
set_option maxRecDepth 100000
set_option maxHeartbeats 2000000
open Sh Go.RowKit
def chk (s : Int) (c : BitVec 64) : SRecord := ⟨2, SEntry.zero, s, c⟩
def entE (s : Int) : SEntry := ⟨s, 0, 0, 0, 0, 0, 0, ⟨0, 0⟩, 0, 0, 0⟩
def ent (e : SEntry) : SRecord := ⟨1, e, 0, 0⟩
end Go.Proofs.YtoeblipchoglaaaDoor
namespace Go.Proofs.YtoeblipchoglaaaDoor
set_option maxRecDepth 100000
set_option maxHeartbeats 2000000
open Sh Go.RowKit
theorem jputV_ok {b : List UInt8} {r : SRecord} (hf : Jou.form r = true) (hl : b.length + (Jou.frameOf r).length ≤ 200000) : jputV b r = (b ++ Jou.frameOf r, 0) := by
  unfold jputV
  rw [if_neg (by rw [hf]; decide), if_neg (by omega)]
def e1 : SRecord := ent (entE 1)
def r3 : SRecord := ⟨3, SEntry.zero, 0, 0⟩
theorem frame_pos (r : SRecord) : 0 < (Jou.frameOf r).length := by unfold Jou.frameOf; rw [Cod.frame_length]; omega
theorem loadV_of {b : List UInt8} (h : b.length ≤ 200000) : loadV b = ((Jou.load b).1, (Jou.load b).2, 0) := by unfold loadV; rw [if_neg (by omega)]
end Go.Proofs.YtoeblipchoglaaaDoor
