/- The walks of both Load. -/
import Derived.Test.YtahplhcijlgelaaJouW5
import Derived.Test.YtahplhcijlgelaaJouW6
import Derived.Test.YtahplhcijlgelaaCod3
namespace Go.Proofs.Ytahplhcijlgelaa
set_option maxRecDepth 100000
set_option maxHeartbeats 2000000
open Sh Go.RowKit
theorem Jou.loadL_drop {ll : List (List Int)} {k : Nat} (h : k < ll.length) : Jou.loadL (ll.drop k) = match Jou.rec_ ll[k] with | none => ([], 0) | some r => (r :: (Jou.loadL (ll.drop (k + 1))).1, (Cod.frame ll[k]).length + (Jou.loadL (ll.drop (k + 1))).2) := by
  rw [List.drop_eq_getElem_cons h]; rfl
theorem Cod.all_drop {ll : List (List Int)} {k : Nat} (h : k < ll.length) : (Cod.all (ll.drop k)).length = (Cod.frame ll[k]).length + (Cod.all (ll.drop (k + 1))).length := by
  rw [List.drop_eq_getElem_cons h, Cod.all_cons, List.length_append]
/-- Where a loop over lists stands that loads records. -/
def LoadAt (wF : World) (ll : List (List Int)) (k n : Nat) (x : Value) (w : World) : Prop :=
  k ≤ ll.length ∧ ∃ out, SRecord.Owns wF.heap.size w x out ∧ Mod (wF.heap.size ≤ ·) wF w ∧ Jou.loadL ll = (out ++ (Jou.loadL (ll.drop k)).1, n + (Jou.loadL (ll.drop k)).2) ∧ out.length ≤ k ∧ n + (Cod.all (ll.drop k)).length ≤ 200000
def loadV (b : List UInt8) : List SRecord × Nat × Int := if 200000 < b.length then ([], 0, 2) else ((Jou.load b).1, (Jou.load b).2, 0)
def LoadQ (b : List UInt8) (w : World) (r : Value) (w' : World) : Prop :=
  ∃ x, r = .tuple #[x, .int .i64 (loadV b).2.1, .int .i64 (loadV b).2.2] ∧ SRecord.Row w' x (loadV b).1 ∧ Ext w w'
theorem ext3_0' {a b c : Value} {w : World} {K : Value → World → Prop} {X : List PanicEntry → World → Prop} : DoV Try.prog (Instr.extract (.tuple #[a, b, c]) 0) w K X = K a w := ext3_0
theorem Sl.header {w w' : World} {sz n : Nat} {v : Value} {xs : List Value} (h : Sl w sz v n xs) : Sl w' 0 v n [] := by
  obtain ⟨a, cap, rfl, h1, h2, _⟩ := h
  exact ⟨a, cap, rfl, h1, h2, by simp, .inl rfl⟩
theorem load_last {ll : List (List Int)} {n : Nat} {out : List SRecord} {k : Nat} (h : ll.length ≤ k ∨ ∃ hk : k < ll.length, Jou.rec_ ll[k] = none) (hl : Jou.loadL ll = (out ++ (Jou.loadL (ll.drop k)).1, n + (Jou.loadL (ll.drop k)).2)) : Jou.loadL ll = (out, n) := by
  have e : Jou.loadL (ll.drop k) = ([], 0) := by
    rcases h with h | ⟨hk, h⟩
    · rw [List.drop_eq_nil_of_le h]; rfl
    · rw [Jou.loadL_drop hk, h]
  rw [hl, e, List.append_nil]; rfl
theorem jLoad_ret {v : Value} {b : List UInt8} (w : World) (h : Sl w 1 v b.length (bv b)) : Ret Try.prog 13 #[v] w (LoadQ b w) := by
  refine ret_of (fun _ _ => sh_journal_Load_ok _) fun R hR => ?_
  unfold sh_journal_Load
  refine callF_ret (Frames_ret w h) ?_
  intro r wF hq
  obtain ⟨vl, rfl, hll, xF⟩ := hq.use
  rw [ext3_0, ext3_1, ext3_2, bin_neq]
  refine Br_i (fun hb => ?_) fun hb => ?_
  · have hlt : 200000 < b.length := by
      refine Classical.byContradiction fun hn => ?_
      have : framesV b = ((Cod.frames b).1, (Cod.frames b).2, 0) := by unfold framesV; rw [if_neg hn]
      rw [this] at hb; simp at hb
    have e : loadV b = ([], 0, 2) := by unfold loadV; rw [if_pos hlt]
    have e2 : framesV b = ([], 0, 2) := by unfold framesV; rw [if_pos hlt]
    exact hR _ _ ⟨_, by rw [e, e2]; rfl, by rw [e]; exact SRecord.row_nil _, xF⟩
  · have hle : ¬ 200000 < b.length := fun hn => by
      have : framesV b = ([], 0, 2) := by unfold framesV; rw [if_pos hn]
      rw [this] at hb; simp at hb
    have e2 : framesV b = ((Cod.frames b).1, (Cod.frames b).2, 0) := by unfold framesV; rw [if_neg hle]
    have hfit := (Cod.frames_inv b).2
    obtain ⟨hc1, hc2⟩ := Cod.frames_count b
    have hc3 := Cod.frames_len b
    have e : loadV b = ((Jou.load b).1, (Jou.load b).2, 0) := by unfold loadV; rw [if_neg hle]
    have hjl : Jou.load b = Jou.loadL (Cod.frames b).1 := rfl
    rw [e2] at hll
    have hll : LL wF vl (Cod.frames b).1 := hll
    generalize (Cod.frames b).1 = ll at hll hfit hc1 hc2 hjl
    refine join3 (fun x y z w' => ∃ out n : _, x = x ∧ SRecord.Owns wF.heap.size w' x out ∧ y = .int .i64 ((n : Nat) : Int) ∧ Jou.loadL ll = (out, n) ∧ Ext wF w') ?_ fun K6 hK6 => ?_
    · rintro hh x y z w' hx hy hz ⟨out, n, _, ho, rfl, hl, x'⟩
      rw [hx, hy]
      rw [← hjl] at hl
      exact hR _ _ ⟨_, by rw [e, hl], by rw [e, hl]; exact Sl.of_owns ho, xF.trans x'⟩
    · rw [hll.len]
      refine loop3 (fun x y z w1 => ∃ k n : Nat, z = .int .i64 k ∧ y = .int .i64 n ∧ LoadAt wF ll k n x w1) (fun _ _ z _ => ll.length - (intOf z).toNat) ⟨0, 0, rfl, rfl, by omega, [], SRecord.owns_nil _ _, Mod.refl _ _, by simp, by simp, by simp; omega⟩ ?_
      rintro hh x _ _ w1 hx hy hz ⟨k, n, rfl, rfl, hk, out, ho, hm, hload, hlen, hsum⟩ K hK
      have x1 := hm.new
      rw [hx, hy, hz, bin_lss]
      refine Br_i (fun hb => ?_) fun hb => ?_
      · have hlt : k < ll.length := by have := dec_t hb; omega
        obtain ⟨hfi, hfl⟩ := hfit ll[k] (List.getElem_mem hlt)
        obtain ⟨u, g, o, hu, hg, hcell, hix⟩ := hll.at_ hlt
        rw [hix, load_cell Ty.ints_agg (cell_ext hcell hg x1)]
        refine callF_ret (record_ret w1 (hu.ext x1)) ?_
        rintro _ w2 ⟨x2, r, rfl, hr⟩
        rw [ext2_0, ext2_1]
        refine alloc_i Ty.SRecord_zero fun b3 w3 x3 hat hb3 _ => ?_
        refine SRecord.set (r := SRecord.zero) hat fun w4 m4 h4 _ => ?_
        have z1 := x1.size
        have z2 := x2.size
        have z3 := x3.size
        have m24 : Mod (w1.heap.size ≤ ·) w1 w4 := (Mod.of_ext (x2.trans x3) : Mod (w1.heap.size ≤ ·) w1 w3).trans (m4.mono fun k _ h => by omega)
        have hm4 : Mod (wF.heap.size ≤ ·) wF w4 := hm.trans (m24.mono fun k _ h => by omega)
        have ho4 := Own.ext ho m24.new
        rw [un_not]
        refine Br_i (fun hb => ?_) fun hb => ?_
        · have hn : Jou.rec_ ll[k] = none := by simpa using hb
          exact hK6 _ _ _ _ ⟨out, n, rfl, ho4, rfl, load_last (.inr ⟨hlt, hn⟩) hload, hm4.new⟩
        · have hs : (Jou.rec_ ll[k]).isSome = true := by simpa using hb
          obtain ⟨r', hr'⟩ := Option.isSome_iff_exists.1 hs
          obtain rfl := hr r' hr'
          rw [Jou.loadL_drop hlt, hr'] at hload
          rw [Cod.all_drop hlt] at hsum
          refine callF_ret (Frame_ret hfi w4 (hu.ext hm4.new)) ?_
          intro vf w5 hq
          obtain ⟨x5, hq⟩ := hq
          rw [if_neg (by omega)] at hq
          obtain ⟨vf', rfl, hown⟩ := hq
          rw [ext2_0, ext2_1, SRecord.g_all (has_of_at (h4.ext x5))]
          have z4 := hm4.new.size
          have z5 := x5.size
          refine SRecord.row_app (Own.ext ho4 x5) (by omega) (by omega) fun v' w6 ho6 m6 => ?_
          have hm6 : Mod (wF.heap.size ≤ ·) wF w6 := (hm4.trans (.of_ext x5)).trans m6
          have hf6 : Sl w6 0 vf' (Cod.frame ll[k]).length [] := Sl.header (Sl.of_owns hown)
          rw [hf6.len Ty.bytes, bin_add, i64_wrap (by omega) (by omega), bin_add, i64_wrap (by omega) (by omega)]
          refine hK _ _ _ _ ⟨k + 1, n + (Cod.frame ll[k]).length, by simp, by simp, by omega, _, ho6, hm6, ?_, by simp; omega, by omega⟩ (by simp [intOf]; omega)
          rw [hload]
          simp [Nat.add_assoc]
      · have hge : ll.length ≤ k := by have := dec_f hb; omega
        exact hK6 _ _ _ _ ⟨out, n, rfl, ho, rfl, load_last (.inl hge) hload, x1⟩
theorem jrefLoad_ret {v : Value} {b : List UInt8} (w : World) (h : Sl w 1 v b.length (bv b)) : Ret Try.prog 14 #[v] w (LoadQ b w) := by
  refine ret_of (fun _ _ => sh_landfallref40_Load_ok _) fun R hR => ?_
  unfold sh_landfallref40_Load
  refine callF_ret (refFrames_ret w h) ?_
  intro r wF hq
  obtain ⟨vl, rfl, hll, xF⟩ := hq.use
  rw [ext3_0, ext3_1, ext3_2, bin_neq]
  refine Br_i (fun hb => ?_) fun hb => ?_
  · have hlt : 200000 < b.length := by
      refine Classical.byContradiction fun hn => ?_
      have : framesV b = ((Cod.frames b).1, (Cod.frames b).2, 0) := by unfold framesV; rw [if_neg hn]
      rw [this] at hb; simp at hb
    have e : loadV b = ([], 0, 2) := by unfold loadV; rw [if_pos hlt]
    have e2 : framesV b = ([], 0, 2) := by unfold framesV; rw [if_pos hlt]
    exact hR _ _ ⟨_, by rw [e, e2]; rfl, by rw [e]; exact SRecord.row_nil _, xF⟩
  · have hle : ¬ 200000 < b.length := fun hn => by
      have : framesV b = ([], 0, 2) := by unfold framesV; rw [if_pos hn]
      rw [this] at hb; simp at hb
    have e2 : framesV b = ((Cod.frames b).1, (Cod.frames b).2, 0) := by unfold framesV; rw [if_neg hle]
    have hfit := (Cod.frames_inv b).2
    obtain ⟨hc1, hc2⟩ := Cod.frames_count b
    have hc3 := Cod.frames_len b
    have e : loadV b = ((Jou.load b).1, (Jou.load b).2, 0) := by unfold loadV; rw [if_neg hle]
    have hjl : Jou.load b = Jou.loadL (Cod.frames b).1 := rfl
    rw [e2] at hll
    have hll : LL wF vl (Cod.frames b).1 := hll
    generalize (Cod.frames b).1 = ll at hll hfit hc1 hc2 hjl
    have hend : ∀ (x : Value) (w' : World) (out : List SRecord) (n : Nat), SRecord.Owns wF.heap.size w' x out → Jou.loadL ll = (out, n) → Ext wF w' → R (.returned (.tuple #[x, .int .i64 (n : Int), .int .i64 0])) w' := fun x w' out n ho hl x' => by
      rw [← hjl] at hl
      exact hR _ _ ⟨_, by rw [e, hl], by rw [e, hl]; exact Sl.of_owns ho, xF.trans x'⟩
    refine loop3 (fun x y z w1 => ∃ k n : Nat, z = .int .i64 k ∧ y = .int .i64 n ∧ LoadAt wF ll k n x w1) (fun _ _ z _ => ll.length - (intOf z).toNat) ⟨0, 0, rfl, rfl, by omega, [], SRecord.owns_nil _ _, Mod.refl _ _, by simp, by simp, by simp; omega⟩ ?_
    rintro hh x _ _ w1 hx hy hz ⟨k, n, rfl, rfl, hk, out, ho, hm, hload, hlen, hsum⟩ K hK
    have x1 := hm.new
    rw [hx, hy, hz, (hll.ext x1).len, bin_lss]
    refine Br_i (fun hb => ?_) fun hb => ?_
    · have hlt : k < ll.length := by have := dec_t hb; omega
      obtain ⟨hfi, hfl⟩ := hfit ll[k] (List.getElem_mem hlt)
      obtain ⟨u, g, o, hu, hg, hcell, hix⟩ := hll.at_ hlt
      rw [hix, load_cell Ty.ints_agg (cell_ext hcell hg x1)]
      refine callF_ret (refRecord_ret w1 (hu.ext x1)) ?_
      rintro _ w2 ⟨x2, r, rfl, hr⟩
      rw [ext2_0, ext2_1]
      refine alloc_i Ty.SRecord_zero fun b3 w3 x3 hat hb3 _ => ?_
      refine SRecord.set (r := SRecord.zero) hat fun w4 m4 h4 _ => ?_
      have z1 := x1.size
      have z2 := x2.size
      have z3 := x3.size
      have m24 : Mod (w1.heap.size ≤ ·) w1 w4 := (Mod.of_ext (x2.trans x3) : Mod (w1.heap.size ≤ ·) w1 w3).trans (m4.mono fun k _ h => by omega)
      have hm4 : Mod (wF.heap.size ≤ ·) wF w4 := hm.trans (m24.mono fun k _ h => by omega)
      have ho4 := Own.ext ho m24.new
      rw [un_not]
      refine Br_i (fun hb => ?_) fun hb => ?_
      · have hn : Jou.rec_ ll[k] = none := by simpa using hb
        exact hend _ _ _ _ ho4 (load_last (.inr ⟨hlt, hn⟩) hload) hm4.new
      · have hs : (Jou.rec_ ll[k]).isSome = true := by simpa using hb
        obtain ⟨r', hr'⟩ := Option.isSome_iff_exists.1 hs
        obtain rfl := hr r' hr'
        rw [Jou.loadL_drop hlt, hr'] at hload
        rw [Cod.all_drop hlt] at hsum
        rw [hix, load_cell Ty.ints_agg (cell_ext hcell hg hm4.new)]
        refine callF_ret (refFrame_ret hfi w4 (hu.ext hm4.new)) ?_
        intro vf w5 hq
        obtain ⟨x5, hq⟩ := hq
        rw [if_neg (by omega)] at hq
        obtain ⟨vf', rfl, hown⟩ := hq
        rw [ext2_0, ext2_1, SRecord.g_all (has_of_at (h4.ext x5))]
        have z4 := hm4.new.size
        have z5 := x5.size
        refine SRecord.row_app (Own.ext ho4 x5) (by omega) (by omega) fun v' w6 ho6 m6 => ?_
        have hm6 : Mod (wF.heap.size ≤ ·) wF w6 := (hm4.trans (.of_ext x5)).trans m6
        have hf6 : Sl w6 0 vf' (Cod.frame ll[k]).length [] := Sl.header (Sl.of_owns hown)
        rw [hf6.len Ty.bytes, bin_add, i64_wrap (by omega) (by omega), bin_add, i64_wrap (by omega) (by omega)]
        refine hK _ _ _ _ ⟨k + 1, n + (Cod.frame ll[k]).length, by simp, by simp, by omega, _, ho6, hm6, ?_, by simp; omega, by omega⟩ (by simp [intOf]; omega)
        rw [hload]
        simp [Nat.add_assoc]
    · have hge : ll.length ≤ k := by have := dec_f hb; omega
      exact hend _ _ _ _ ho (load_last (.inl hge) hload) x1
end Go.Proofs.Ytahplhcijlgelaa
