/- The walks of the laws' helpers: check, entry, written. -/
import Derived.Test.YtahplhcijlgelaaJouW7
import Derived.Test.YtahplhcijlgelaaRowE
namespace Go.Proofs.Ytahplhcijlgelaa
set_option maxRecDepth 100000
set_option maxHeartbeats 2000000
open Sh Go.RowKit
def chk (s : Int) (c : BitVec 64) : SRecord := ⟨2, SEntry.zero, s, c⟩
def entE (s : Int) : SEntry := ⟨s, 0, 0, 0, 0, 0, 0, ⟨0, 0⟩, 0, 0, 0⟩
def ent (e : SEntry) : SRecord := ⟨1, e, 0, 0⟩
theorem new_check (s : Int) (c : BitVec 64) : Try.prog.built 29 [(0, .int .i64 2), (2, .int .i64 s), (3, u64v c)] = some (SRecord.mk 2 SEntry.zero s c).cells.toArray := by kernel_rfl
theorem new_entry (s : Int) : Try.prog.built 26 [(0, .int .i64 s)] = some (entE s).cells.toArray := by kernel_rfl
theorem new_entry_rec (e : SEntry) : Try.prog.built 29 [(0, .int .i64 1), (1, .agg e.cells.toArray)] = some (SRecord.mk 1 e 0 0).cells.toArray := by kernel_rfl
theorem check_ret (s : Int) (c : BitVec 64) (w : World) : Ret Try.prog 21 #[.int .i64 s, u64v c] w fun v w' => v = .agg (chk s c).cells.toArray ∧ Ext w w' := by
  refine ret_of (fun _ _ => sh_landfalllaw40_check_ok _ _) fun R hR => ?_
  unfold sh_landfalllaw40_check
  refine alloc_i Ty.SRecord_zero fun b w1 x1 hat hb _ => ?_
  rw [build_i (new_check s c)]
  refine SRecord.set (r := SRecord.zero) (s := chk s c) hat fun w2 m2 h2 _ => ?_
  have hv : (loadVar 29 ⟨b, 0, none⟩).run Try.prog w2 = .ok (.agg (chk s c).cells.toArray) w2 := loadVar_agg Ty.SRecord_agg Ty.SRecord_size (xs := (chk s c).cells) rfl (has_of_at h2)
  refine res_i (rv_cell hv (rv_nil w2)) ?_
  exact hR _ _ ⟨rfl, ((Mod.of_ext x1 : Mod (w.heap.size ≤ ·) w w1).trans (m2.mono fun k _ h => by omega)).new⟩
theorem entry_ret (s : Int) (w : World) : Ret Try.prog 23 #[.int .i64 s] w fun v w' => v = .agg (ent (entE s)).cells.toArray ∧ Ext w w' := by
  refine ret_of (fun _ _ => sh_landfalllaw40_entry_ok _) fun R hR => ?_
  unfold sh_landfalllaw40_entry
  refine alloc_i Ty.SRecord_zero fun b w1 x1 hat hb _ => ?_
  rw [build_i (new_entry s), build_i (new_entry_rec (entE s))]
  refine SRecord.set (r := SRecord.zero) (s := ent (entE s)) hat fun w2 m2 h2 _ => ?_
  have hv : (loadVar 29 ⟨b, 0, none⟩).run Try.prog w2 = .ok (.agg (ent (entE s)).cells.toArray) w2 := loadVar_agg Ty.SRecord_agg Ty.SRecord_size (xs := (ent (entE s)).cells) rfl (has_of_at h2)
  refine res_i (rv_cell hv (rv_nil w2)) ?_
  exact hR _ _ ⟨rfl, ((Mod.of_ext x1 : Mod (w.heap.size ≤ ·) w w1).trans (m2.mono fun k _ h => by omega)).new⟩
def jends (fs : List SRecord) : List Int := (List.range fs.length).map fun i => ((Jou.bytes (fs.take (i + 1))).length : Int)
theorem jends_length (fs : List SRecord) : (jends fs).length = fs.length := by simp [jends]
theorem jends_snoc (fs : List SRecord) (r : SRecord) : jends (fs ++ [r]) = jends fs ++ [((Jou.bytes (fs ++ [r])).length : Int)] := by
  simp only [jends, List.length_append, List.length_singleton, List.range_succ, List.map_append, List.map_cons, List.map_nil]
  congr 1
  · refine List.map_congr_left fun i hi => ?_
    rw [List.mem_range] at hi
    rw [List.take_append_of_le_length (by omega)]
  · rw [List.take_of_length_le (by simp)]
theorem jbytes_few : ∀ (fs : List SRecord), (∀ r ∈ fs, r.Ok) → (Jou.bytes fs).length ≤ 400 * fs.length
  | [], _ => by simp [Jou.bytes_nil]
  | r :: fs, h => by
    have h1 := jbytes_few fs fun r hr => h r (by simp [hr])
    have h2 := (jframe_few (h r (by simp))).2
    rw [show r :: fs = [r] ++ fs from rfl, Jou.bytes_append]
    have : Jou.bytes [r] = Jou.frameOf r := by simp [Jou.bytes, Cod.all, Jou.frameOf]
    rw [this, List.length_append, List.length_append]
    simp only [List.length_singleton]; omega
/-- Where the loop of written stands. -/
def WrAt (w0 : World) (l : List SRecord) (k : Nat) (x y z : Value) (w : World) : Prop :=
  k ≤ l.length ∧ ∃ fs : List SRecord, fs = (l.take k).filter Jou.form ∧ w.ownsRow w0.heap.size 5 1 x (Jou.bytes fs).length (bv (Jou.bytes fs)) ∧ w.ownsRow w0.heap.size 3 1 y (jends fs).length (iv (jends fs)) ∧ SRecord.Owns w0.heap.size w z fs ∧ Mod (w0.heap.size ≤ ·) w0 w
def WrittenQ (l : List SRecord) (w : World) (r : Value) (w' : World) : Prop :=
  ∃ x y z, r = .tuple #[x, y, z, .bool true] ∧ Sl w' 1 x (Jou.bytes (l.filter Jou.form)).length (bv (Jou.bytes (l.filter Jou.form))) ∧ Sl w' 1 y (jends (l.filter Jou.form)).length (iv (jends (l.filter Jou.form))) ∧ SRecord.Row w' z (l.filter Jou.form) ∧ Ext w w'
theorem fl_iv (l : List Int) : fl (fun n : Int => [Value.int .i64 n]) l = iv l := by
  induction l with
  | nil => rfl
  | cons n l ih => rw [fl_cons, ih]; rfl
theorem written_ret {v : Value} {l : List SRecord} (hok : ∀ r ∈ l, r.Ok) (hl : l.length ≤ 40) (w : World) (h : SRecord.Row w v l) : Ret Try.prog 19 #[v] w (WrittenQ l w) := by
  refine ret_of (fun _ _ => sh_landfalllaw40_written_ok _) fun R hR => ?_
  unfold sh_landfalllaw40_written
  refine loop4 (fun x y z u w1 => ∃ k : Nat, u = .int .i64 k ∧ WrAt w l k x y z w1) (fun _ _ _ u _ => l.length - (intOf u).toNat) ⟨0, rfl, by omega, [], rfl, Own.nil _ _ _ _, Own.nil _ _ _ _, SRecord.owns_nil _ _, Mod.refl _ _⟩ ?_
  rintro hh x y z _ w1 hx hy hz hu ⟨k, rfl, hk, fs, hfs, hox, hoy, hoz, hm⟩ K hK
  have x1 := hm.new
  have z1 := x1.size
  rw [SRecord.row_len (Sl.ext h x1), hx, hy, hz, hu, bin_lss]
  have hfl : fs.length ≤ k := by rw [hfs]; exact Nat.le_trans (List.length_filter_le _ _) (by rw [List.length_take]; omega)
  have hfok : ∀ r ∈ fs, r.Ok := fun r hr => by rw [hfs] at hr; exact hok r (List.mem_of_mem_take (List.mem_filter.1 hr).1)
  refine Br_i (fun hb => ?_) fun hb => ?_
  · have hlt : k < l.length := by have := dec_t hb; omega
    have htk : (l.take (k + 1)).filter Jou.form = fs ++ [l[k]].filter Jou.form := by rw [List.take_succ_eq_append_getElem hlt, List.filter_append, hfs]
    refine join3 (fun x' y' z' w' => WrAt w l (k + 1) x' y' z' w') ?_ fun K4 hK4 => ?_
    · rintro h4 x' y' z' w' h4x h4y h4z hq
      rw [h4x, h4y, h4z, bin_add, i64_wrap (by omega) (by omega)]
      exact hK _ _ _ _ _ ⟨k + 1, by simp, hq⟩ (by simp [intOf]; omega)
    · obtain ⟨b, o, hhas, hbl, hix⟩ := SRecord.row_at h hlt
      rw [hix, SRecord.g_all (hhas w1 x1)]
      refine callF_ret (Form_ret l[k] w1) ?_
      rintro _ w2 ⟨rfl, x2⟩
      rw [un_not]
      have hm2 : Mod (w.heap.size ≤ ·) w w2 := hm.trans (.of_ext x2)
      refine Br_i (fun hb => ?_) fun hb => ?_
      · have hf : Jou.form l[k] = false := by simpa using hb
        have e : (l.take (k + 1)).filter Jou.form = fs := by rw [htk]; simp [hf]
        exact hK4 _ _ _ _ ⟨by omega, fs, e.symm, Own.ext hox x2, Own.ext hoy x2, Own.ext hoz x2, hm2⟩
      · have hf : Jou.form l[k] = true := by simpa using hb
        have e : (l.take (k + 1)).filter Jou.form = fs ++ [l[k]] := by rw [htk]; simp [hf]
        have hlk := hok l[k] (List.getElem_mem hlt)
        have hby := jbytes_few fs hfok
        have hfr := (jframe_few hlk).2
        rw [hix, SRecord.g_all (hhas w2 (x1.trans x2))]
        refine callF_ret (jPut_ret hlk (by omega) w2 (Sl.of_owns (Own.ext hox x2))) ?_
        rintro _ w3 ⟨vb, rfl, hvb, x3⟩
        have ejp : jputV (Jou.bytes fs) l[k] = (Jou.bytes (fs ++ [l[k]]), 0) := by
          unfold jputV
          rw [if_neg (by rw [hf]; decide), if_neg (by omega), Jou.bytes_snoc]
        rw [ejp] at hvb ⊢
        rw [ext2_0, ext2_1, bin_neq]
        refine br_f ?_
        have z2 := x2.size
        have z3 := x3.size
        have hvb : w3.ownsRow w2.heap.size 5 1 vb (Jou.bytes (fs ++ [l[k]])).length (bv (Jou.bytes (fs ++ [l[k]]))) := hvb
        have hoy3 := Own.ext (Own.ext hoy (x2.trans x3)) (Ext.drew w3)
        have hoz3 := Own.ext (Own.ext hoz (x2.trans x3)) (Ext.drew w3)
        have hvb3 := Own.ext hvb (Ext.drew w3)
        have hm3 : Mod (w.heap.size ≤ ·) w w3.drew := hm2.trans (.of_ext (x3.trans (Ext.drew w3)))
        refine drawR2 (fun k => y.ownBlock = some k) (fun k => z.ownBlock = some k) ?_
        generalize w3.drew = w4 at *
        have hYZ : ∀ k, w4.heap.size ≥ 0 → (y.ownBlock = some k ∨ z.ownBlock = some k) → w.heap.size ≤ k := fun k _ hk => by
          rcases hk with hk | hk
          · exact (Own.block hoy3 hk).1
          · exact (Own.block hoz3 hk).1
        have hx5 : ∀ w5, Mod (fun k => y.ownBlock = some k ∨ z.ownBlock = some k) w4 w5 → Mod (w.heap.size ≤ ·) w w5 := fun w5 h5 => hm3.trans (h5.mono fun k _ hk => hYZ k (Nat.zero_le _) hk)
        have z4 := hm3.size
        have hyz : ∀ k, y.ownBlock = some k → ¬ z.ownBlock = some k := fun k hk => Own.off_own hoz3 hoy3 (by decide) k hk
        have hzy : ∀ k, z.ownBlock = some k → ¬ y.ownBlock = some k := fun k hk => Own.off_own hoy3 hoz3 (by decide) k hk
        have hjl := jends_length fs
        refine det_r2 (.int .i64 ((Jou.bytes (fs ++ [l[k]])).length : Int)) (fun w5 _ K => (Sl.header (w' := w5) (Sl.of_owns hvb3)).len Ty.bytes) ?_
        refine det_r2 _ (fun w5 _ K => hix w5 K _) ?_
        refine det_r2 (.agg l[k].cells.toArray) (fun w5 h5 K => SRecord.g_all (hhas w5 (hx5 w5 h5).new)) ?_
        obtain ⟨ii, hii, hiz, his, hib⟩ := Ty.info_parts Ty.int_info
        obtain ⟨ir, hir, hrz, hrs, hrb⟩ := Ty.info_parts Ty.SRecord_info
        refine thr_append (c := fun n : Int => [Value.int .i64 n]) (l := jends fs) (a := ((Jou.bytes (fs ++ [l[k]])).length : Int)) (By := fun k => y.ownBlock = some k) (Bz := fun k => z.ownBlock = some k) (base := w.heap.size) Ty.ints hii hiz his hib rfl (by decide) (by decide) (fun _ => rfl) (fun _ u hu => by simp only [List.mem_singleton] at hu; subst hu; rfl) rfl rfl S2_0 rfl
          (fun _ h => h) (fun k hk => (Own.block hoz3 hk).2) hyz (by rw [fl_iv]; exact hoy3) (by omega) (by omega) z4 ?_
        refine thr_append (c := SRecord.cells) (l := fs) (a := l[k]) (By := fun k => z.ownBlock = some k) (Bz := fun k => y.ownBlock = some k) (base := w.heap.size) Ty.SRecord_row hir hrz hrs hrb rfl (by decide) (by decide) SRecord.len SRecord.one (by funext a b; congr 1; funext k; exact propext Or.comm) rfl S2_1 rfl
          (fun _ h => h) (fun k hk => (Own.block hoy3 hk).2) hzy hoz3 (by omega) (by omega) z4 ?_
        rintro h5 w5 h45 ⟨_, ⟨_, v1, v1', e1, ho1⟩, v2, v2', e2, ho2⟩
        simp only [List.map_cons, List.map_nil, List.cons.injEq, and_true] at e1 e2
        obtain ⟨_, e1⟩ := e1
        obtain ⟨_, e2⟩ := e2
        have hm5 := hx5 w5 h45
        refine hK4 _ _ _ _ ⟨by omega, _, e.symm, ?_, ?_, ?_, hm5⟩
        · refine Own.mono (Own.mod hvb3 h45 fun k hk hor => ?_) (by omega)
          rcases hor with hor | hor
          · exact Own.off_own hoy3 hvb3 (by decide) k hk hor
          · exact Own.off_own hoz3 hvb3 (by decide) k hk hor
        · rw [e1, jends_snoc, ← fl_iv]; exact ho1
        · rw [e2]; exact ho2
  · have hge : l.length ≤ k := by have := dec_f hb; omega
    rw [List.take_of_length_le hge] at hfs
    subst hfs
    exact hR _ _ ⟨x, y, z, rfl, Sl.of_owns hox, Sl.of_owns hoy, Sl.of_owns hoz, x1⟩
end Go.Proofs.Ytahplhcijlgelaa
