/- The walk of what a vehicle reads of its bytes. -/
import Derived.Test.YtoeblipchoglaaaGreatDoorZVehW
namespace Go.Proofs.YtoeblipchoglaaaGreatDoor
set_option maxRecDepth 100000
set_option maxHeartbeats 8000000
open Sh Go.RowKit
namespace Veh
theorem keptL_ok : ∀ (rs : List SRecord) {out o : List SEntry}, (∀ r ∈ rs, r.Ok) → (∀ e ∈ out, e.Ok) → Jou.keptL out rs = some o → ∀ e ∈ o, e.Ok
  | [], out, o, _, h, hk => by simp only [Jou.keptL, Option.some.injEq] at hk; subst hk; exact h
  | r :: rs, out, o, hr, h, hk => by
    unfold Jou.keptL at hk
    have hr' : ∀ r ∈ rs, r.Ok := fun q hq => hr q (by simp [hq])
    split at hk
    · split at hk
      · refine keptL_ok rs hr' (fun e he => ?_) hk
        rcases List.mem_append.1 he with he | he
        · exact h e he
        · rw [List.mem_singleton] at he; subst he; exact (hr r (by simp)).2.1
      · cases hk
    · split at hk
      · exact keptL_ok rs hr' h hk
      · cases hk
theorem keptL_seq : ∀ (rs : List SRecord) {out o : List SEntry}, (∀ r ∈ rs, Jou.form r = true) → Jou.keptL out rs = some o → ∀ r ∈ rs, r.kind = 2 → ∃ n : Nat, r.seq = n ∧ n ≤ o.length
  | [], out, o, _, _ => by simp
  | r :: rs, out, o, hf, hk => by
    intro q hq hq2
    have hf' : ∀ r ∈ rs, Jou.form r = true := fun q hq => hf q (by simp [hq])
    unfold Jou.keptL at hk
    split at hk
    · rename_i h1
      split at hk
      · rcases List.mem_cons.1 hq with rfl | hq
        · omega
        · exact keptL_seq rs hf' hk q hq hq2
      · cases hk
    · split at hk
      · rename_i hs
        rcases List.mem_cons.1 hq with rfl | hq
        · obtain ⟨es, rfl, _⟩ := kept_chain rs hf' hk
          exact ⟨out.length, hs, by simp⟩
        · exact keptL_seq rs hf' hk q hq hq2
      · cases hk
def isChk (r : SRecord) : Bool := decide (r.kind = 2)
theorem wrong_any {rs : List SRecord} {o : List SEntry} {c : BitVec 64} (hf : ∀ r ∈ rs, Jou.form r = true) (hk : Jou.kept rs = some o) : ((rs.filter isChk).any fun r => !decide (Rep.carry c (o.take r.seq.toNat) = r.chain)) = !chained c rs := by
  have h := chained_iff (c := c) rs hf hk
  rw [show Rep.carry c [] = c from rfl] at h
  rw [Bool.eq_iff_iff, List.any_eq_true]
  simp only [List.mem_filter, isChk, decide_eq_true_eq, Bool.not_eq_true', decide_eq_false_iff_not]
  constructor
  · rintro ⟨r, ⟨hr, h2⟩, hne⟩
    rw [← Bool.not_eq_true, h]
    exact fun hh => hne (hh r hr h2)
  · intro hc
    rw [← Bool.not_eq_true, h] at hc
    refine Classical.byContradiction fun hn => hc fun r hr h2 => Classical.byContradiction fun hne => hn ⟨r, ⟨hr, h2⟩, hne⟩
def endsTo (rs : List SRecord) (s : Int) (k : Nat) : Bool := (List.range (k + 1)).any fun i => decide (s = ((Jou.bytes (rs.take i)).length : Int))
theorem endsTo_zero (rs : List SRecord) (s : Int) : endsTo rs s 0 = decide (s = 0) := by
  simp only [endsTo, Nat.zero_add, List.range_one, List.any_cons, List.any_nil, Bool.or_false, List.take_zero, Jou.bytes_nil, List.length_nil]
  rfl
theorem endsTo_succ (rs : List SRecord) (s : Int) (k : Nat) : endsTo rs s (k + 1) = (endsTo rs s k || decide (s = ((Jou.bytes (rs.take (k + 1))).length : Int))) := by
  unfold endsTo
  rw [List.range_succ (n := k + 1), List.any_append]
  simp
theorem endsTo_all (rs : List SRecord) (s : Int) : endsTo rs s rs.length = ends rs s := rfl
theorem says_eq {b : List UInt8} {id : Int} (h : ¬ 200000 < b.length) {o : List SEntry} (hk : Jou.kept (Jou.load b).1 = some o) : says b id = if Rep.follows o 1 = true ∧ chained (Rep.begin id) (Jou.load b).1 = true then some o else none := by
  unfold says
  rw [if_neg h, hk]
theorem says_none {b : List UInt8} {id : Int} (h : ¬ 200000 < b.length) (hk : Jou.kept (Jou.load b).1 = none) : says b id = none := by
  unfold says
  rw [if_neg h, hk]
end Veh
theorem SRecord.var {w : World} {K : Value → World → Prop} {X1 X2 : List PanicEntry → World → Prop} {g : SRecord} (hk : ∀ b w2, Ext w w2 → At w2 b (.cells g.cells.toArray 64 (0, 0)) → w.heap.size ≤ b → K (.pointer (some ⟨b, 0, none⟩)) w2) :
    DoV Tryz.prog (Instr.alloc 64 true (.tuple #[])) w (fun t w1 => DoU Tryz.prog (Instr.storeAt 64 t (.agg g.cells.toArray)) w1 (fun _ w2 => K t w2) X1) X2 := by
  refine alloc_i Ty.SRecord_zero fun b w1 x1 hat hb _ => ?_
  refine SRecord.set (r := SRecord.zero) hat fun w2 m2 h2 _ => ?_
  exact hk _ _ ((Mod.of_ext x1 : Mod (w.heap.size ≤ ·) w w1).trans (m2.mono fun k _ h => by omega)).new h2 (by omega)
def Part (rs : List SRecord) (out : List SEntry) (k : Nat) : Prop := Jou.kept rs = Jou.keptL out (rs.drop k) ∨ (Jou.kept rs = none ∧ ∃ i, ∃ h : i < out.length, out[i].seq ≠ (i : Int) + 1)
theorem Part.last {rs : List SRecord} {out : List SEntry} (h : Part rs out rs.length) (hl : out.length < 1000000) (hf : Rep.follows out 1 = true) : Jou.kept rs = some out := by
  rcases h with h | ⟨_, i, hi, hne⟩
  · rw [h, List.drop_eq_nil_of_le (Nat.le_refl _)]; rfl
  · have := (Rep.good_iff.1 ((Rep.follows_iff.1 hf).2 i hi)).2.1
    rw [Rep.el_of hi, i64_wrap (by omega) (by omega)] at this
    exact absurd (by omega) hne
theorem Part.bad {rs : List SRecord} {out : List SEntry} (h : Part rs out rs.length) (hf : Rep.follows out 1 = false) : Jou.kept rs = some out ∨ Jou.kept rs = none := by
  rcases h with h | h
  · left; rw [h, List.drop_eq_nil_of_le (Nat.le_refl _)]; rfl
  · exact .inr h.1
theorem Part.ent {rs : List SRecord} {out : List SEntry} {k : Nat} (h : Part rs out k) (hk : k < rs.length) (h1 : rs[k].kind = 1) : Part rs (out ++ [rs[k].entry]) (k + 1) := by
  rcases h with h | ⟨h0, i, hi, hne⟩
  · rw [Jou.keptL_drop hk, if_pos h1] at h
    split at h
    · exact .inl h
    · rename_i hs
      exact .inr ⟨h, out.length, by simp, by simpa using hs⟩
  · exact .inr ⟨h0, i, by rw [List.length_append]; omega, by rw [List.getElem_append_left hi]; exact hne⟩
theorem Part.chk {rs : List SRecord} {out : List SEntry} {k : Nat} (h : Part rs out k) (hk : k < rs.length) (h2 : rs[k].kind = 2) : (rs[k].seq = (out.length : Int) → Part rs out (k + 1)) ∧ (¬ rs[k].seq = (out.length : Int) → Jou.kept rs = none) := by
  rcases h with h | h
  · rw [Jou.keptL_drop hk, if_neg (by omega)] at h
    exact ⟨fun e => by rw [if_pos e] at h; exact .inl h, fun e => by rw [if_neg e] at h; exact h⟩
  · exact ⟨fun _ => .inr h, fun _ => h.1⟩
structure VRd (m : SMem) (v : Veh.V) (rs : List SRecord) (bm bl : Nat) (wL : World) (k : Nat) (x y : Value) (W : World) : Prop where
  kle : k ≤ rs.length
  xat : x = .int .i64 ((Jou.bytes (rs.take k)).length : Nat)
  mod : Mod (fun j => j = bm ∨ j = bl ∨ wL.heap.size ≤ j) wL W
  out : ∃ out hd, (Part rs out k ∧ ∀ e ∈ out, e.Ok) ∧ out.length ≤ k ∧ At W bl (.cells (SLog.mk v.id m.v.log.start hd).cells.toArray 25 (0, 0)) ∧ SEntry.Owns wL.heap.size W hd.val out
  chk : SRecord.Owns wL.heap.size W y ((rs.take k).filter Veh.isChk)
  mem : ∃ m' : SMem, At W bm (.cells m'.cells.toArray 57 (0, 0)) ∧ m'.v = m.v ∧ m'.ends = Veh.endsTo rs v.sure k
def MReadQ (m : SMem) (v : Veh.V) (bm : Nat) (w : World) (r : Value) (w' : World) : Prop := r = .bool (Veh.says v.b v.id).isSome ∧ Mod (fun j => j = bm ∨ w.heap.size ≤ j) w w' ∧
  ∃ m' : SMem, At w' bm (.cells m'.cells.toArray 57 (0, 0)) ∧ m'.v = m.v ∧ ∀ o, Veh.says v.b v.id = some o → SEntry.Owns w.heap.size w' m'.says.val o ∧ m'.whole = ((Jou.load v.b).2 : Nat) ∧ m'.ends = Veh.ends (Jou.load v.b).1 v.sure
theorem mread_ret {m : SMem} {v : Veh.V} {bm : Nat} {w0 : World} (hok : VehOk v) (hlv : v.log.valid = true) (hid : v.log.veh = v.id) (w : World) (hx : Ext w0 w) (hbm : w0.heap.size ≤ bm) (hat : At w bm (.cells m.cells.toArray 57 (0, 0)))
    (hv : VehIs w0 m.v v) (ht : Tab w0) : Ret Tryz.prog 47 #[.pointer (some ⟨bm, 0, none⟩)] w (MReadQ m v bm w) := by
  refine ret_of (fun _ _ => sh_vehicle_memory_read_ok _) fun R hR => ?_
  unfold sh_vehicle_memory_read
  have hbw := hat.lt
  refine box_i fun b1 w1 x1 hat1 hb1 _ => ?_
  have hat1 : At w1 b1 (.cells #[.pointer (some ⟨bm, 0, none⟩)] 79 (0, 0)) := hat1
  rw [load_e (u := .pointer (some ⟨bm, 0, none⟩)) Ty.pmem hat1 rfl, nil_ptr, SMem.g_v_byts (has_of_at (hat.ext x1))]
  have hvx := hv.ext (hx.trans x1)
  refine callF_ret (jLoad_own w1 hvx.2.2.2.1) ?_
  rintro _ w2 ⟨vm, rfl, hown, x2⟩
  rw [ext3_0, ext3_1, ext3_2, bin_neq]
  have x02 := x1.trans x2
  by_cases hlen : 200000 < v.b.length
  · have el : loadV v.b = ([], 0, 2) := by unfold loadV; rw [if_pos hlen]
    rw [el]
    refine br_t (hR _ _ ⟨?_, .of_ext x02, m, hat.ext x02, rfl, fun o ho => ?_⟩)
    · rw [show Veh.says v.b v.id = none by unfold Veh.says; rw [if_pos hlen]]; rfl
    · rw [show Veh.says v.b v.id = none by unfold Veh.says; rw [if_pos hlen]] at ho; cases ho
  rw [loadV_of (by omega)] at hown ⊢
  refine br_f ?_
  have hown : SRecord.Owns w1.heap.size w2 vm (Jou.load v.b).1 := hown
  obtain ⟨hfo, _, _, _, hrl⟩ := Veh.load_inv v.b
  have hbytes : ∀ k, (Jou.bytes ((Jou.load v.b).1.take k)).length ≤ 200000 := fun k => by
    have h1 := Veh.bytes_mono (Jou.load v.b).1 (Nat.le_max_left k (Jou.load v.b).1.length)
    rw [List.take_of_length_le (Nat.le_max_right _ _)] at h1
    have := (Veh.load_inv v.b).2.2
    omega
  obtain ⟨whole, hwh⟩ : ∃ n, n = (Jou.load v.b).2 := ⟨_, rfl⟩
  have hsn := Veh.says_none (id := v.id) hlen
  have hse := fun o => Veh.says_eq (id := v.id) hlen (o := o)
  obtain ⟨rs, hrs⟩ : ∃ rs, rs = (Jou.load v.b).1 := ⟨_, rfl⟩
  rw [← hrs] at hown hfo hbytes hsn hse hrl
  refine draw_ext fun w3 x3 => ?_
  have x13 := x2.trans x3
  have x03 := x02.trans x3
  have hm3 : ∀ W, Ext w3 W → Has W bm 0 m.cells := fun W x => has_of_at ((hat.ext x03).ext x)
  have h13 : ∀ W, Ext w3 W → At W b1 (.cells #[.pointer (some ⟨bm, 0, none⟩)] 79 (0, 0)) := fun W x => (hat1.ext x13).ext x
  refine det_read (.pointer (some ⟨bm, 0, none⟩)) (fun w4 x4 K => load_e Ty.pmem (h13 w4 x4) rfl) ?_
  refine det_read _ (fun w4 x4 K => nil_ptr) ?_
  refine det_read _ (fun w4 x4 K => Ty.SMem_f0) ?_
  refine det_read _ (fun w4 x4 K => Ty.SVeh_f0) ?_
  refine det_read (.int .i64 m.v.id) (fun w4 x4 K => load_cell Ty.int_agg (has_at (hm3 w4 x4) (d := 0) rfl rfl)) ?_
  refine det_read (.pointer (some ⟨bm, 0, none⟩)) (fun w4 x4 K => load_e Ty.pmem (h13 w4 x4) rfl) ?_
  refine det_read _ (fun w4 x4 K => nil_ptr) ?_
  refine det_read _ (fun w4 x4 K => Ty.SMem_f0) ?_
  refine det_read _ (fun w4 x4 K => Ty.SVeh_f2) ?_
  refine det_read _ (fun w4 x4 K => Ty.SLog_f1) ?_
  refine det_read m.v.log.start.val (fun w4 x4 K => load_cell Ty.hdr22 (has_at (hm3 w4 x4) (d := 3) rfl rfl)) ?_
  refine det_read (.agg (SLog.mk m.v.id m.v.log.start ⟨none, 0, 0⟩).cells.toArray) (fun w4 x4 K => build_i (show Tryz.prog.built 25 [(0, .int .i64 m.v.id), (1, m.v.log.start.val)] = some (SLog.mk m.v.id m.v.log.start ⟨none, 0, 0⟩).cells.toArray by kernel_rfl)) ?_
  refine nd_alloc Ty.SLog_zero fun _ => ?_
  rintro w4 x4 ⟨_, bl, rfl, hatl, hbl⟩
  have x04 := x03.trans x4
  refine SLog.set (r := SLog.zero) hatl fun w5 m5 hat5 hs5 => ?_
  have x35 : Ext w3 w5 := ext_step x4 m5 hbl
  have x05 := x03.trans x35
  have x25 := x3.trans x35
  rw [hv.1] at hat5
  refine draw_ext fun w6 x6 => ?_
  have x06 := x05.trans x6
  have hm6 : ∀ W, Ext w6 W → Has W bm 0 m.cells := fun W x => has_of_at ((hat.ext x06).ext x)
  have h16 : ∀ W, Ext w6 W → At W b1 (.cells #[.pointer (some ⟨bm, 0, none⟩)] 79 (0, 0)) := fun W x => (hat1.ext (x2.trans (x25.trans x6))).ext x
  refine det_read (.pointer (some ⟨bm, 0, none⟩)) (fun w7 x7 K => load_e Ty.pmem (h16 w7 x7) rfl) ?_
  refine det_read (.pointer (some ⟨bm, 0, none⟩)) (fun w7 x7 K => load_e Ty.pmem (h16 w7 x7) rfl) ?_
  refine det_read _ (fun w7 x7 K => nil_ptr) ?_
  refine det_read _ (fun w7 x7 K => Ty.SMem_f0) ?_
  refine det_read _ (fun w7 x7 K => Ty.SVeh_f4) ?_
  refine det_read (.int .i64 m.v.sure) (fun w7 x7 K => load_cell Ty.int_agg (has_at (hm6 w7 x7) (d := 6) rfl rfl)) ?_
  refine det_read _ (fun w7 x7 K => bin_eql) ?_
  intro w7 x7 _
  have x57 := x6.trans x7
  have x07 := x05.trans x57
  have x27 := x25.trans x57
  rw [nil_ptr]
  refine SMem.s_ends (hat.ext x07) fun wL mL hatL hsL => ?_
  have hvs : m.v.sure = v.sure := hv.2.2.2.2.1
  rw [SRecord.row_len (Sl.of_owns (Own.mod (Own.ext hown x27) mL (Own.off_at (Own.ext hown x27) (hat.ext x07) (by decide))))]
  -- what lies at the loop's start
  have hownL := Own.mod (Own.ext hown x27) mL (Own.off_at (Own.ext hown x27) (hat.ext x07) (by decide))
  have hb1L : At wL b1 (.cells #[.pointer (some ⟨bm, 0, none⟩)] 79 (0, 0)) := ((hat1.ext x2).ext x27).mod mL (by omega)
  have z1 := x1.size
  have z2 := x2.size
  have z3 := x3.size
  have z25 := x25.size
  have z57 := x57.size
  have hbl5 := hat5.lt
  have hblb : bl ≠ bm := by omega
  have hblb1 : bl ≠ b1 := by have := hat1.lt; omega
  have hatlL : At wL bl (.cells (SLog.mk v.id m.v.log.start ⟨none, 0, 0⟩).cells.toArray 25 (0, 0)) := (hat5.ext x57).mod mL hblb
  have hmL : Mod (fun j => j = bm ∨ w.heap.size ≤ j) w wL := (Mod.of_ext x07).trans (mL.mono fun _ _ => .inl)
  have zL : w.heap.size ≤ wL.heap.size := hmL.size
  have bad : ∀ W m', At W bm (.cells (SMem.cells m').toArray 57 (0, 0)) → m'.v = m.v → Mod (fun j => j = bm ∨ j = bl ∨ wL.heap.size ≤ j) wL W → Veh.says v.b v.id = none → R (.returned (.bool false)) W := fun W m' h1 h2 h3 h4 =>
    hR _ _ ⟨by rw [h4]; rfl, hmL.comp h3 (fun _ _ h => h) (fun j _ h => h.elim .inl fun h => .inr (h.elim (fun e => by omega) fun e => by omega)), m', h1, h2, fun o ho => by rw [h4] at ho; cases ho⟩
  refine loop3 (fun x y z W => ∃ k : Nat, z = .int .i64 k ∧ VRd m v rs bm bl wL k x y W) (fun _ _ z _ => rs.length - (intOf z).toNat)
    ⟨0, rfl, by omega, rfl, Mod.refl _ _, ⟨[], ⟨none, 0, 0⟩, ⟨.inl (by simp [Jou.kept]), by simp⟩, by simp, hatlL, SEntry.owns_nil _ _⟩, SRecord.owns_nil _ _, ⟨_, hatL, rfl, by rw [Veh.endsTo_zero, ← hvs]⟩⟩ ?_
  rintro hh x y _ W hhx hhy hhz ⟨k, rfl, kle, rfl, hmW, ⟨out, hd, ⟨hkept, heok⟩, hol, hatlW, howno⟩, hchk, m', hatmW, hm'v, hm'e⟩ K hK
  have hb1W : At W b1 (.cells #[.pointer (some ⟨bm, 0, none⟩)] 79 (0, 0)) := hb1L.mod hmW (by have := hb1L.lt; omega)
  have hownW : SRecord.Owns w1.heap.size W vm rs := Own.mod hownL hmW fun j hj hh => by
    have := Own.block hownL hj
    rcases hh with h | h | h
    · omega
    · exact Own.off_at hownL hatlL (by decide) j hj h
    · omega
  have zW := hmW.size
  rw [hhz, bin_lss]
  have hx0W : Ext w0 W := ext_mod hx hbm (hmL.comp hmW (fun _ _ h => h) fun j _ h => h.elim .inl fun h => .inr (h.elim (fun e => by omega) fun e => by omega))
  refine Br_i (fun hb => ?_) fun hb => ?_
  · have hlt : k < rs.length := by have := dec_t hb; omega
    have htk : (rs.take (k + 1)).filter Veh.isChk = (rs.take k).filter Veh.isChk ++ [rs[k]].filter Veh.isChk := by rw [List.take_succ_eq_append_getElem hlt, List.filter_append]
    have hbk : Jou.bytes (rs.take (k + 1)) = Jou.bytes (rs.take k) ++ Jou.frameOf rs[k] := by rw [List.take_succ_eq_append_getElem hlt, Jou.bytes_snoc]
    obtain ⟨hfk, hok1⟩ := hfo rs[k] (List.getElem_mem hlt)
    refine join2 (fun x' y' W' => VRd m v rs bm bl wL (k + 1) x' y' W') ?_ fun K4 hK4 => ?_
    · rintro h4 x' y' w' h4x h4y hq
      rw [h4x, h4y, bin_add, i64_wrap (by omega) (by omega)]
      exact hK _ _ _ _ ⟨k + 1, by simp, hq⟩ (by simp [intOf]; omega)
    obtain ⟨b, o, hhas, _, hix⟩ := SRecord.row_at (Sl.of_owns hownW) hlt
    rw [hix, SRecord.g_all (hhas W (Ext.refl _))]
    refine SRecord.var fun bt W2 y2 hatt hbt => ?_
    rw [SRecord.g_all (has_of_at hatt)]
    have hfr := jframe_few hok1
    have hpv : jputV [] rs[k] = (Jou.frameOf rs[k], 0) := by
      unfold jputV
      rw [if_neg (by rw [hfk]; decide), if_neg (by simp; omega)]; rfl
    refine callF_ret (jPut_ret (b := []) hok1 (by simp) W2 (Sl.nil W2 1)) ?_
    rintro _ W3 ⟨vf, rfl, hvf, y3⟩
    rw [hpv] at hvf ⊢
    have hvf : W3.ownsRow W2.heap.size 5 1 vf (Jou.frameOf rs[k]).length (bv (Jou.frameOf rs[k])) := hvf
    have y23 := y2.trans y3
    rw [ext2_0, ext2_1, (Sl.of_owns hvf).len Ty.bytes, hhx, bin_add, i64_wrap (by have := hbytes k; omega) (by have := hbytes k; omega)]
    have hxat : ((Jou.bytes (rs.take k)).length : Int) + ((Jou.frameOf rs[k]).length : Nat) = ((Jou.bytes (rs.take (k + 1))).length : Nat) := by rw [hbk, List.length_append]; omega
    show JoinE _ _ _
    rw [hxat]
    refine join0 (fun W' => Mod (· = bm) W3 W' ∧ ∃ m2 : SMem, At W' bm (.cells m2.cells.toArray 57 (0, 0)) ∧ m2.v = m.v ∧ m2.ends = Veh.endsTo rs v.sure (k + 1)) ?_ fun K5 hK5 => ?_
    · rintro _ W6 ⟨mo6, m2, hat6, hm2v, hm2e⟩
      have hatt6 := ((hatt.ext y3).mod mo6 (by have := (hatmW).lt; omega))
      rw [SRecord.g_kind (has_of_at hatt6), bin_eql]
      have mo36 : Mod (fun j => j = bm ∨ j = bl ∨ wL.heap.size ≤ j) wL W6 := (hmW.trans (.of_ext y23)).trans (mo6.mono fun _ _ => .inl)
      have hatl6 := (hatlW.ext y23).mod mo6 hblb
      have howno6 := Own.mod (Own.ext howno y23) mo6 (Own.off_at (Own.ext howno y23) (hatmW.ext y23) (by decide))
      have hchk6 := Own.mod (Own.ext hchk y23) mo6 (Own.off_at (Own.ext hchk y23) (hatmW.ext y23) (by decide))
      have z6 := mo36.size
      have hkd := form_kind hfk
      refine Br_i (fun hb1 => ?_) fun hb1 => ?_
      · have h1 : rs[k].kind = 1 := dec_t hb1
        have hns : [rs[k]].filter Veh.isChk = [] := by simp [Veh.isChk, h1]
        rw [SLog.g_ents (has_of_at hatl6), SRecord.g_entry (has_of_at hatt6)]
        refine SEntry.row_lit [rs[k].entry] rfl (by decide) (by decide) rfl fun v7 W7 y7 h7 _ => ?_
        refine SEntry.row_apps (Own.ext howno6 y7) (Sl.of_owns h7) (by simp; omega) (by have := y7.size; omega) fun v8 W8 h8 m8 => ?_
        obtain ⟨d8, rfl⟩ := Hdr.of_sl (Sl.of_owns h8)
        have hatl8 := (hatl6.ext y7).mod m8 fun hh => Own.off_at (Own.ext howno6 y7) (hatl6.ext y7) (by decide) bl hh rfl
        have hatm8 := (hat6.ext y7).mod m8 fun hh => Own.off_at (Own.ext howno6 y7) (hat6.ext y7) (by decide) bm hh rfl
        have hchk8 := Own.mod (Own.ext hchk6 y7) m8 (Own.off_own (Own.ext howno6 y7) (Own.ext hchk6 y7) (by decide))
        refine SLog.s_ents hatl8 fun W9 m9 hatl9 _ => ?_
        · refine hK4 _ _ _ ⟨by omega, rfl, ?_, ⟨out ++ [rs[k].entry], d8, ⟨hkept.ent hlt h1, fun e he => (List.mem_append.1 he).elim (heok e) fun he => by rw [List.mem_singleton] at he; subst he; exact hok1.2.1⟩, by simp; omega, hatl9, Own.mod h8 m9 (Own.off_at h8 hatl8 (by decide))⟩, ?_, m2, hatm8.mod m9 hblb.symm, hm2v, hm2e⟩
          · exact ((mo36.trans (.of_ext y7)).trans (m8.mono fun j _ hj => .inr (.inr (Own.block (Own.ext howno6 y7) hj).1))).trans (m9.mono fun _ _ h => .inr (.inl h))
          · rw [hhy, htk, hns, List.append_nil]
            exact Own.mod hchk8 m9 (Own.off_at hchk8 hatl8 (by decide))
      · have h2 : rs[k].kind = 2 := by have := dec_f hb1; omega
        rw [SRecord.g_seq (has_of_at hatt6), SLog.g_ents (has_of_at hatl6), SEntry.row_len (Sl.of_owns howno6), bin_eql]
        obtain ⟨hk1, hk2⟩ := hkept.chk hlt h2
        have hns : [rs[k]].filter Veh.isChk = [rs[k]] := by simp [Veh.isChk, h2]
        refine Br_i (fun hb2 => ?_) fun hb2 => ?_
        · have hseq : rs[k].seq = (out.length : Int) := dec_t hb2
          rw [SRecord.g_all (has_of_at hatt6)]
          refine SRecord.row_lit [rs[k]] rfl (by decide) (by decide) rfl fun v7 W7 y7 h7 _ => ?_
          rw [hhy]
          refine SRecord.row_apps (Own.ext hchk6 y7) (Sl.of_owns h7) (by have := List.length_filter_le Veh.isChk (rs.take k); rw [List.length_take] at this; simp; omega) (by have := y7.size; omega) fun v8 W8 h8 m8 => ?_
          refine hK4 _ _ _ ⟨by omega, rfl, ?_, ⟨out, hd, ⟨hk1 hseq, heok⟩, by omega, ?_, ?_⟩, ?_, m2, ?_, hm2v, hm2e⟩
          · exact (mo36.trans (.of_ext y7)).trans (m8.mono fun j _ hj => .inr (.inr (Own.block (Own.ext hchk6 y7) hj).1))
          · exact (hatl6.ext y7).mod m8 fun hh => Own.off_at (Own.ext hchk6 y7) (hatl6.ext y7) (by decide) bl hh rfl
          · exact Own.mod (Own.ext howno6 y7) m8 (Own.off_own (Own.ext hchk6 y7) (Own.ext howno6 y7) (by decide))
          · rw [htk, hns]; exact h8
          · exact (hat6.ext y7).mod m8 fun hh => Own.off_at (Own.ext hchk6 y7) (hat6.ext y7) (by decide) bm hh rfl
        · have hne : ¬ rs[k].seq = (out.length : Int) := dec_f hb2
          exact bad _ _ hat6 hm2v mo36 (hsn (hk2 hne))
    · refine draw_ext fun W4 y4 => ?_
      have y24 := y23.trans y4
      have hm4 : ∀ W', Ext W4 W' → Has W' bm 0 m'.cells := fun W' x => has_of_at ((hatmW.ext y24).ext x)
      have h14 : ∀ W', Ext W4 W' → At W' b1 (.cells #[.pointer (some ⟨bm, 0, none⟩)] 79 (0, 0)) := fun W' x => (hb1W.ext y24).ext x
      refine det_read (.pointer (some ⟨bm, 0, none⟩)) (fun w7 x7 K => load_e Ty.pmem (h14 w7 x7) rfl) ?_
      refine det_read (.pointer (some ⟨bm, 0, none⟩)) (fun w7 x7 K => load_e Ty.pmem (h14 w7 x7) rfl) ?_
      refine det_read _ (fun w7 x7 K => nil_ptr) ?_
      refine det_read _ (fun w7 x7 K => Ty.SMem_f3) ?_
      refine det_read (.bool m'.ends) (fun w7 x7 K => load_cell Ty.bool_agg (has_at (hm4 w7 x7) (d := 12) rfl rfl)) ?_
      refine Gd_i (fun hb1 => ?_) fun hb1 => ?_
      · refine det_read (.pointer (some ⟨bm, 0, none⟩)) (fun w7 x7 K => load_e Ty.pmem (h14 w7 x7) rfl) ?_
        refine det_read _ (fun w7 x7 K => nil_ptr) ?_
        refine det_read _ (fun w7 x7 K => Ty.SMem_f0) ?_
        refine det_read _ (fun w7 x7 K => Ty.SVeh_f4) ?_
        refine det_read (.int .i64 m'.v.sure) (fun w7 x7 K => load_cell Ty.int_agg (has_at (hm4 w7 x7) (d := 6) rfl rfl)) ?_
        refine det_read _ (fun w7 x7 K => bin_eql) ?_
        intro W5 y5 _
        rw [nil_ptr]
        refine SMem.s_ends ((hatmW.ext y24).ext y5) fun W6 m6 hat6 _ => ?_
        refine hK5 _ ⟨(Mod.of_ext (y4.trans y5)).trans m6, _, hat6, hm'v, ?_⟩
        show decide _ = _
        rw [Veh.endsTo_succ, ← hm'e, hb1, hm'v, hvs, Bool.false_or, decide_eq_decide]
        exact eq_comm
      · intro W5 y5 _
        rw [nil_ptr]
        refine SMem.s_ends ((hatmW.ext y24).ext y5) fun W6 m6 hat6 _ => ?_
        refine hK5 _ ⟨(Mod.of_ext (y4.trans y5)).trans m6, _, hat6, hm'v, ?_⟩
        show true = _
        rw [Veh.endsTo_succ, ← hm'e, hb1]; rfl
  · have hge : rs.length ≤ k := by have := dec_f hb; omega
    have hk : k = rs.length := by omega
    subst hk
    have hfoo : ∀ r ∈ rs, Jou.form r = true := fun r hr => (hfo r hr).1
    rw [SLog.g_all (has_of_at hatlW)]
    have hlog : LogIs W ⟨v.id, m.v.log.start, hd⟩ ⟨v.log.veh, v.log.rs, out⟩ := ⟨hid.symm, hv.2.2.1.2.1.ext hx0W, Sl.of_owns howno⟩
    have hlok : LogOk ⟨v.log.veh, v.log.rs, out⟩ := ⟨hok.2.2.1.1, hok.2.2.1.2.1, heok⟩
    refine callF_ret (hlog.valid_ret hlok) ?_
    rintro _ W2 ⟨rfl, y2⟩
    rw [Rep.valid_with hlv, un_not]
    refine Br_i (fun hb1 => ?_) fun hb1 => ?_
    · have hnf : Rep.follows out 1 = false := by simpa using hb1
      refine bad _ _ (hatmW.ext y2) hm'v (hmW.trans (.of_ext y2)) ?_
      rcases hkept.bad hnf with h | h
      · rw [hse _ h, if_neg (by rw [hnf]; simp)]
      · exact hsn h
    · have hfol : Rep.follows out 1 = true := by simpa using hb1
      have hkept := hkept.last (by have := (Rep.follows_iff.1 hfol).1; omega) hfol
      have hatm2 := hatmW.ext y2
      have hatl2 := hatlW.ext y2
      have hb12 := hb1W.ext y2
      refine draw_sto bm 57 (fun i u => i = 10 ∧ u = hd.val) fun W3 y3 => ?_
      have hne1 : b1 ≠ bm := by omega
      have hl3 := hatl2.ext y3
      have h13 := hb12.ext y3
      have hm3 := hatm2.ext y3
      refine det_sto (.pointer (some ⟨bm, 0, none⟩)) (fun w7 x7 K => load_e Ty.pmem (x7.at_ h13 hne1 id) rfl) ?_
      refine det_sto (.pointer (some ⟨bm, 0, none⟩)) (fun w7 x7 K => load_e Ty.pmem (x7.at_ h13 hne1 id) rfl) ?_
      refine det_sto _ (fun w7 x7 K => Ty.SLog_f2) ?_
      refine det_sto hd.val (fun w7 x7 K => load_cell Ty.ents_agg (has_at (has_of_at (x7.at_ hl3 hblb id)) (d := 2) rfl rfl)) ?_
      refine det_sto _ (fun w7 x7 K => nil_ptr) ?_
      refine det_sto _ (fun w7 x7 K => Ty.SMem_f1) ?_
      refine det_cell (fun w => show (sizeOf 23).run Tryz.prog w = .ok 1 w by kernel_rfl) (v := hd.val) rfl ⟨_, hm3, by show 10 < 13; omega⟩ (fun u hu => hu.2) ⟨rfl, rfl⟩ ?_
      rintro W4 r4 ⟨_, hset⟩
      have hm4 : At W4 bm (.cells ({ m' with says := hd } : SMem).cells.toArray 57 (0, 0)) := by
        refine r4.done hm3 rfl fun i u hu => ?_
        by_cases hi : i = 10
        · subst hi
          left
          obtain ⟨cs, h1, h2⟩ := hset
          refine ⟨cs, h1, ?_⟩
          rw [h2, ← hu]; rfl
        · right
          refine ⟨fun u h => hi h.1, ?_⟩
          rw [← hu]
          have : i < 10 ∨ 10 < i := by omega
          rw [SMem.cells_eq, SMem.cells_eq]
          match i, hi with
          | 0, _ | 1, _ | 2, _ | 3, _ | 4, _ | 5, _ | 6, _ | 7, _ | 8, _ | 9, _ | 11, _ | 12, _ => rfl
          | i + 13, _ => rfl
      rw [nil_ptr]
      refine SMem.s_whole hm4 fun W5 m5 hm5 _ => ?_
      rw [mk_func]
      have r4m : Mod (fun j => j = bm) W3 W4 := r4.1.mono fun j _ h => h.elim id False.elim
      have mo5 : Mod (fun j => j = bm ∨ j = bl ∨ wL.heap.size ≤ j) wL W5 := ((hmW.trans (.of_ext (y2.trans y3))).trans (r4m.mono fun _ _ => .inl)).trans (m5.mono fun _ _ => .inl)
      have mow5 : Mod (fun j => j = bm ∨ w.heap.size ≤ j) w W5 := hmL.comp mo5 (fun _ _ h => h) fun j _ h => h.elim .inl fun h => .inr (h.elim (fun e => by omega) fun e => by omega)
      have x05' : Ext w0 W5 := ext_mod hx hbm mow5
      have off5 : ∀ {base : Nat} {e : TypeId} {sz n : Nat} {u : Value} {xs : List Value}, W3.ownsRow base e sz u n xs → 57 ≠ e → W5.ownsRow base e sz u n xs := fun h hne => by
        have h1 := Own.mod h r4m (Own.off_at h hm3 (Ne.symm hne))
        exact Own.mod h1 m5 (Own.off_at h1 hm4 (Ne.symm hne))
      have hchk5 := off5 (Own.ext hchk (y2.trans y3)) (by decide)
      have hown5 := off5 (Own.ext howno (y2.trans y3)) (by decide)
      rw [List.take_length] at hchk5
      have hb15 := (h13.mod r4m hne1).mod m5 hne1
      have hval : Rep.Lg.valid ⟨v.id, v.log.rs, out⟩ = true := by
        have := Rep.valid_with hlv out
        rw [hid] at this
        rw [this]; exact hfol
      rw [hhy]
      refine callF_ret (recContains_ret (p := fun r => !decide (Rep.carry (Rep.begin v.id) (out.take r.seq.toNat) = r.chain)) W5 (Sl.of_owns hchk5) fun r hr W6 K6 X6 y6 hK6 => ?_) ?_
      · obtain ⟨hr1, hr2⟩ := List.mem_filter.1 hr
        have hr2 : r.kind = 2 := of_decide_eq_true hr2
        obtain ⟨n, hn1, hn2⟩ := Veh.keptL_seq rs hfoo hkept r hr1 hr2
        rw [callV_func (by kernel_rfl)]
        refine callF_ret (wrong_ret (m := { m' with says := hd, whole := ((Jou.load v.b).2 : Nat) }) ⟨hok.1, hok.2.2.1.2.1, heok⟩ hval hn1 hn2 W6 (hm5.ext y6) (hb15.ext y6) ?_ (Sl.of_owns (Own.ext hown5 y6)) (ht.ext (x05'.trans y6))) ?_
        · show VehIs W6 m'.v v
          rw [hm'v]; exact hv.ext (x05'.trans y6)
        · rintro _ W7 ⟨rfl, y7⟩
          exact hK6 _ y7
      rintro _ W6 ⟨rfl, y6⟩
      rw [Veh.wrong_any hfoo hkept, un_not, Bool.not_not]
      have hsay := hse _ hkept
      refine hR _ _ ⟨?_, mow5.trans (.of_ext y6), _, hm5.ext y6, hm'v, fun o ho => ?_⟩
      · rw [hsay]
        cases hc : Veh.chained (Rep.begin v.id) rs with
        | true => rw [if_pos ⟨hfol, rfl⟩]; rfl
        | false => rw [if_neg (by simp)]; rfl
      · rw [hsay] at ho
        split at ho
        · cases ho
          refine ⟨Own.mono (Own.ext hown5 y6) zL, by rw [← hwh], ?_⟩
          show m'.ends = _
          rw [hm'e, Veh.endsTo_all, hrs]
        · cases ho
end Go.Proofs.YtoeblipchoglaaaGreatDoor
