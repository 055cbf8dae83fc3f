/- The walks of vehicles: load, Valid, put, formed, and what gives vehicles out. -/
import Derived.Test.YtoeblipchoglaaaGreatDoorZVehR
namespace Go.Proofs.YtoeblipchoglaaaGreatDoor
set_option maxRecDepth 100000
set_option maxHeartbeats 8000000
open Sh Go.RowKit
section vars
variable {w : World} {K : Value → World → Prop} {X1 X2 : List PanicEntry → World → Prop}
theorem SVeh.var {g : SVeh} (hk : ∀ b w2, Ext w w2 → At w2 b (.cells g.cells.toArray 28 (0, 0)) → w.heap.size ≤ b → K (.pointer (some ⟨b, 0, none⟩)) w2) :
    DoV Tryz.prog (Instr.alloc 28 true (.tuple #[])) w (fun t w1 => DoU Tryz.prog (Instr.storeAt 28 t (.agg g.cells.toArray)) w1 (fun _ w2 => K t w2) X1) X2 := by
  refine alloc_i Ty.SVeh_zero fun b w1 x1 hat hb _ => ?_
  refine SVeh.set (r := SVeh.zero) hat fun w2 m2 h2 _ => ?_
  exact hk _ _ ((Mod.of_ext x1 : Mod (w.heap.size ≤ ·) w w1).trans (m2.mono fun k _ h => by omega)).new h2 (by omega)
theorem SMem.var {g : SMem} (hk : ∀ b w2, Ext w w2 → At w2 b (.cells g.cells.toArray 57 (0, 0)) → w.heap.size ≤ b → K (.pointer (some ⟨b, 0, none⟩)) w2) :
    DoV Tryz.prog (Instr.alloc 57 true (.tuple #[])) w (fun t w1 => DoU Tryz.prog (Instr.storeAt 57 t (.agg g.cells.toArray)) w1 (fun _ w2 => K t w2) X1) X2 := by
  refine alloc_i Ty.SMem_zero fun b w1 x1 hat hb _ => ?_
  refine SMem.set (r := SMem.zero) hat fun w2 m2 h2 _ => ?_
  exact hk _ _ ((Mod.of_ext x1 : Mod (w.heap.size ≤ ·) w w1).trans (m2.mono fun k _ h => by omega)).new h2 (by omega)
end vars
theorem new_mem (s : SVeh) : Tryz.prog.built 57 [(0, .agg s.cells.toArray)] = some (SMem.mk s ⟨none, 0, 0⟩ 0 false).cells.toArray := by kernel_rfl
theorem new_noveh : Tryz.prog.built 28 [] = some SVeh.zero.cells.toArray := by kernel_rfl
theorem new_rep3 (f : Int) (d : Hdr) : Tryz.prog.built 97 [(0, .int .i64 1), (1, .int .i64 f), (2, d.val)] = some (SReport.mk 1 f d 0 0 ⟨0, 0⟩).cells.toArray := by kernel_rfl
def LoadVQ (s : SVeh) (v : Veh.V) (w : World) (r : Value) (w' : World) : Prop := ∃ m : SMem, r = .tuple #[.agg m.cells.toArray, .bool (Veh.valid v)] ∧ Ext w w' ∧ m.v = s ∧
  (Veh.valid v = true → ∃ o, Veh.says v.b v.id = some o ∧ SEntry.Owns w.heap.size w' m.says.val o ∧ m.whole = ((Jou.load v.b).2 : Nat))
theorem load_ret {s : SVeh} {v : Veh.V} (hok : VehOk v) (w : World) (hv : VehIs w s v) (ht : Tab w) : Ret Tryz.prog 26 #[.agg s.cells.toArray] w (LoadVQ s v w) := by
  refine ret_of (fun _ _ => sh_vehicle_load_ok _) fun R hR => ?_
  unfold sh_vehicle_load
  refine box_i fun b1 w1 x1 hat1 hb1 _ => ?_
  refine alloc_i Ty.SMem_zero fun b2 w2 x2 hat2 hb2 _ => ?_
  rw [SVeh.g_all (has_of_at (At.ext hat1 x2)), build_i (new_mem s)]
  refine SMem.var fun b4 w6 x6 hat4 hb4 => ?_
  have x02 := x1.trans x2
  have x06 := x02.trans x6
  have z1 := x1.size
  have z2 := x2.size
  have hb2' : w.heap.size ≤ b2 := by omega
  have hb4' : w.heap.size ≤ b4 := by omega
  have hne : b4 ≠ b2 := by have := At.lt hat2; omega
  have h2 := At.ext hat2 x6
  -- out of it: not valid
  have bad : ∀ W (m' : SMem) (X0 : List PanicEntry → World → Prop), Ext w W → At W b4 (.cells m'.cells.toArray 57 (0, 0)) → At W b2 (.cells SMem.zero.cells.toArray 57 (0, 0)) → m'.v = s → Veh.valid v = false →
      DoV Tryz.prog (Instr.loadAt 57 (.pointer (some ⟨b4, 0, none⟩))) W (fun t w1 => DoU Tryz.prog (Instr.storeAt 57 (.pointer (some ⟨b2, 0, none⟩)) t) w1 (fun _ w2 => Res Tryz.prog [.cell (.pointer (some ⟨b2, 0, none⟩)) 57, .tmp (.bool false)] w2 R) (Pan R)) X0 := fun W m' X0 hxW h4 h2 hs hvf => by
    rw [SMem.g_all (has_of_at h4)]
    refine SMem.set (r := SMem.zero) h2 fun W2 m2 h5 _ => ?_
    have hvv : (loadVar 57 ⟨b2, 0, none⟩).run Tryz.prog W2 = .ok (.agg m'.cells.toArray) W2 := loadVar_agg Ty.SMem_agg Ty.SMem_size (xs := m'.cells) rfl (has_of_at h5)
    refine res_i (rv_cell hvv (rv_tmp (rv_nil W2))) ?_
    exact hR _ _ ⟨m', by rw [hvf]; rfl, ext_step hxW m2 hb2', hs, fun h => by rw [hvf] at h; cases h⟩
  refine join0 (fun W => W = w6 ∧ Veh.Nums v ∧ v.log.veh = v.id) ?_ fun K hK => ?_
  · rintro _ W ⟨hW, hnums, hid⟩
    subst W
    refine join0 (fun W => Ext w W ∧ At W b2 (.cells SMem.zero.cells.toArray 57 (0, 0)) ∧ v.log.valid = true ∧ ∃ m' : SMem, At W b4 (.cells m'.cells.toArray 57 (0, 0)) ∧ m'.v = s ∧ ∃ o, Veh.says v.b v.id = some o ∧ SEntry.Owns w6.heap.size W m'.says.val o ∧ m'.whole = ((Jou.load v.b).2 : Nat) ∧ Veh.ends (Jou.load v.b).1 v.sure = true) ?_ fun K2 hK2 => ?_
    · rintro _ W ⟨xW, h2W, hlv, m', h4W, hm's, o, hso, hown, hwh, hends⟩
      have hbase : ∀ hvt : Veh.valid v = true, ∀ W', Ext W W' → ∀ o', o' = o → SEntry.Owns w.heap.size W' m'.says.val o' := fun _ W' x o' e => by subst e; exact Own.mono (Own.ext hown x) x06.size
      have z6 := x06.size
      have valid_up : v.up = true → Veh.valid v = (decide ((Jou.load v.b).2 = v.b.length) && decide (o = v.log.ents)) := fun hu => by
        rw [Bool.eq_iff_iff, Veh.valid_iff, Bool.and_eq_true, decide_eq_true_eq, decide_eq_true_eq]
        constructor
        · rintro ⟨_, _, ⟨o', ho', hi⟩, _⟩
          rw [if_pos hu] at hi
          rw [hso] at ho'; cases ho'; exact hi
        · exact fun h => ⟨hnums, ⟨hlv, hid⟩, ⟨o, hso, by rw [if_pos hu]; exact h⟩, hends⟩
      have valid_down : v.up = false → Veh.valid v = decide (v.log.ents.length = 0) := fun hu => by
        rw [Bool.eq_iff_iff, Veh.valid_iff, decide_eq_true_eq]
        constructor
        · rintro ⟨_, _, ⟨o', ho', hi⟩, _⟩
          rw [if_neg (by rw [hu]; decide)] at hi
          rw [hi]; rfl
        · exact fun h => ⟨hnums, ⟨hlv, hid⟩, ⟨o, hso, by rw [if_neg (by rw [hu]; decide)]; exact List.eq_nil_of_length_eq_zero h⟩, hends⟩
      have out : ∀ W', Ext w W' → At W' b2 (.cells m'.cells.toArray 57 (0, 0)) → SEntry.Owns w.heap.size W' m'.says.val o → Res Tryz.prog [.cell (.pointer (some ⟨b2, 0, none⟩)) 57, .tmp (.bool (Veh.valid v))] W' R := fun W' x h5 ho => by
        have hvv : (loadVar 57 ⟨b2, 0, none⟩).run Tryz.prog W' = .ok (.agg m'.cells.toArray) W' := loadVar_agg Ty.SMem_agg Ty.SMem_size (xs := m'.cells) rfl (has_of_at h5)
        refine res_i (rv_cell hvv (rv_tmp (rv_nil W'))) ?_
        exact hR _ _ ⟨m', rfl, x, hm's, fun _ => ⟨o, hso, ho, hwh⟩⟩
      rw [SMem.g_v_up (has_of_at h4W), un_not, hm's, hv.2.2.2.2.2.1]
      refine Br_i (fun hu => ?_) fun hu => ?_
      · have hu : v.up = false := by simpa using hu
        refine draw_sto b2 57 (fun i u => m'.cells[i]? = some u) fun W3 y3 => ?_
        have h43 := h4W.ext y3
        have hm : ∀ W', Sto b2 no 57 (fun i u => m'.cells[i]? = some u) W3 W' → Has W' b4 0 m'.cells := fun W' r => has_of_at (r.at_ h43 hne id)
        have xr : ∀ W', Sto b2 no 57 (fun i u => m'.cells[i]? = some u) W3 W' → Ext w W' := fun W' r => r.ext (xW.trans y3) hb2' fun _ h => h.elim
        refine det_sto _ (fun w7 x7 K => SMem.g_all (hm w7 x7)) ?_
        refine det_sto _ (fun w7 x7 K => Ty.SMem_f0) ?_
        refine det_sto _ (fun w7 x7 K => Ty.SVeh_f2) ?_
        refine det_sto _ (fun w7 x7 K => Ty.SLog_f2) ?_
        refine det_sto s.log.ents.val (fun w7 x7 K => load_cell Ty.ents_agg (has_at (hm w7 x7) (d := 4) rfl (by rw [← hm's]; rfl))) ?_
        refine det_sto _ (fun w7 x7 K => SEntry.row_len (Sl.ext hv.2.2.1.2.2 (xr w7 x7))) ?_
        refine det_sto _ (fun w7 x7 K => bin_eql) ?_
        refine det_fill Ty.SMem_size (SMem.len m') (SMem.one m') ⟨_, h2W.ext y3, rfl⟩ ?_
        rintro W4 r4 ⟨_, h24⟩
        have e : (Value.bool (decide ((v.log.ents.length : Int) = 0))) = .bool (Veh.valid v) := by
          rw [valid_down hu]; congr 1; rw [decide_eq_decide]; omega
        rw [e]
        exact out W4 (xr W4 r4) h24 (Own.mono (Own.mod (Own.ext hown y3) r4.1 fun j hj hh => hh.elim (fun e => by have := (Own.block hown hj).1; have := At.lt h2; omega) id) z6)
      · have hu : v.up = true := by simpa using hu
        refine draw_sto b2 57 (fun i u => m'.cells[i]? = some u) fun W3 y3 => ?_
        have h43 := h4W.ext y3
        have hm : ∀ W', Sto b2 no 57 (fun i u => m'.cells[i]? = some u) W3 W' → Has W' b4 0 m'.cells := fun W' r => has_of_at (r.at_ h43 hne id)
        have xr : ∀ W', Sto b2 no 57 (fun i u => m'.cells[i]? = some u) W3 W' → Ext w W' := fun W' r => r.ext (xW.trans y3) hb2' fun _ h => h.elim
        have ho3 : ∀ W', Sto b2 no 57 (fun i u => m'.cells[i]? = some u) W3 W' → SEntry.Owns w.heap.size W' m'.says.val o := fun W' r => Own.mono (Own.mod (Own.ext hown y3) r.1 fun j hj hh => hh.elim (fun e => by have := (Own.block hown hj).1; have := At.lt h2; omega) id) z6
        refine det_sto _ (fun w7 x7 K => SMem.g_all (hm w7 x7)) ?_
        refine det_sto _ (fun w7 x7 K => Ty.SMem_f2) ?_
        refine det_sto (.int .i64 ((Jou.load v.b).2 : Nat)) (fun w7 x7 K => load_cell Ty.int_agg (has_at (hm w7 x7) (d := 11) rfl (by rw [← hwh]; rfl))) ?_
        refine det_sto _ (fun w7 x7 K => Ty.SMem_f0) ?_
        refine det_sto _ (fun w7 x7 K => Ty.SVeh_f3) ?_
        refine det_sto s.byts.val (fun w7 x7 K => load_cell Ty.hdr26 (has_at (hm w7 x7) (d := 5) rfl (by rw [← hm's]; rfl))) ?_
        refine det_sto _ (fun w7 x7 K => (hv.2.2.2.1.ext (xr w7 x7)).len Ty.bytes) ?_
        refine det_sto _ (fun w7 x7 K => bin_eql) ?_
        have ew : (((Jou.load v.b).2 : Int) = (v.b.length : Int)) ↔ (Jou.load v.b).2 = v.b.length := by omega
        refine Gd_i (fun hb => ?_) fun hb => ?_
        · have hb := ew.1 (dec_t hb)
          refine det_sto _ (fun w7 x7 K => Ty.SMem_f1) ?_
          refine det_sto m'.says.val (fun w7 x7 K => load_cell Ty.ents_agg (has_at (hm w7 x7) (d := 10) rfl rfl)) ?_
          refine det_sto _ (fun w7 x7 K => Ty.SMem_f0) ?_
          refine det_sto _ (fun w7 x7 K => Ty.SVeh_f2) ?_
          refine det_sto _ (fun w7 x7 K => Ty.SLog_f2) ?_
          refine det_sto s.log.ents.val (fun w7 x7 K => load_cell Ty.ents_agg (has_at (hm w7 x7) (d := 4) rfl (by rw [← hm's]; rfl))) ?_
          refine det_sto_ret _ (fun w7 x7 => entEqual_ret w7 (Sl.of_owns (ho3 w7 x7)) (Sl.ext hv.2.2.1.2.2 (xr w7 x7))) ?_
          refine det_fill Ty.SMem_size (SMem.len m') (SMem.one m') ⟨_, h2W.ext y3, rfl⟩ ?_
          rintro W4 r4 ⟨_, h24⟩
          have e : decide (o = v.log.ents) = Veh.valid v := by rw [valid_up hu, hb, decide_eq_true rfl, Bool.true_and]
          rw [e]
          exact out W4 (xr W4 r4) h24 (ho3 W4 r4)
        · have hb : ¬ (Jou.load v.b).2 = v.b.length := fun h => dec_f hb (ew.2 h)
          refine det_fill Ty.SMem_size (SMem.len m') (SMem.one m') ⟨_, h2W.ext y3, rfl⟩ ?_
          rintro W4 r4 ⟨_, h24⟩
          have e : false = Veh.valid v := by rw [valid_up hu, decide_eq_false hb, Bool.false_and]
          rw [e]
          exact out W4 (xr W4 r4) h24 (ho3 W4 r4)
    · refine join_in fun K3 hK3 => ?_
      rw [SMem.g_v_log (has_of_at hat4)]
      refine callF_ret ((hv.2.2.1.ext x06).valid_ret hok.2.2.1) ?_
      rintro _ W2 ⟨rfl, y2⟩
      rw [un_not]
      have x0W2 := x06.trans y2
      refine Gd_i (fun hb => ?_) fun hb => leaf1 hK3 fun h hh => by
        rw [hh]
        exact br_t (bad _ _ _ x0W2 (hat4.ext y2) (h2.ext y2) rfl (Veh.valid_f.2 fun hh => by have := hh.2.1.1; simp at hb; rw [hb] at this; cases this))
      have hlv : v.log.valid = true := by simpa using hb
      refine callF_ret (mread_ret hok hlv hid W2 x0W2 hb4' (hat4.ext y2) hv ht) ?_
      rintro _ W3 ⟨rfl, mo3, m', h4', hm'v, hm'o⟩
      have x0W3 : Ext w W3 := ext_mod x0W2 hb4' mo3
      have h23 : At W3 b2 (.cells SMem.zero.cells.toArray 57 (0, 0)) := (h2.ext y2).mod mo3 fun hh => by have := At.lt h2; have := y2.size; omega
      rw [un_not]
      refine Gd_i (fun hb2 => ?_) fun hb2 => leaf1 hK3 fun h hh => by
        rw [hh]
        exact br_t (bad _ _ _ x0W3 h4' h23 hm'v (Veh.valid_f.2 fun hh => by
          obtain ⟨o, ho, _⟩ := hh.2.2.1
          rw [ho] at hb2; cases hb2))
      have hb2 : (Veh.says v.b v.id).isSome = true := by simpa using hb2
      obtain ⟨o, ho⟩ := Option.isSome_iff_exists.1 hb2
      obtain ⟨g1, g2, g3⟩ := hm'o o ho
      rw [SMem.g_ends (has_of_at h4'), un_not]
      refine leaf1 hK3 fun h hh => ?_
      rw [hh]
      refine Br_i (fun hb3 => ?_) fun hb3 => ?_
      · refine bad _ _ _ x0W3 h4' h23 hm'v (Veh.valid_f.2 fun hh => ?_)
        rw [g3, hh.2.2.2] at hb3; cases hb3
      · exact hK2 _ ⟨x0W3, h23, hlv, m', h4', hm'v, o, ho, Own.mono g1 y2.size, g2, by rw [← g3]; simpa using hb3⟩
  · refine join_in fun K2 hK2 => ?_
    have nb : ∀ (h : Nat → Value), ¬ (Veh.Nums v ∧ v.log.veh = v.id) → ∀ {A : Prop}, DoV Tryz.prog (Instr.loadAt 57 (.pointer (some ⟨b4, 0, none⟩))) w6 (fun t w1 => DoU Tryz.prog (Instr.storeAt 57 (.pointer (some ⟨b2, 0, none⟩)) t) w1 (fun _ w2 => Res Tryz.prog [.cell (.pointer (some ⟨b2, 0, none⟩)) 57, .tmp (.bool false)] w2 R) (Pan R)) (Pan R) := fun h hn _ =>
      bad _ _ _ x06 hat4 h2 rfl (Veh.valid_f.2 fun hh => hn ⟨hh.1, hh.2.1.2⟩)
    have e1 : s.id = v.id := hv.1
    have e2 : s.ver = v.ver := hv.2.1
    have e3 : s.log.veh = v.log.veh := hv.2.2.1.1
    have e4 : s.used = v.used := hv.2.2.2.2.2.2.1
    have e5 : s.mode = v.mode := hv.2.2.2.2.2.2.2
    rw [SMem.g_v_id (has_of_at hat4)]
    refine callF_same (vehID_ret _ w6) ?_
    rw [un_not]
    refine Gd_i (fun hb => ?_) fun hb => leaf1 hK2 fun h hh => by
      rw [hh]
      refine br_t (nb h (fun hn => ?_) (A := True))
      have : ¬ (1 ≤ s.id ∧ s.id ≤ 1000000) := by simp [Rep.isID] at hb; omega
      exact this (by rw [e1]; exact hn.1.1)
    have c1 : 1 ≤ s.id ∧ s.id ≤ 1000000 := by simpa [Rep.isID] using hb
    rw [SMem.g_v_ver (has_of_at hat4)]
    refine callF_same (vehID_ret _ w6) ?_
    rw [un_not]
    refine Gd_i (fun hb => ?_) fun hb => leaf1 hK2 fun h hh => by
      rw [hh]
      refine br_t (nb h (fun hn => ?_) (A := True))
      have : ¬ (1 ≤ s.ver ∧ s.ver ≤ 1000000) := by simp [Rep.isID] at hb; omega
      exact this (by rw [e2]; exact hn.1.2.1)
    have c2 : 1 ≤ s.ver ∧ s.ver ≤ 1000000 := by simpa [Rep.isID] using hb
    rw [SMem.g_v_log_veh (has_of_at hat4), SMem.g_v_id (has_of_at hat4), bin_neq]
    refine Gd_i (fun hb => ?_) fun hb => leaf1 hK2 fun h hh => by
      rw [hh]
      refine br_t (nb h (fun hn => ?_) (A := True))
      have : ¬ s.log.veh = s.id := by simpa using hb
      exact this (by rw [e3, e1]; exact hn.2)
    have c3 : s.log.veh = s.id := by simpa using hb
    rw [SMem.g_v_used (has_of_at hat4), bin_lss]
    refine Gd_i (fun hb => ?_) fun hb => leaf1 hK2 fun h hh => by
      rw [hh]
      refine br_t (nb h (fun hn => ?_) (A := True))
      have h1 : s.used < 0 := dec_t hb
      have := hn.1.2.2.1.1
      omega
    have c4 : ¬ s.used < 0 := dec_f hb
    rw [SMem.g_v_used (has_of_at hat4), bin_gtr]
    refine Gd_i (fun hb => ?_) fun hb => leaf1 hK2 fun h hh => by
      rw [hh]
      refine br_t (nb h (fun hn => ?_) (A := True))
      have h1 : 1000000000 < s.used := dec_t hb
      have := hn.1.2.2.1.2
      omega
    have c5 : ¬ 1000000000 < s.used := dec_f hb
    have fin : (v.mode = 0 ∨ v.mode = 1) → K [] w6 := fun hm => hK _ ⟨rfl, ⟨by rw [← e1]; exact c1, by rw [← e2]; exact c2, by omega, hm⟩, by rw [← e3, ← e1]; exact c3⟩
    rw [SMem.g_v_mode (has_of_at hat4), bin_neq]
    refine Gd_i (fun hb => ?_) fun hb => leaf1 hK2 fun h hh => by
      rw [hh]
      refine br_f (fin (.inl ?_))
      have : s.mode = 0 := by simpa using hb
      omega
    have c6 : ¬ s.mode = 0 := by simpa using hb
    rw [SMem.g_v_mode (has_of_at hat4), bin_neq]
    refine leaf1 hK2 fun h hh => ?_
    rw [hh]
    refine Br_i (fun hb => ?_) fun hb => ?_
    · refine nb h (fun hn => ?_) (A := True)
      have : ¬ s.mode = 1 := by simpa using hb
      have := hn.1.2.2.2
      omega
    · have : s.mode = 1 := by simpa using hb
      exact fin (.inr (by omega))
theorem vehValid_ret {s : SVeh} {v : Veh.V} (hok : VehOk v) (w : World) (hv : VehIs w s v) (ht : Tab w) : Ret Tryz.prog 18 #[.agg s.cells.toArray] w fun r w' => r = .bool (Veh.valid v) ∧ Ext w w' := by
  refine ret_of (fun _ _ => sh_vehicle_Valid_ok _) fun R hR => ?_
  unfold sh_vehicle_Valid
  refine box_i fun b1 w1 x1 hat1 _ _ => ?_
  rw [SVeh.g_all (has_of_at hat1)]
  refine callF_ret (load_ret hok w1 (hv.ext x1) (ht.ext x1)) ?_
  rintro _ w2 ⟨m, rfl, x2, _⟩
  rw [ext2_0, ext2_1]
  refine SMem.var fun b3 w3 x3 _ _ => ?_
  exact hR _ _ ⟨rfl, (x1.trans x2).trans x3⟩
theorem follows_one {e : SEntry} (he : I64 e.seq) : Rep.follows [e] e.seq = Rep.formed e := by
  have e0 : (List.range [e].length) = [0] := rfl
  have e1 : Rep.el [e] 0 = e := rfl
  have e2 : IntKind.i64.wrap (e.seq + ((0 : Nat) : Int)) = e.seq := by unfold I64 at he; rw [i64_wrap (by omega) (by omega)]; omega
  unfold Rep.follows Rep.good
  rw [e0, List.all_cons, List.all_nil, e1, e2, decide_eq_true rfl]
  simp
theorem checkV_err {r : Rep.Rpt} {p : Int} (h : Rep.okR r = true) (hs : (Sig.verV p r.sig (Rep.msg r)).2 = 0) : (Rep.checkV r p).2 = 0 := by
  rw [Rep.checkV, if_pos h]; exact hs
theorem vehFormed_ret {e : SEntry} (he : e.Ok) (w : World) (ht : Tab w) : Ret Tryz.prog 34 #[.agg e.cells.toArray] w fun r w' => r = .bool (Rep.formed e) ∧ Ext w w' := by
  refine ret_of (fun _ _ => sh_vehicle_formed_ok _) fun R hR => ?_
  unfold sh_vehicle_formed
  refine box_i fun b1 w1 x1 hat1 _ _ => ?_
  rw [SEntry.g_seq (has_of_at hat1), SEntry.g_all (has_of_at hat1)]
  refine SEntry.row_lit [e] rfl (by decide) (by decide) rfl fun vd w2 x2 h2 _ => ?_
  obtain ⟨d, rfl⟩ := Hdr.of_sl (Sl.of_owns h2)
  rw [build_i (new_rep3 e.seq d)]
  refine SReport.var fun b3 w3 x3 hat3 _ => ?_
  rw [SReport.g_all (has_of_at hat3)]
  have x03 := (x1.trans x2).trans x3
  have hrep : RepIs w3 ⟨1, e.seq, d, 0, 0, ⟨0, 0⟩⟩ ⟨1, e.seq, [e], 0, 0, ⟨0, 0⟩⟩ := ⟨rfl, rfl, Sl.of_owns (Own.ext h2 x3), rfl, rfl, rfl⟩
  have hrok : RepOk ⟨1, e.seq, [e], 0, 0, ⟨0, 0⟩⟩ := ⟨show I64 1 from ⟨by decide, by decide⟩, he.1, fun x hx => by rw [List.mem_singleton] at hx; subst hx; exact he, ⟨show I64 0 from ⟨by decide, by decide⟩, show I64 0 from ⟨by decide, by decide⟩⟩, by show 1 ≤ 9223372036854775807; decide⟩
  refine callF_ret (Check_ret (p := 4) hrok w3 hrep (ht.ext x03)) ?_
  rintro _ w4 ⟨rfl, x4⟩
  rw [ext2_0, ext2_1, bin_eql]
  have ho : Rep.okR ⟨1, e.seq, [e], 0, 0, ⟨0, 0⟩⟩ = Rep.formed e := by
    unfold Rep.okR
    rw [follows_one he.1]
    rfl
  refine hR _ _ ⟨?_, x03.trans x4⟩
  cases hf : Rep.formed e with
  | true =>
    rw [checkV_err (by rw [ho]; exact hf) (by rw [Sig.verV, if_pos ⟨Sig.member_4, show Sig.inQ 0 0 = true by decide, show Sig.inQ 0 0 = true by decide⟩])]; rfl
  | false => rw [Rep.check_bad (by rw [ho]; exact hf)]; rfl
def LowT (N : Nat) (w : World) (k : Nat) : Prop := k < N ∨ ∃ cs f, At w k (.cells cs 28 f)
theorem LowT.ext {N : Nat} {a b W : World} (x : Ext a b) (m : Mod (LowT N b) b W) : Mod (LowT N a) a W :=
  (Mod.of_ext x : Mod (LowT N a) a b).comp m (fun _ _ h => h) fun k hk h => h.imp id fun ⟨cs, f, h⟩ => ⟨cs, f, (x.block k hk).symm.trans h⟩
def VehQ (s : SVeh) (v : Veh.V) (p : Veh.V × Int) (w : World) (r : Value) (w' : World) : Prop := ∃ g : SVeh, r = .tuple #[.agg g.cells.toArray, .int .i64 p.2] ∧ Ext w w' ∧ ∀ W, Mod (LowT w.heap.size w') w' W → VehIs W s v → VehIs W g p.1
theorem Own.low {N base : Nat} {w W : World} {e : TypeId} {sz n : Nat} {u : Value} {xs : List Value} (h : w.ownsRow base e sz u n xs) (hN : N ≤ base) (hne : e ≠ 28) (m : Mod (LowT N w) w W) : W.ownsRow base e sz u n xs :=
  Own.mod h m fun j hj hh => hh.elim (fun hh => by have := (Own.block h hj).1; omega) fun ⟨_, _, hat⟩ => Own.off_at h hat hne j hj rfl
theorem veh_none {b : Nat} {w0 w : World} {e : Int} {R : Ending → World → Prop} {s : SVeh} {v : Veh.V} {p : Veh.V × Int} {r : SVeh} {X0 : List PanicEntry → World → Prop} (hR : ∀ x w', VehQ s v p w0 x w' → R (.returned x) w') (hx : Ext w0 w) (hb : w0.heap.size ≤ b) (hat : At w b (.cells r.cells.toArray 28 (0, 0)))
    (he : p = (Veh.zero, e)) : DoV Tryz.prog (Instr.build 28 #[]) w (fun t w1 => DoU Tryz.prog (Instr.storeAt 28 (.pointer (some ⟨b, 0, none⟩)) t) w1 (fun _ w2 => Res Tryz.prog [.cell (.pointer (some ⟨b, 0, none⟩)) 28, .tmp (.int .i64 e)] w2 R) (Pan R)) X0 := by
  rw [build_i new_noveh]
  refine SVeh.set (r := r) (s := SVeh.zero) hat fun w5 m5 h5 _ => ?_
  have hvv : (loadVar 28 ⟨b, 0, none⟩).run Tryz.prog w5 = .ok (.agg SVeh.zero.cells.toArray) w5 := loadVar_agg Ty.SVeh_agg Ty.SVeh_size (xs := SVeh.zero.cells) rfl (has_of_at h5)
  refine res_i (rv_cell hvv (rv_tmp (rv_nil w5))) ?_
  exact hR _ _ ⟨SVeh.zero, by rw [he]; rfl, ext_step hx m5 hb, fun W _ _ => by rw [he]; exact VehIs.zero W⟩
end Go.Proofs.YtoeblipchoglaaaGreatDoor
