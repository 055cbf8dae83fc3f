/- The laws of boxes: the example, what stands at the head of each law. -/
import Derived.Test.YtohmledhhgdgaaaGreatDoorGMshH
import Derived.Test.YtohmledhhgdgaaaGreatDoorGMshG
import Derived.Test.YtohmledhhgdgaaaGreatDoorGMshN
import Derived.Test.YtohmledhhgdgaaaGreatDoorGMshQ
set_option linter.unusedVariables false
set_option linter.unusedSimpArgs false
namespace Go.Proofs.YtohmledhhgdgaaaGreatDoor
set_option maxRecDepth 100000
set_option maxHeartbeats 16000000
open Sh Go.RowKit
theorem SBox.var {w : World} {K : Value → World → Prop} {X1 X2 : List PanicEntry → World → Prop} {g : SBox} (hk : ∀ b w2, Ext w w2 → At w2 b (.cells g.cells.toArray 24 (0, 0)) → w.heap.size ≤ b → K (.pointer (some ⟨b, 0, none⟩)) w2) :
    DoV Tryz.prog (Instr.alloc 24 true (.tuple #[])) w (fun t w1 => DoU Tryz.prog (Instr.storeAt 24 t (.agg g.cells.toArray)) w1 (fun _ w2 => K t w2) X1) X2 := by
  refine alloc_i Ty.SBox_zero fun b w1 x1 hat hb _ => ?_
  refine SBox.set (r := SBox.zero) hat fun w2 m2 h2 _ => ?_
  exact hk _ _ ((Mod.of_ext x1 : Mod (w.heap.size ≤ ·) w w1).trans (m2.mono fun k _ h => by omega)).new h2 (by omega)
theorem new_exEi (a b lo hi : Int) : Tryz.prog.built 89 [(0, .int .i64 a), (1, .int .i64 b), (2, .int .i64 3), (3, .int .i64 1), (4, .int .i64 7), (7, .agg #[.int .i64 lo, .int .i64 hi])] = some (SEntry.mk a b 3 1 7 0 0 ⟨lo, hi⟩ 0 0 0).cells.toArray := by kernel_rfl
theorem new_log26 (v : Int) (d : Hdr) : Tryz.prog.built 52 [(0, .int .i64 v), (1, d.val)] = some (SLog.mk v d ⟨none, 0, 0⟩).cells.toArray := by kernel_rfl
theorem new_pt0 : Tryz.prog.built 104 [] = some (SPoint.mk 0 0).cells.toArray := by kernel_rfl
theorem new_veh26 (v : Int) : Tryz.prog.built 24 [(0, .int .i64 v)] = some (⟨v, ⟨none, 0, 0⟩⟩ : SBox).cells.toArray := by kernel_rfl
theorem example26_ret {n : Nat} (hn : n ≤ 1000) (w : World) : Ret Tryz.prog 28 #[.int .i64 n] w fun r w' => (∃ g : SLog, r = .agg g.cells.toArray ∧ LogIs w' g (Msh.exM n)) ∧ Ext w w' := by
  refine ret_of (fun _ _ => sh_landfalllaw26_example_ok _) fun R hR => ?_
  unfold sh_landfalllaw26_example
  obtain ⟨ip, hip, hpz, hps, _⟩ := Ty.info_parts Ty.points_info
  refine alloc_i Ty.SLog_zero fun b w1 x1 hat hb _ => ?_
  rw [build_i new_pt0]
  refine SPoint.row_lit [⟨0, 0⟩] rfl (by decide) (by decide) rfl fun v4 w4 x4 h4 _ => ?_
  refine litn_i [v4] Ty.polys hip hps hpz (by intro v hv; rw [List.mem_singleton] at hv; subst hv; exact Sl.cells (Sl.of_owns h4)) rfl (by decide) (by decide) rfl fun v5 w5 x5 h5 _ => ?_
  obtain ⟨d, rfl⟩ := Hdr.of_sl (Sl.of_owns h5)
  rw [build_i (new_log26 3 d)]
  refine SLog.var fun b3 w6 x6 hat3 hb3 => ?_
  have z1 := x1.size; have z4 := x4.size; have z5 := x5.size
  have x16 := (x4.trans x5).trans x6
  have x06 := x1.trans x16
  have lb := hat.lt
  have h46 : SPoint.Owns w.heap.size w6 v4 [⟨0, 0⟩] := Own.mono (Own.ext h4 (x5.trans x6)) (by omega)
  have h56 : w6.ownsRow w.heap.size 105 1 d.val 1 [v4] := Own.mono (Own.ext h5 x6) (by omega)
  refine loop1 (fun x W => ∃ (k : Nat) (e : Hdr), k ≤ n ∧ x = .int .i64 k ∧ Ext w W ∧ At W b (.cells SLog.zero.cells.toArray 52 (0, 0)) ∧ At W b3 (.cells (SLog.mk 3 d e).cells.toArray 52 (0, 0)) ∧ SEntry.Owns w.heap.size W e.val ((List.range k).map Msh.exE) ∧ SPoint.Owns w.heap.size W v4 [⟨0, 0⟩] ∧ W.ownsRow w.heap.size 105 1 d.val 1 [v4]) (fun x _ => n - (intOf x).toNat)
    ⟨0, ⟨none, 0, 0⟩, by omega, rfl, x06, hat.ext x16, hat3, SEntry.owns_nil _ _, h46, h56⟩ ?_
  rintro hh _ W hx ⟨k, e, hk, rfl, xW, gb, g3, ge, g4, g5⟩ K hK
  have lb3 := g3.lt
  have lb0 := gb.lt
  rw [hx, bin_lss]
  refine Br_i (fun hbr => ?_) fun hbr => ?_
  · have hlt : k < n := by have := dec_t hbr; omega
    rw [SLog.g_ents (has_of_at g3), bin_add, i64_wrap (by omega) (by omega), bin_mul, i64_wrap (by omega) (by omega), build_i (new_span _ _), build_i (new_exEi _ _ _ _)]
    have e1 : (SEntry.mk ((k : Int) + 1) (10 * k) 3 1 7 0 0 ⟨k, 50⟩ 0 0 0) = Msh.exE k := rfl
    rw [e1]
    refine SEntry.row_lit [Msh.exE k] rfl (by decide) (by decide) rfl fun v7 w7 x7 h7 _ => ?_
    have ge7 := Own.ext ge x7
    refine SEntry.row_apps ge7 (Sl.of_owns h7) (by simp; omega) (by have := xW.size; have := x7.size; omega) fun v8 w8 h8 m8 => ?_
    obtain ⟨e8, rfl⟩ := Hdr.of_sl (Sl.of_owns h8)
    have g38 := (g3.ext x7).mod m8 (fun h => Own.off_at ge7 (g3.ext x7) (by decide) b3 h rfl)
    have gb8 := (gb.ext x7).mod m8 (fun h => Own.off_at ge7 (gb.ext x7) (by decide) b h rfl)
    refine SLog.s_ents (x := e8) g38 fun w9 m9 hat9 _ => ?_
    rw [bin_add, i64_wrap (by omega) (by omega)]
    have hne : b ≠ b3 := by omega
    have x09 : Ext w w9 := ((Mod.of_ext (xW.trans x7) : Mod (w.heap.size ≤ ·) w w7).trans ((m8.mono fun q _ hq => (Own.block ge7 hq).1).trans (m9.mono fun q _ hq => by omega))).new
    refine hK _ _ ⟨k + 1, e8, by omega, by simp, x09, gb8.mod m9 hne, hat9, ?_, ?_, ?_⟩ (by simp [intOf]; omega)
    · rw [List.range_succ, List.map_append]
      exact Own.mod h8 m9 (Own.off_at h8 g38 (by decide))
    · have q4 := Own.ext g4 x7
      have q48 : SPoint.Owns w.heap.size w8 v4 [⟨0, 0⟩] := Own.mod q4 m8 (Own.off_own ge7 q4 (by decide))
      exact Own.mod q48 m9 (Own.off_at q48 g38 (by decide))
    · have q5 := Own.ext g5 x7
      have q58 := Own.mod q5 m8 (Own.off_own ge7 q5 (by decide))
      exact Own.mod q58 m9 (Own.off_at q58 g38 (by decide))
  · have hke : k = n := by have := dec_f hbr; omega
    subst hke
    rw [SLog.g_all (has_of_at g3)]
    refine SLog.set (r := SLog.zero) (s := ⟨3, d, e⟩) gb fun w7 m7 h7 _ => ?_
    have hvv : (loadVar 52 ⟨b, 0, none⟩).run Tryz.prog w7 = .ok (.agg (SLog.mk 3 d e).cells.toArray) w7 := loadVar_agg Ty.SLog_agg Ty.SLog_size (xs := (SLog.mk 3 d e).cells) rfl (has_of_at h7)
    refine res_i (rv_cell hvv (rv_nil w7)) ?_
    refine hR _ _ ⟨⟨⟨3, d, e⟩, rfl, rfl, ⟨[v4], Sl.of_owns (Own.mod g5 m7 (Own.off_at g5 gb (by decide))), fun j u l hu hl => ?_⟩, Sl.of_owns (Own.mod ge m7 (Own.off_at ge gb (by decide)))⟩, ext_step xW m7 (by omega)⟩
    match j with
    | 0 =>
      have hl : ([[⟨0, 0⟩]] : List (List SPoint))[0]? = some l := hl
      simp only [List.getElem?_cons_zero, Option.some.injEq] at hu hl
      subst hu hl
      exact Sl.of_owns (Own.mod g4 m7 (Own.off_at g4 gb (by decide)))
    | j + 1 => simp at hu
end Go.Proofs.YtohmledhhgdgaaaGreatDoor
