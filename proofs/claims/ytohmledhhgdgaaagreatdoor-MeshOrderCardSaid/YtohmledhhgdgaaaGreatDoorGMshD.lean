/- The order of reports, with the count of draws: a world behind it is one that draws and lays blocks. -/
import Derived.Test.YtohmledhhgdgaaaGreatDoorGMshA
import Derived.Sort.Grow
set_option linter.unusedVariables false
set_option linter.unusedSimpArgs false
namespace Go.Proofs.YtohmledhhgdgaaaGreatDoor
set_option maxRecDepth 100000
set_option maxHeartbeats 8000000
open Sh Go.RowKit
theorem ask_drawn {α : Type} : ∀ (s : Ask α) (w : World), w.drawn ≤ (w.ask s).2.drawn
  | .done a, w => Nat.le_refl _
  | .ask what range k, w => by
    rw [World.ask]
    show w.drawn ≤ (if (Question.extern what range).forced = true then w.ask (k 0) else World.ask { w with drawn := w.drawn + 1 } (k ((Question.extern what range).cut (w.tape w.drawn (Question.extern what range))))).2.drawn
    split
    · exact ask_drawn (k 0) w
    · exact Nat.le_trans (Nat.le_succ _) (ask_drawn _ { w with drawn := w.drawn + 1 })
theorem sys_drawn (w : World) (c : Sys) : w.drawn ≤ (w.sys c).2.drawn := by
  have h := ask_drawn (Kernel.perform c w.os) w
  unfold World.sys
  split
  · exact Nat.le_refl _
  · rename_i e
    rw [e] at h; exact h
theorem view_drawn {p : Program} {w w' : World} {x : Addr} {u : TypeId} {k : Addr} {v : Value} {b : Bool} {l : List Addr} (h : w.viewStore p x u k v b = .ok (w', l)) : w'.drawn = w.drawn := by
  unfold World.viewStore at h
  simp only [bind, Except.bind, pure, Except.pure] at h
  repeat' (split at h)
  all_goals first | cases h; done | (simp only [Except.ok.injEq, Prod.mk.injEq] at h; rw [← h.1]) | skip
theorem far_drawn {p : Program} {w w' : World} {a : Addr} {v : Value} {b : Bool} {l : List Addr} (h : w.farStore p a v b = .ok (w', l)) : w'.drawn = w.drawn := by
  unfold World.farStore at h
  split at h
  · split at h
    · rename_i r e
      cases h
      exact view_drawn e
    · cases h
  · cases h
theorem run_drawn {P : Program} {α : Type} (s : Sem α) : ∀ (w : World) (v : α) (w' : World), s.run P w = .ok v w' → w.drawn ≤ w'.drawn := by
  induction s with
  | pure a => intro w v w' h; simp only [Sem.run, Result.ok.injEq] at h; rw [h.2]; exact Nat.le_refl _
  | load m a k ih =>
    intro w v w' h
    rw [Sem.run] at h
    split at h
    · exact ih _ _ _ _ h
    · split at h
      · exact ih _ _ _ _ h
      · cases h
  | store m a x k ih =>
    intro w v w' h
    have key : ∀ h' : (match w.cell? a with
        | some _ => if w.frozen? a then Result.halt (.unsupported (.unsafePointer "a write to bytes that a string shares")) w else k.run P (w.setCell a x)
        | none => match w.farStore P a x (m == .atomic) with
          | .ok (w, _) => k.run P w
          | .error h => .halt h w) = Result.ok v w', w.drawn ≤ w'.drawn := by
      intro h
      split at h
      · split at h
        · cases h
        · exact ih (w.setCell a x) _ _ h
      · split at h
        · rename_i e
          have := ih _ _ _ h
          rw [far_drawn e] at this
          exact this
        · cases h
    cases x <;> first | exact key h | (simp only [Sem.run] at h; cases h)
  | new o k ih => intro w v w' h; exact ih w.heap.size { w with heap := w.heap.push o } _ _ h
  | shape r k ih => intro w v w' h; exact ih _ _ _ _ h
  | freeze a n k ih =>
    intro w v w' h
    have := ih _ _ _ h
    have e : (w.freeze a n).drawn = w.drawn := by unfold World.freeze; split <;> rfl
    omega
  | frozen a k ih => intro w v w' h; exact ih _ _ _ _ h
  | getObj r k ih =>
    intro w v w' h
    rw [Sem.run] at h
    split at h
    · cases h
    · exact ih _ _ _ _ h
    · cases h
  | setObj r o k ih =>
    intro w v w' h
    rw [Sem.run] at h
    split at h
    · cases h
    · exact ih { w with heap := w.heap.setIfInBounds r o } _ _ h
    · cases h
  | choose q k ih =>
    intro w v w' h
    rw [Sem.run] at h
    split at h
    · exact ih _ _ _ _ h
    · have := ih _ _ _ _ h
      exact Nat.le_trans (Nat.le_succ _) this
  | sys c k ih => intro w v w' h; exact Nat.le_trans (sys_drawn w c) (ih _ _ _ _ h)
  | program k ih => intro w v w' h; exact ih _ _ _ _ h
  | mark m k ih => intro w v w' h; exact ih _ _ _ h
  | halt x => intro w v w' h; cases h
section
variable {P : Program} {w : World} {K : Value → World → Prop} {X : List PanicEntry → World → Prop}
theorem vS_drawn {s : Sem Value} {n : Next} {w' : World} (e : (vS s).run P w = .ok n w') : ∃ v, n = .value v ∧ w.drawn ≤ w'.drawn := by
  have hd := run_drawn _ _ _ _ e
  unfold vS at e
  rw [Sem.run_bind] at e
  cases es : s.run P w with
  | ok v w1 =>
    rw [es] at e
    simp only [Result.andThen_ok, Sem.run_pure, Result.ok.injEq] at e
    exact ⟨v, e.1.symm, hd⟩
  | halt h w1 => rw [es] at e; simp [Result.andThen] at e
theorem DoV_drawn {s : Sem Value} (h : DoV P s w (fun v w' => w.drawn ≤ w'.drawn → K v w') X) : DoV P s w K X := by
  unfold DoV Do at *
  cases e : (vS s).run P w with
  | ok n w' =>
    rw [e] at h
    obtain ⟨v, rfl, hd⟩ := vS_drawn e
    exact h hd
  | halt x w' =>
    rw [e] at h
    cases x <;> exact h
theorem DoU_drawn {s : Sem Unit} (h : DoU P s w (fun v w' => w.drawn ≤ w'.drawn → K v w') X) : DoU P s w K X := by
  have key : ∀ {n : Next} {w' : World}, (uS s).run P w = .ok n w' → n = .skip ∧ w.drawn ≤ w'.drawn := fun {n w'} e => by
    have hd := run_drawn _ _ _ _ e
    unfold uS at e
    rw [Sem.run_bind] at e
    cases es : s.run P w with
    | ok v w1 =>
      rw [es] at e
      simp only [Result.andThen_ok, Sem.run_pure, Result.ok.injEq] at e
      exact ⟨e.1.symm, hd⟩
    | halt h w1 => rw [es] at e; simp [Result.andThen] at e
  unfold DoU Do at *
  cases e : (uS s).run P w with
  | ok n w' =>
    rw [e] at h
    obtain ⟨rfl, hd⟩ := key e
    exact h hd
  | halt x w' =>
    rw [e] at h
    cases x <;> exact h
theorem app_drawn {ts : Array TypeId} {t : TypeId} {cs : Array Bool} {args : Array Value} (h : CallB P .append ts t cs args w (fun v w' => w.drawn ≤ w'.drawn → K v w') X) : CallB P .append ts t cs args w K X :=
  DoV_drawn (s := Builtin.append_ ts t args) h
def ExtD (a b : World) : Prop := Ext a b ∧ a.drawn ≤ b.drawn
theorem ExtD.refl (a : World) : ExtD a a := ⟨Ext.refl a, Nat.le_refl _⟩
theorem ExtD.trans {a b c : World} (h : ExtD a b) (h' : ExtD b c) : ExtD a c := ⟨h.1.trans h'.1, Nat.le_trans h.2 h'.2⟩
theorem ExtD.grow {a b : World} (h : ExtD a b) : ∃ q os, b = Go.Sort.grow (a.drewN q) os := by
  obtain ⟨⟨h1, h2, h3, h4, h5⟩, hd⟩ := h
  refine ⟨b.drawn - a.drawn, b.heap.extract a.heap.size b.heap.size, ?_⟩
  obtain ⟨bh, bt, bd, bo, bu⟩ := b
  obtain ⟨ah, at_, ad, ao, au⟩ := a
  simp only at h1 h2 h3 h4 h5 hd
  subst h1 h2 h3
  simp only [Go.Sort.grow, World.drewN]
  congr 1
  · apply Array.ext_getElem?
    intro i
    rw [Array.getElem?_append]
    split
    · rename_i hi; exact h5 i hi
    · rw [Array.getElem?_extract]
      split
      · congr 1; omega
      · rw [Array.getElem?_eq_none (by omega)]
  · omega
theorem drawRE {body : (World → World → Prop) → (Nat → World → World → Prop) → World → Prop} (h : ∀ w0, ExtD w w0 → body ExtD (fun _ => ExtD) w0) : DrawR w body :=
  ⟨_, _, ⟨ExtD.refl, fun _ _ _ => ExtD.trans, fun _ => ExtD.refl, fun _ _ _ _ => ExtD.trans⟩, h w.drew ⟨Ext.drew w, Nat.le_succ _⟩⟩
theorem det_re {w0 : World} {op : World → (Value → World → Prop) → Prop} {rest : Value → (World → Prop) → Prop} (c : Value) (h : ∀ w1, Ext w0 w1 → ∀ K : Value → World → Prop, op w1 K = K c w1) (hk : rest c fun _ => True) : DetOp ExtD (Both ExtD fun _ => ExtD) w0 op rest :=
  det_pure c (fun a => ⟨ExtD.refl a, fun _ => ExtD.refl a⟩) (fun w1 h1 K hk => by rw [h w1 h1.1 K]; exact hk) hk
theorem nd_e {t : Nat} {w0 : World} {Θ : World → Prop} {op : World → (Value → World → Prop) → Prop} {rest : Value → (World → Prop) → Prop} (φ : Value → World → Prop) (hs : ∀ v a b, φ v a → Ext a b → φ v b) (hop : ∀ w1, ExtD w0 w1 → Θ w1 → op w1 fun v w2 => ExtD w1 w2 ∧ φ v w2) (hk : ∀ v, rest v (φ v)) : NdC ExtD (fun _ => ExtD) t w0 Θ op rest :=
  ⟨φ, fun v a b h x => hs v a b h x.1, fun w1 h1 hΘ => by
    have := hop w1 h1 hΘ
    have e : (fun (v : Value) (w2 : World) => ExtD w1 w2 ∧ φ v w2) = fun v w2 => (ExtD w1 w2 ∧ ∀ u, u ≠ t → ExtD w1 w2) ∧ φ v w2 := by
      funext v w2
      exact propext ⟨fun h => ⟨⟨h.1, fun _ _ => h.1⟩, h.2⟩, fun h => ⟨h.1.1, h.2⟩⟩
    rw [e] at this
    exact this, hk⟩
theorem thr_e {t : Nat} {w0 : World} {chain : (World → Prop) → (List Value → (World → Prop) → Prop) → Prop} {rest : (List Value → World → Prop) → Prop} (Φ : List Value → World → Prop) (hc : chain (fun _ => True) fun vs Θ => ∀ w1, ExtD w0 w1 → Θ w1 → Φ vs w1) (hk : rest Φ) : ThrE ExtD (fun _ => ExtD) t w0 chain rest :=
  ⟨fun _ => True, Φ, trivial, fun _ _ _ _ => trivial, hc, hk⟩
end
theorem SEntry.varD {w : World} {K : Value → World → Prop} {X0 X1 : List PanicEntry → World → Prop} {g : SEntry} (hk : ∀ b w2, ExtD w w2 → At w2 b (.cells g.cells.toArray 89 (0, 0)) → K (.pointer (some ⟨b, 0, none⟩)) w2) :
    DoV Tryz.prog (Instr.alloc 89 true (.tuple #[])) w (fun a1 w1 => DoU Tryz.prog (Instr.storeAt 89 a1 (.agg g.cells.toArray)) w1 (fun _ w2 => K a1 w2) X0) X1 := by
  refine DoV_drawn ?_
  refine alloc_i Ty.SEntry_zero fun b w1 x1 hat hb _ => ?_
  intro d1
  refine DoU_drawn ?_
  refine SEntry.set (r := SEntry.zero) hat fun w2 m2 h2 _ => ?_
  intro d2
  exact hk _ _ ⟨((Mod.of_ext x1 : Mod (w.heap.size ≤ ·) w w1).trans (m2.mono fun k _ h => by omega)).new, Nat.le_trans d1 d2⟩ h2
theorem mentryD (e : SEntry) (w : World) : Ret Tryz.prog 49 #[.agg e.cells.toArray] w fun r w' => w'.ownsRow w.heap.size 3 1 r 12 (iv (Rep.eints e)) ∧ ExtD w w' := by
  refine ret_of (fun _ _ => sh_mesh_entry_ok _) fun R hR => ?_
  unfold sh_mesh_entry
  refine DoV_drawn ?_
  refine box_i fun g w1 x1 hat _ _ => ?_
  intro d1
  have h : Has w1 g 0 e.cells := has_of_at hat
  rw [SEntry.g_seq h, SEntry.g_time h, SEntry.g_kind h, SEntry.g_sensor h, SEntry.g_ref h, SEntry.g_a h, SEntry.g_n h, SEntry.g_value_lo h, SEntry.g_value_hi h, SEntry.g_temp h, SEntry.g_age h, SEntry.g_since h]
  refine DoV_drawn ?_
  refine lit_ints (Rep.eints e) rfl (by decide) (by decide) rfl fun v w2 x2 h2 _ => ?_
  intro d2
  refine callF_ret (ret_of (fun _ _ => sh_mesh_list_ok _) (Q := fun r w' => r = v ∧ w' = w2) fun R' hR' => hR' _ _ ⟨rfl, rfl⟩) ?_
  rintro _ _ ⟨rfl, rfl⟩
  exact hR _ _ ⟨Own.mono h2 x1.size, x1.trans x2, Nat.le_trans d1 d2⟩
theorem mintsD {s : SReport} {r : Rep.Rpt} (hl : r.ents.length < 1000000) (w : World) (h : RepIs w s r) : Ret Tryz.prog 74 #[.agg s.cells.toArray] w fun v w' => Sl w' 1 v (Msh.rints r).length (iv (Msh.rints r)) ∧ ExtD w w' := by
  refine ret_of (fun _ _ => sh_mesh_ints_ok _) fun R hR => ?_
  unfold sh_mesh_ints
  refine DoV_drawn ?_
  refine box_i fun g w1 x1 hat _ _ => ?_
  intro d1
  have h1 : Has w1 g 0 s.cells := has_of_at hat
  have hrow := Sl.ext h.2.2.1 x1
  rw [SReport.g_veh h1, SReport.g_first h1, SReport.g_ents h1, SEntry.row_len hrow, SReport.g_before h1, u64v, bin_quo (by decide), conv_int Ty.u64 Ty.int, quo32, SReport.g_before h1, u64v, bin_rem (by decide), conv_int Ty.u64 Ty.int]
  rw [rem32]
  rw [SReport.g_chain h1, u64v, bin_quo (by decide), conv_int Ty.u64 Ty.int, quo32, SReport.g_chain h1, u64v, bin_rem (by decide), conv_int Ty.u64 Ty.int]
  rw [rem32]
  rw [SReport.g_sig_e h1, SReport.g_sig_s h1]
  rw [h.1, h.2.1, h.2.2.2.1, h.2.2.2.2.1, h.2.2.2.2.2]
  refine DoV_drawn ?_
  refine lit_ints (rhead r) rfl (by decide) (by decide) rfl fun v0 w2 x2 ho2 _ => ?_
  intro d2
  refine callF_ret (ret_of (fun _ _ => sh_mesh_list_ok _) (Q := fun r w' => r = v0 ∧ w' = w2) fun R' hR' => hR' _ _ ⟨rfl, rfl⟩) ?_
  rintro _ _ ⟨rfl, rfl⟩
  have h2 := has_of_at (hat.ext x2)
  have hrow2 := Sl.ext hrow x2
  rw [SReport.g_ents h2, SEntry.row_len hrow2]
  refine loop2 (fun y x W => ∃ k : Nat, k ≤ r.ents.length ∧ x = .int .i64 k ∧ ExtD w1 W ∧ W.ownsRow w1.heap.size 3 1 y (rhead r ++ eflat (r.ents.take k)).length (iv (rhead r ++ eflat (r.ents.take k)))) (fun _ x _ => r.ents.length - (intOf x).toNat)
    ⟨0, by omega, rfl, ⟨x2, d2⟩, by rw [List.take_zero]; show World.ownsRow _ _ _ _ _ (rhead r ++ []).length _; rw [List.append_nil]; exact ho2⟩ ?_
  rintro hh _ _ W hy hx ⟨k, hk, rfl, xW, hown⟩ K hK
  rw [hx, bin_lss]
  refine Br_i (fun hb => ?_) fun hb => ?_
  · have hlt : k < r.ents.length := by have := dec_t hb; omega
    obtain ⟨bb, oo, hhas, _, hix⟩ := SEntry.row_at hrow hlt
    rw [hix, SEntry.g_all (hhas W xW.1)]
    refine SEntry.varD fun b4 w4 x4 hat4 => ?_
    rw [SEntry.g_all (has_of_at hat4)]
    refine callF_ret (mentryD _ w4) ?_
    rintro u w5 ⟨ho5, x5⟩
    have x45 := x4.trans x5
    rw [hy]
    have hlen := eflat_len (r.ents.take k)
    rw [List.length_take] at hlen
    have hh9 : (rhead r).length = 9 := rfl
    refine app_drawn ?_
    refine app_ints (m := Rep.eints r.ents[k]) (Own.ext hown x45.1) (Sl.of_owns ho5) (by rw [List.length_append, hh9, hlen]; show _ + 12 < _; omega) (by have := xW.1.size; have := x45.1.size; omega) fun v6 w6 ho6 m6 => ?_
    intro d6
    rw [bin_add, i64_wrap (by omega) (by omega)]
    have x6 : Ext w1 w6 := ((Mod.of_ext (xW.1.trans x45.1) : Mod (w1.heap.size ≤ ·) w1 w5).trans (m6.mono fun j _ hj => (Own.block (Own.ext hown x45.1) hj).1)).new
    refine hK _ _ _ ⟨k + 1, by omega, by simp, ⟨x6, Nat.le_trans xW.2 (Nat.le_trans x45.2 d6)⟩, ?_⟩ (by simp [intOf]; omega)
    rw [eflat_take hlt, ← List.append_assoc]
    exact ho6
  · have hke : k = r.ents.length := by have := dec_f hb; omega
    subst hke
    rw [List.take_length, ← rints_eq] at hown
    rw [hy]
    exact hR _ _ ⟨Sl.of_owns hown, ExtD.trans ⟨x1, d1⟩ xW⟩
theorem icompareD {v u : Value} {a b : List Int} (w : World) (hv : Sl w 1 v a.length (iv a)) (hu : Sl w 1 u b.length (iv b)) : Ret Tryz.prog 73 #[v, u] w fun r w' => r = .int .i64 (Msh.cmp a b) ∧ w' = w := by
  refine ret_of (fun _ _ => sh_slices_Compare___int_int__ok _ _) fun R hR => ?_
  unfold sh_slices_Compare___int_int_
  rw [hv.len Ty.ints]
  have hla := hv.le
  have hlb := hu.le
  refine loop1 (fun x W => ∃ k : Nat, k ≤ a.length ∧ x = .int .i64 k ∧ W = w ∧ Msh.cmp a b = Msh.cmp (a.drop k) (b.drop k)) (fun x _ => a.length - (intOf x).toNat) ⟨0, by omega, rfl, rfl, rfl⟩ ?_
  rintro hh _ W hx ⟨k, hk, rfl, rfl, hc⟩ K hK
  rw [hx, bin_lss]
  refine Br_i (fun hb => ?_) fun hb => ?_
  · have hlt : k < a.length := by have := dec_t hb; omega
    obtain ⟨p1, hix1, hc1⟩ := ints_at hv hlt
    rw [hix1, hc1 _ (Ext.refl _), hu.len Ty.ints, bin_geq]
    rw [List.drop_eq_getElem_cons hlt] at hc
    refine Br_i (fun hb => ?_) fun hb => ?_
    · have : b.drop k = [] := List.drop_eq_nil_of_le (by have := dec_t hb; omega)
      rw [this] at hc
      exact hR _ _ ⟨by rw [hc]; rfl, rfl⟩
    · have hlt2 : k < b.length := by have := dec_f hb; omega
      obtain ⟨p2, hix2, hc2⟩ := ints_at hu hlt2
      rw [hix2, hc2 _ (Ext.refl _)]
      refine callF_same (Compare_ret _) ?_
      rw [List.drop_eq_getElem_cons hlt2] at hc
      simp only [Msh.cmp] at hc
      rw [bin_neq]
      by_cases h1 : a[k] < b[k]
      · rw [if_pos h1] at hc
        have e : cmpI a[k] b[k] = -1 := by unfold cmpI; rw [if_pos h1]
        rw [e]
        refine br_t ?_
        exact hR _ _ ⟨by rw [hc], rfl⟩
      · by_cases h2 : b[k] < a[k]
        · rw [if_neg h1, if_pos h2] at hc
          have e : cmpI a[k] b[k] = 1 := by unfold cmpI; rw [if_neg h1, if_pos h2]
          rw [e]
          refine br_t ?_
          exact hR _ _ ⟨by rw [hc], rfl⟩
        · rw [if_neg h1, if_neg h2] at hc
          have e : cmpI a[k] b[k] = 0 := by unfold cmpI; rw [if_neg h1, if_neg h2]
          rw [e]
          refine br_f ?_
          rw [bin_add, i64_wrap (by omega) (by omega)]
          exact hK _ _ ⟨k + 1, by omega, by simp, rfl, hc⟩ (by simp [intOf]; omega)
  · have hke : k = a.length := by have := dec_f hb; omega
    rw [hke, List.drop_length] at hc
    rw [hv.len Ty.ints, hu.len Ty.ints, bin_lss]
    refine Br_i (fun hb => ?_) fun hb => ?_
    · have hlt2 : a.length < b.length := by have := dec_t hb; omega
      rw [List.drop_eq_getElem_cons hlt2] at hc
      exact hR _ _ ⟨by rw [hc]; rfl, rfl⟩
    · have : b.drop a.length = [] := List.drop_eq_nil_of_le (by have := dec_f hb; omega)
      rw [this] at hc
      exact hR _ _ ⟨by rw [hc]; rfl, rfl⟩
theorem orderD {s t : SReport} {a b : Rep.Rpt} (ha : a.ents.length < 1000000) (hb : b.ents.length < 1000000) (w : World) (hs : RepIs w s a) (ht : RepIs w t b) : Ret Tryz.prog 38 #[.agg s.cells.toArray, .agg t.cells.toArray] w fun r w' => r = .int .i64 (rcmp a b) ∧ ExtD w w' := by
  refine ret_of (fun _ _ => sh_mesh_order_ok _ _) fun R hR => ?_
  unfold sh_mesh_order
  refine DoV_drawn ?_
  refine box_i fun g1 w1 x1 hat1 _ _ => ?_
  intro d1
  refine DoV_drawn ?_
  refine box_i fun g2 w2 x2 hat2 _ _ => ?_
  intro d2
  have x12 := x1.trans x2
  have hg1 := At.ext hat1 x2
  refine drawRE fun w3 x3 => ?_
  have x13 : ExtD w w3 := ExtD.trans ⟨x12, Nat.le_trans d1 d2⟩ x3
  refine det_re _ (fun W' x K => SReport.g_all (has_of_at ((hg1.ext x3.1).ext x))) ?_
  refine det_re _ (fun W' x K => SReport.g_all (has_of_at ((At.ext hat2 x3.1).ext x))) ?_
  refine thr_e (fun vs W => ∃ v, vs = [v] ∧ Sl W 1 v (Msh.rints a).length (iv (Msh.rints a))) ?_ ?_
  · refine nd_e (fun v W => Sl W 1 v (Msh.rints a).length (iv (Msh.rints a))) (fun v a b h x => Sl.ext h x) (fun w4 x4 _ => callF_ret (mintsD ha w4 (hs.ext (x13.trans x4).1)) fun v w5 hq => ⟨hq.2, hq.1⟩) fun v => ?_
    intro w4 x4 h
    exact ⟨v, rfl, h⟩
  rintro hh w4 x4 ⟨_, _, v, ev, hv⟩
  simp only [List.cons.injEq, and_true] at ev
  rw [ev]
  refine callF_ret (mintsD hb w4 (ht.ext (x13.trans x4).1)) ?_
  rintro u w5 ⟨hu, x5⟩
  refine callF_ret (icompareD w5 (Sl.ext hv x5.1) hu) ?_
  rintro _ w6 ⟨rfl, rfl⟩
  exact hR _ _ ⟨rfl, x13.trans (x4.trans x5)⟩
end Go.Proofs.YtohmledhhgdgaaaGreatDoor
