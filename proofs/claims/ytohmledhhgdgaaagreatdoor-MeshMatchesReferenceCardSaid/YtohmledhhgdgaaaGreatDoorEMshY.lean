/- Boxes of reports: the reference's Put. -/
import Derived.Test.YtohmledhhgdgaaaGreatDoorEMshX
set_option linter.unusedVariables false
set_option linter.unusedSimpArgs false
namespace Go.Proofs.YtohmledhhgdgaaaGreatDoor
set_option maxRecDepth 100000
set_option maxHeartbeats 8000000
open Sh Go.RowKit
def RowL (B : Nat → Prop) (w : World) (v : Value) (ss : List SReport) : Prop := ∀ W, Mod B w W → SReport.Row W v ss
def LiveS (B : Nat → Prop) (w : World) (s : SReport) (r : Rep.Rpt) : Prop := ∀ W, Mod B w W → RepIs W s r
def RepsL (B : Nat → Prop) (w : World) (ss : List SReport) (l : List Rep.Rpt) : Prop := ss.length = l.length ∧ ∀ (i : Nat) (s : SReport) (r : Rep.Rpt), ss[i]? = some s → l[i]? = some r → LiveS B w s r
def LiveR (B : Nat → Prop) (w : World) (v : Value) (l : List Rep.Rpt) : Prop := ∃ ss, RowL B w v ss ∧ RepsL B w ss l
section live
variable {B : Nat → Prop} {w w0 W : World} {v : Value} {s : SReport} {r : Rep.Rpt} {ss : List SReport} {l : List Rep.Rpt}
theorem RowL.mod (h : RowL B w v ss) (m : Mod B w W) : RowL B W v ss := fun W' m' => h W' (m.trans m')
theorem LiveS.mod (h : LiveS B w s r) (m : Mod B w W) : LiveS B W s r := fun W' m' => h W' (m.trans m')
theorem RepsL.mod (h : RepsL B w ss l) (m : Mod B w W) : RepsL B W ss l := ⟨h.1, fun i s r e1 e2 => (h.2 i s r e1 e2).mod m⟩
theorem LiveR.mod (h : LiveR B w v l) (m : Mod B w W) : LiveR B W v l := by obtain ⟨ss, h1, h2⟩ := h; exact ⟨ss, h1.mod m, h2.mod m⟩
theorem LiveS.ext (h : LiveS B w s r) (x : Ext w W) : LiveS B W s r := h.mod (.of_ext x)
theorem LiveR.ext (h : LiveR B w v l) (x : Ext w W) : LiveR B W v l := h.mod (.of_ext x)
theorem LiveS.is (h : LiveS B w s r) : RepIs w s r := h w (Mod.refl _ _)
theorem LiveR.is (h : LiveR B w v l) : RepsIs w v l := by
  obtain ⟨ss, h1, h2⟩ := h
  exact ⟨ss, h1 w (Mod.refl _ _), h2.1, fun i s r e1 e2 => (h2.2 i s r e1 e2).is⟩
theorem LiveS.of_ext (h : RepIs w0 s r) (x : Ext w0 w) (hB : ∀ k, B k → w0.heap.size ≤ k) : LiveS B w s r := fun W m =>
  h.ext ((Mod.of_ext x : Mod (w0.heap.size ≤ ·) w0 w).comp m (fun _ _ h => h) (fun k _ h => hB k h) : Mod (w0.heap.size ≤ ·) w0 W).new
theorem LiveR.of_ext (h : RepsIs w0 v l) (x : Ext w0 w) (hB : ∀ k, B k → w0.heap.size ≤ k) : LiveR B w v l := by
  obtain ⟨ss, h1, h2, h3⟩ := h
  exact ⟨ss, fun W m => Sl.ext h1 ((Mod.of_ext x : Mod (w0.heap.size ≤ ·) w0 w).comp m (fun _ _ h => h) (fun k _ h => hB k h) : Mod (w0.heap.size ≤ ·) w0 W).new, h2, fun i s r e1 e2 => LiveS.of_ext (h3 i s r e1 e2) x hB⟩
theorem RowL.of_own {base : Nat} (h : SReport.Owns base w v ss) (hB : ∀ k, B k → k < base) : RowL B w v ss := fun W m =>
  Sl.of_owns (Own.mod h m fun k hk hb => by have := (Own.block h hk).1; have := hB k hb; omega)
theorem RepsL.nil : RepsL B w [] [] := ⟨rfl, fun i s r h _ => by simp at h⟩
theorem RepsL.snoc (h : RepsL B w ss l) (hr : LiveS B w s r) : RepsL B w (ss ++ [s]) (l ++ [r]) := by
  refine ⟨by simp [h.1], fun i s' r' e1 e2 => ?_⟩
  by_cases hi : i < ss.length
  · rw [List.getElem?_append_left hi] at e1
    rw [List.getElem?_append_left (by have := h.1; omega)] at e2
    exact h.2 i s' r' e1 e2
  · rw [List.getElem?_append_right (by omega)] at e1
    rw [List.getElem?_append_right (by have := h.1; omega), ← h.1] at e2
    cases hj : i - ss.length with
    | zero => rw [hj] at e1 e2; cases e1; cases e2; exact hr
    | succ j => rw [hj] at e1; simp at e1
end live
def PutI (l : List Rep.Rpt) (r : Rep.Rpt) (k : Nat) (out : List Rep.Rpt) (done : Bool) : Prop :=
  if done = true then Msh.put l r = out ++ l.drop k ∧ ∃ j, j < k ∧ ∃ h : j < l.length, Msh.less r l[j] = true else Msh.put l r = out ++ Msh.put (l.drop k) r ∧ out = l.take k
theorem PutI.same {l : List Rep.Rpt} {r : Rep.Rpt} {k : Nat} {out : List Rep.Rpt} {done : Bool} (hs : Msh.Sorted l) (h : PutI l r k out done) (hk : k < l.length) (he : l[k] = r) : Msh.put l r = l := by
  exact Msh.put_there hs (by rw [← he]; exact List.getElem_mem hk)
theorem PutI.not_done {l : List Rep.Rpt} {r : Rep.Rpt} {k : Nat} {out : List Rep.Rpt} (h : PutI l r k out false) (hk : k < l.length) (he : l[k] ≠ r) :
    (Msh.less r l[k] = true → PutI l r (k + 1) (out ++ [r] ++ [l[k]]) true) ∧ (Msh.less r l[k] = false → PutI l r (k + 1) (out ++ [l[k]]) false) := by
  unfold PutI at h ⊢
  rw [if_neg (by decide), List.drop_eq_getElem_cons hk, Msh.put, if_neg he] at h
  refine ⟨fun hl => ?_, fun hl => ?_⟩
  · rw [if_pos hl] at h
    rw [if_pos rfl]
    exact ⟨by rw [h.1]; simp, k, by omega, hk, hl⟩
  · rw [if_neg (by rw [hl]; decide)] at h
    rw [if_neg (by decide)]
    exact ⟨by rw [h.1]; simp, by rw [h.2, List.take_succ_eq_append_getElem hk]⟩
theorem PutI.is_done {l : List Rep.Rpt} {r : Rep.Rpt} {k : Nat} {out : List Rep.Rpt} (h : PutI l r k out true) (hk : k < l.length) : PutI l r (k + 1) (out ++ [l[k]]) true := by
  unfold PutI at h ⊢
  rw [if_pos rfl] at h ⊢
  obtain ⟨h1, j, h2, h3⟩ := h
  rw [List.drop_eq_getElem_cons hk] at h1
  exact ⟨by rw [h1]; simp, j, by omega, h3⟩
theorem PutI.len {l : List Rep.Rpt} {r : Rep.Rpt} {k : Nat} {out : List Rep.Rpt} {done : Bool} (h : PutI l r k out done) : out.length ≤ l.length + 1 := by
  have hp := (Msh.put_le (l := l) (r := r)).2
  unfold PutI at h
  split at h
  · rw [h.1, List.length_append] at hp; omega
  · rw [h.1, List.length_append] at hp; omega
theorem gd_no {A B : Prop} (h : B) : Gd (.bool (!true)) true A B := by rw [show (!true) = false from rfl, Gd_bool]; exact h
theorem refPut_ret {B : Nat → Prop} {v : Value} {t : SReport} {l : List Rep.Rpt} {r : Rep.Rpt} (hs : Msh.Sorted l) (hn : l.length < 1000000) (hl : ∀ x ∈ l, x.ents.length < 1000000) (hr : r.ents.length < 1000000) (w : World) (hv : LiveR B w v l) (ht : LiveS B w t r) (hB : ∀ k, B k → k < w.heap.size) :
    Ret Tryz.prog 33 #[v, .agg t.cells.toArray] w fun u w' => LiveR B w' u (Msh.put l r) ∧ Ext w w' := by
  refine ret_of (fun _ _ => sh_landfallref26_Put_ok _ _) fun R hR => ?_
  unfold sh_landfallref26_Put
  refine box_i fun g w1 x1 hat _ _ => ?_
  have hg : ∀ W, Ext w1 W → Has W g 0 t.cells := fun W x => has_of_at (hat.ext x)
  have hv0 := hv
  obtain ⟨ss0, hrow0, hof0⟩ := hv0
  have hv1 := hv.is.ext x1
  have ht1 := ht.is.ext x1
  have hz := x1.size
  have step : ∀ {W W1 W2 : World}, Ext w1 W → Ext W W1 → Mod (w1.heap.size ≤ ·) W1 W2 → Ext w1 W2 := fun x1 x2 m => ((Mod.of_ext (x1.trans x2) : Mod (w1.heap.size ≤ ·) w1 _).trans m).new
  refine loop3 (fun o d x W => ∃ (k : Nat) (done : Bool) (ss : List SReport) (out : List Rep.Rpt), k ≤ l.length ∧ x = .int .i64 k ∧ d = .bool done ∧ Ext w1 W ∧ SReport.Owns w1.heap.size W o ss ∧ RepsL B w ss out ∧ PutI l r k out done) (fun _ _ x _ => l.length - (intOf x).toNat)
    ⟨0, false, [], [], by omega, rfl, rfl, Ext.refl _, SReport.owns_nil _ _, RepsL.nil, by unfold PutI; rw [if_neg (by decide)]; exact ⟨rfl, rfl⟩⟩ ?_
  rintro hh _ _ _ W ho hd hx ⟨k, done, ss, out, hk, rfl, rfl, xW, hown, hof, hP⟩ K hK
  have hlen := hP.len
  have hsl := hof.1
  rw [(hv1.ext xW).len, hx, bin_lss]
  refine Br_i (fun hb => ?_) fun hb => ?_
  · have hlt : k < l.length := by have := dec_t hb; omega
    refine join2 (fun o d W' => ∃ (done : Bool) (ss : List SReport) (out : List Rep.Rpt), d = .bool done ∧ Ext w1 W' ∧ SReport.Owns w1.heap.size W' o ss ∧ RepsL B w ss out ∧ PutI l r (k + 1) out done) ?_ fun K2 hK2 => ?_
    · rintro h3 _ _ W' ho' hd' ⟨done', ss', out', rfl, x', hown', hof', hP'⟩
      rw [ho', hd', bin_add, i64_wrap (by omega) (by omega)]
      exact hK _ _ _ _ ⟨k + 1, done', ss', out', by omega, by simp, rfl, x', hown', hof', hP'⟩ (by simp [intOf]; omega)
    have hks : k < ss0.length := by have := hof0.1; omega
    obtain ⟨p1, q1, hh1, _, hix1⟩ := SReport.row_at (Sl.ext (hrow0 w (Mod.refl _ _)) x1) hks
    have hl1 : LiveS B w ss0[k] l[k] := hof0.2 k _ _ (List.getElem?_eq_getElem hks) (List.getElem?_eq_getElem hlt)
    have hr1 : RepIs w1 ss0[k] l[k] := hl1.is.ext x1
    refine draw_ext fun w4 x4 => ?_
    have x14 := xW.trans x4
    refine det_read _ (fun W' x K => hix1 W' K _) ?_
    refine det_read _ (fun W' x K => SReport.g_all (hh1 W' (x14.trans x))) ?_
    refine det_read _ (fun W' x K => SReport.g_all (hg W' (x14.trans x))) ?_
    intro w5 x5 _
    have x15 := x14.trans x5
    refine callF_ret (Same_ret w5 (hr1.ext x15) (ht1.ext x15)) ?_
    rintro _ w6 ⟨rfl, x6⟩
    have x16 := x15.trans x6
    refine Br_i (fun hb2 => ?_) fun hb2 => ?_
    · refine hR _ _ ⟨?_, x1.trans x16⟩
      rw [hP.same hs hlt (of_decide_eq_true hb2)]
      exact hv.ext (x1.trans x16)
    have hne : l[k] ≠ r := of_decide_eq_false hb2
    refine draw_ext fun w7 x7 => ?_
    have x17 := x16.trans x7
    refine det_read _ (fun W' x K => SReport.g_all (hg W' (x17.trans x))) ?_
    refine det_read _ (fun W' x K => hix1 W' K _) ?_
    refine det_read _ (fun W' x K => SReport.g_all (hh1 W' (x17.trans x))) ?_
    intro w8 x8 _
    have x18 := x17.trans x8
    refine callF_ret (Less_ret26 hr (hl _ (List.getElem_mem hlt)) w8 (ht1.ext x18) (hr1.ext x18)) ?_
    rintro _ w9 ⟨rfl, x9⟩
    have x19 := x18.trans x9
    have xW9 : Ext W w9 := (x4.trans x5).trans ((x6.trans x7).trans (x8.trans x9))
    refine join2 (fun o d W' => ∃ (done : Bool) (ss : List SReport) (out : List Rep.Rpt), d = .bool done ∧ Ext w1 W' ∧ SReport.Owns w1.heap.size W' o ss ∧ RepsL B w ss out ∧ out.length ≤ l.length + 1 ∧ PutI l r (k + 1) (out ++ [l[k]]) done) ?_ fun K3 hK3 => ?_
    · rintro h3 _ _ W' ho' hd' ⟨done', ss', out', rfl, x', hown', hof', hle', hP'⟩
      rw [ho', hix1, SReport.g_all (hh1 W' x')]
      have := hof'.1
      refine SReport.row_app hown' (by omega) x'.size fun v2 w10 hown2 m2 => ?_
      rw [hd']
      exact hK2 _ _ _ ⟨done', _, _, rfl, step x' (Ext.refl _) m2, hown2, hof'.snoc hl1, hP'⟩
    refine join1 (fun c W' => c = .bool (!done && Msh.less r l[k]) ∧ W' = w9) ?_ fun K4 hK4 => ?_
    · rintro h4 _ _ hc ⟨rfl, rfl⟩
      rw [hc]
      refine Br_i (fun hb4 => ?_) fun hb4 => ?_
      · simp only [Bool.and_eq_true, Bool.not_eq_true'] at hb4
        obtain ⟨hd4, hl4⟩ := hb4
        subst hd4
        rw [SReport.g_all (hg _ x19), ho]
        refine SReport.row_app (Own.ext hown xW9) (by omega) x19.size fun v2 w10 hown2 m2 => ?_
        have hP2 := (hP.not_done hlt hne).1 hl4
        exact hK3 _ _ _ ⟨true, _, _, rfl, step x19 (Ext.refl _) m2, hown2, hof.snoc ht, by have := hP2.len; simp only [List.length_append, List.length_cons, List.length_nil] at this ⊢; omega, hP2⟩
      · rw [ho, hd]
        refine hK3 _ _ _ ⟨done, ss, out, rfl, x19, Own.ext hown xW9, hof, hlen, ?_⟩
        cases done with
        | true => exact hP.is_done hlt
        | false => exact (hP.not_done hlt hne).2 (by simpa using hb4)
    · rw [hd, un_not]
      cases done with
      | true => exact gd_no (hK4 _ _ ⟨rfl, rfl⟩)
      | false => exact gd_t (hK4 _ _ ⟨by simp, rfl⟩)
  · have hge : k = l.length := by have := dec_f hb; omega
    subst hge
    refine join1 (fun u W' => ∃ ss : List SReport, Ext w1 W' ∧ SReport.Owns w1.heap.size W' u ss ∧ RepsL B w ss (Msh.put l r)) ?_ fun K2 hK2 => ?_
    · rintro h2 _ W' hu ⟨ss', x', hown', hof'⟩
      rw [hu]
      exact hR _ _ ⟨⟨ss', RowL.of_own hown' (fun k hk => by have := hB k hk; omega), hof'.mod (.of_ext (x1.trans x'))⟩, x1.trans x'⟩
    · rw [hd, un_not]
      unfold PutI at hP
      rw [List.drop_length] at hP
      cases done with
      | true =>
        rw [if_pos rfl, List.append_nil] at hP
        refine br_f ?_
        rw [ho]
        exact hK2 _ _ ⟨ss, xW, hown, by rw [hP.1]; exact hof⟩
      | false =>
        rw [if_neg (by decide)] at hP
        refine br_t ?_
        rw [SReport.g_all (hg _ xW), ho]
        refine SReport.row_app hown (by omega) xW.size fun v2 w10 hown2 m2 => ?_
        exact hK2 _ _ ⟨_, step xW (Ext.refl _) m2, hown2, by rw [hP.1]; exact hof.snoc ht⟩
end Go.Proofs.YtohmledhhgdgaaaGreatDoor
