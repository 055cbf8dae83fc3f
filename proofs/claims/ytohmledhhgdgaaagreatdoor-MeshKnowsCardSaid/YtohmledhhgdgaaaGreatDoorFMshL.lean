/- Boxes of reports: the plain laws of what is added, merged and known. -/
import Derived.Test.YtohmledhhgdgaaaGreatDoorFMshA
set_option linter.unusedVariables false
set_option linter.unusedSimpArgs false
namespace Go.Proofs.YtohmledhhgdgaaaGreatDoor
set_option maxRecDepth 100000
set_option maxHeartbeats 4000000
open Sh Go.RowKit
abbrev MBox := Int × List Rep.Rpt
theorem check_okR {r : Rep.Rpt} {p : Int} (h : (Rep.checkV r p).1 = true) : Rep.okR r = true := by
  cases ho : Rep.okR r with
  | true => rfl
  | false => rw [Rep.check_bad ho] at h; cases h
theorem bval_put {b : MBox} {r : Rep.Rpt} (hb : BVal b) (hr : Rep.okR r = true) (hl : (Msh.put b.2 r).length ≤ 500) : BVal (b.1, Msh.put b.2 r) :=
  ⟨hb.1, hl, fun x hx => (Msh.mem_put.1 hx).elim (hb.2.2.1 x) fun e => by rw [e]; exact hr, hb.2.2.2.put⟩
noncomputable def knownV (b : MBox) (v : Int) : List SEntry × BitVec 64 × Int :=
  if bvalid b = false ∨ Rep.isID v = false then ([], 0, 1) else (Msh.known v b.2, Rep.carry (Rep.begin v) (Msh.known v b.2), 0)
theorem knownV_ok {b : MBox} {v : Int} (hb : BVal b) (hv : Rep.isID v = true) : knownV b v = (Msh.known v b.2, Rep.carry (Rep.begin v) (Msh.known v b.2), 0) := by
  unfold knownV; rw [if_neg (by rw [bvalid_iff.2 hb, hv]; simp)]
namespace Msh
open Rep
def fst (n c : Nat) : Nat := 1 + c % n
def lst (n c : Nat) : Nat := fst n c + c / 40 % (n + 1 - fst n c)
theorem fst_le {n c : Nat} (h : 0 < n) : 1 ≤ fst n c ∧ fst n c ≤ n := by have := Nat.mod_lt c h; unfold fst; omega
theorem lst_le {n c : Nat} (h : 0 < n) : fst n c ≤ lst n c ∧ lst n c ≤ n := by
  have h1 := fst_le (c := c) h
  have := Nat.mod_lt (c / 40) (show 0 < n + 1 - fst n c by omega)
  unfold lst; omega
noncomputable def cutRep (L : Lg) (c i : Nat) : Rpt := made L (fst L.ents.length c) (lst L.ents.length c) 5 ((7 + i : Nat) : Int)
noncomputable def cutReps (L : Lg) (cuts : List Nat) : List Rpt := cuts.zipIdx.map fun x => cutRep L x.1 x.2
noncomputable def cutBox (L : Lg) (cuts : List Nat) : List Rpt := merge [] (cutReps L cuts)
def cutHas (n : Nat) (cuts : List Nat) (j : Nat) : Bool := cuts.any fun c => decide (fst n c ≤ j + 1 ∧ j + 1 ≤ lst n c)
theorem cutBox_step {L : Lg} {cuts : List Nat} {k : Nat} (h : k < cuts.length) : cutBox L (cuts.take (k + 1)) = put (cutBox L (cuts.take k)) (cutRep L cuts[k] k) := by
  have e : cutReps L (cuts.take (k + 1)) = cutReps L (cuts.take k) ++ [cutRep L cuts[k] k] := by
    unfold cutReps
    rw [List.take_succ_eq_append_getElem h, List.zipIdx_append, List.map_append, List.length_take, Nat.min_eq_left (by omega)]
    simp
  unfold cutBox merge
  rw [e, List.foldl_append]; rfl
theorem cutHas_step {n : Nat} {cuts : List Nat} {k : Nat} (h : k < cuts.length) (j : Nat) : cutHas n (cuts.take (k + 1)) j = (cutHas n (cuts.take k) j || decide (fst n cuts[k] ≤ j + 1 ∧ j + 1 ≤ lst n cuts[k])) := by
  unfold cutHas
  rw [List.take_succ_eq_append_getElem h, List.any_append]
  simp
theorem mem_cutBox {L : Lg} {cuts : List Nat} {r : Rpt} : r ∈ cutBox L cuts ↔ ∃ c i, (c, i) ∈ cuts.zipIdx ∧ r = cutRep L c i := by
  unfold cutBox cutReps
  rw [mem_merge]
  simp only [List.not_mem_nil, false_or, List.mem_map, Prod.exists]
  exact ⟨fun ⟨c, i, h, e⟩ => ⟨c, i, h, e.symm⟩, fun ⟨c, i, h, e⟩ => ⟨c, i, h, e.symm⟩⟩
theorem cutBox_le {L : Lg} {cuts : List Nat} : (cutBox L cuts).length ≤ cuts.length := by
  have := merge_le (a := []) (b := cutReps L cuts)
  unfold cutBox
  simpa [cutReps] using this
theorem made_part {L : Lg} (h : L.valid = true) {n m : Nat} (hn : 1 ≤ n) (hnm : n ≤ m) (hm : m ≤ L.ents.length) {s o : Int} : Part L.ents L.veh (made L n m s o) ∧ off (made L n m s o) = n - 1 ∧ off (made L n m s o) + (made L n m s o).ents.length = m := by
  have ho : off (made L n m s o) = n - 1 := by show ((n : Int) - 1).toNat = _; omega
  have hl : (made L n m s o).ents.length = m - (n - 1) := by show ((L.ents.take m).drop ((n : Int).toNat - 1)).length = _; simp only [List.length_drop, List.length_take]; omega
  have hm2 : off (made L n m s o) + (made L n m s o).ents.length = m := by rw [ho, hl]; omega
  refine ⟨⟨by rw [hm2, ho]; omega, by rw [hm2]; exact hm, by rw [hm2, ho]; rfl, by rw [ho]; rfl⟩, ho, hm2⟩
theorem cut_cov {L : Lg} (h : L.valid = true) (h0 : 0 < L.ents.length) {cuts : List Nat} {j : Nat} : Cov (cutBox L cuts) L.veh j ↔ cutHas L.ents.length cuts j = true := by
  unfold Cov cutHas
  rw [List.any_eq_true]
  constructor
  · rintro ⟨r, hr, _, h1, h2⟩
    obtain ⟨c, i, hm, rfl⟩ := mem_cutBox.1 hr
    obtain ⟨f1, f2⟩ := fst_le (c := c) h0
    obtain ⟨l1, l2⟩ := lst_le (c := c) h0
    obtain ⟨_, ho, hl⟩ := made_part h f1 l1 l2 (s := 5) (o := ((7 + i : Nat) : Int))
    rw [show off (cutRep L c i) = _ from ho] at h1
    rw [show off (cutRep L c i) + (cutRep L c i).ents.length = _ from hl] at h2
    exact ⟨c, (List.mem_zipIdx' hm).2 ▸ List.getElem_mem _, decide_eq_true (by omega)⟩
  · rintro ⟨c, hc, hd⟩
    have hd := of_decide_eq_true hd
    obtain ⟨i, hi, rfl⟩ := List.mem_iff_getElem.1 hc
    obtain ⟨f1, f2⟩ := fst_le (c := cuts[i]) h0
    obtain ⟨l1, l2⟩ := lst_le (c := cuts[i]) h0
    obtain ⟨_, ho, hl⟩ := made_part h f1 l1 l2 (s := 5) (o := ((7 + i : Nat) : Int))
    refine ⟨cutRep L cuts[i] i, mem_cutBox.2 ⟨_, i, List.mk_mem_zipIdx_iff_getElem?.2 (List.getElem?_eq_getElem hi), rfl⟩, rfl, ?_, ?_⟩
    · rw [show off (cutRep L cuts[i] i) = _ from ho]; omega
    · rw [show off (cutRep L cuts[i] i) + (cutRep L cuts[i] i).ents.length = _ from hl]; omega
theorem cut_part {L : Lg} (h : L.valid = true) (h0 : 0 < L.ents.length) {cuts : List Nat} : ∀ r ∈ cutBox L cuts, r.veh = L.veh → Part L.ents L.veh r := by
  intro r hr _
  obtain ⟨c, i, hm, rfl⟩ := mem_cutBox.1 hr
  obtain ⟨f1, f2⟩ := fst_le (c := c) h0
  obtain ⟨l1, l2⟩ := lst_le (c := c) h0
  exact (made_part h f1 l1 l2 (s := 5) (o := ((7 + i : Nat) : Int))).1
theorem cut_known {L : Lg} (h : L.valid = true) (h0 : 0 < L.ents.length) (cuts : List Nat) :
    ∃ n, n ≤ L.ents.length ∧ known L.veh (cutBox L cuts) = L.ents.take n ∧ (∀ j, j < n → cutHas L.ents.length cuts j = true) ∧ cutHas L.ents.length cuts n = false := by
  obtain ⟨n, h1, h2, h3, h4⟩ := known_part (valid_fol h) (cut_part h h0 (cuts := cuts))
  refine ⟨n, h1, h2, fun j hj => (cut_cov h h0).1 (h3 j hj), ?_⟩
  cases hb : cutHas L.ents.length cuts n with
  | false => rfl
  | true => exact absurd ((cut_cov h h0).2 hb) h4
theorem cutHas_take {n : Nat} {cuts : List Nat} {k j : Nat} (h : cutHas n (cuts.take k) j = true) : cutHas n cuts j = true := by
  unfold cutHas at h ⊢
  rw [List.any_eq_true] at h ⊢
  obtain ⟨c, hc, hd⟩ := h
  exact ⟨c, List.mem_of_mem_take hc, hd⟩
end Msh
open Msh in
theorem knows_plain {L : Rep.Lg} (h : L.valid = true) (h0 : 0 < L.ents.length) (cuts : List Nat) (k n : Nat) (hn : n ≤ L.ents.length) (h1 : ∀ j, j < n → cutHas L.ents.length cuts j = true) (h2 : n < L.ents.length → cutHas L.ents.length cuts n = false) :
    known L.veh (cutBox L cuts) = L.ents.take n ∧ ∃ m, m ≤ n ∧ known L.veh (cutBox L (cuts.take k)) = L.ents.take m := by
  have past : ∀ {m : Nat}, m ≤ L.ents.length → m = L.ents.length ∨ m < L.ents.length := fun h => by omega
  have out : ∀ (cs : List Nat) (j : Nat), L.ents.length ≤ j → cutHas L.ents.length cs j = false := fun cs j hj => by
    cases hb : cutHas L.ents.length cs j with
    | false => rfl
    | true =>
      unfold cutHas at hb
      rw [List.any_eq_true] at hb
      obtain ⟨c, _, hd⟩ := hb
      have hd := of_decide_eq_true hd
      have := (lst_le (c := c) h0).2
      omega
  obtain ⟨m, m1, m2, m3, m4⟩ := cut_known h h0 cuts
  obtain ⟨q, q1, q2, q3, q4⟩ := cut_known h h0 (cuts.take k)
  have hmn : m = n := by
    rcases Nat.lt_trichotomy m n with hh | hh | hh
    · rw [h1 m hh] at m4; cases m4
    · exact hh
    · exact absurd (m3 n hh) (by rw [h2 (by omega)]; decide)
  subst hmn
  refine ⟨m2, q, ?_, q2⟩
  rcases Nat.lt_or_ge m q with hh | hh
  · have := cutHas_take (q3 m hh)
    rw [this] at m4; cases m4
  · exact hh
end Go.Proofs.YtohmledhhgdgaaaGreatDoor
