/- Boxes of reports: the plain laws of what is added, merged and known. -/
import Derived.Test.YtohmledhhgdgaaaGreatDoorEMshA
set_option linter.unusedVariables false
set_option linter.unusedSimpArgs false
namespace Go.Proofs.YtohmledhhgdgaaaGreatDoor
set_option maxRecDepth 100000
set_option maxHeartbeats 4000000
open Sh Go.RowKit
abbrev MBox := Int × List Rep.Rpt
theorem check_okR {r : Rep.Rpt} {p : Int} (h : (Rep.checkV r p).1 = true) : Rep.okR r = true := by
  cases ho : Rep.okR r with
  | true => rfl
  | false => rw [Rep.check_bad ho] at h; cases h
theorem bval_put {b : MBox} {r : Rep.Rpt} (hb : BVal b) (hr : Rep.okR r = true) (hl : (Msh.put b.2 r).length ≤ 500) : BVal (b.1, Msh.put b.2 r) :=
  ⟨hb.1, hl, fun x hx => (Msh.mem_put.1 hx).elim (hb.2.2.1 x) fun e => by rw [e]; exact hr, hb.2.2.2.put⟩
theorem addV_cases (b : MBox) (r : Rep.Rpt) (p : Int) :
    ((addV b r p).2.2 ≠ 0 ∧ (addV b r p).1 = (0, []) ∧ (addV b r p).2.1 = false) ∨
    (BVal b ∧ Rep.checkV r p = (false, 0) ∧ addV b r p = (b, false, 0)) ∨
    (BVal b ∧ Rep.checkV r p = (true, 0) ∧ (Msh.put b.2 r).length ≤ 500 ∧ addV b r p = ((b.1, Msh.put b.2 r), true, 0) ∧ BVal (b.1, Msh.put b.2 r)) := by
  unfold addV
  by_cases h1 : bvalid b = false
  · rw [if_pos h1]; exact .inl ⟨by decide, rfl, rfl⟩
  rw [if_neg h1]
  have hb : BVal b := bvalid_iff.1 (by simpa using h1)
  by_cases h2 : (Rep.checkV r p).2 ≠ 0
  · rw [if_pos h2]; exact .inl ⟨h2, rfl, rfl⟩
  rw [if_neg h2]
  have h2 : (Rep.checkV r p).2 = 0 := by simpa using h2
  by_cases h3 : (Rep.checkV r p).1 = false
  · rw [if_pos h3]; exact .inr (.inl ⟨hb, Prod.ext h3 h2, rfl⟩)
  rw [if_neg h3]
  have h3 : (Rep.checkV r p).1 = true := by simpa using h3
  by_cases h4 : 500 < (Msh.put b.2 r).length
  · rw [if_pos h4]; exact .inl ⟨by decide, rfl, rfl⟩
  rw [if_neg h4]
  exact .inr (.inr ⟨hb, Prod.ext h3 h2, by omega, rfl, bval_put hb (check_okR h3) (by omega)⟩)
theorem adds_plain (b : MBox) (r : Rep.Rpt) (p : Int) (h : (addV b r p).2.2 = 0) :
    Rep.checkV r p = ((addV b r p).2.1, 0) ∧ bvalid (addV b r p).1 = true ∧ (addV b r p).1.1 = b.1 ∧ (∀ x ∈ b.2, x ∈ (addV b r p).1.2) ∧
    ((addV b r p).2.1 = false ∨ r ∈ b.2 → b = (addV b r p).1) ∧ (¬ ((addV b r p).2.1 = false ∨ r ∈ b.2) → r ∈ (addV b r p).1.2 ∧ (addV b r p).1.2.length = b.2.length + 1) := by
  rcases addV_cases b r p with ⟨h1, _⟩ | ⟨hb, hc, e⟩ | ⟨hb, hc, hl, e, hb'⟩
  · exact absurd h h1
  · rw [e, hc]
    exact ⟨rfl, bvalid_iff.2 hb, rfl, fun _ hx => hx, fun _ => rfl, fun hn => absurd (.inl rfl) hn⟩
  · rw [e, hc]
    refine ⟨rfl, bvalid_iff.2 hb', rfl, fun x hx => Msh.mem_put.2 (.inl hx), fun hh => ?_, fun hn => ?_⟩
    · rcases hh with hh | hh
      · cases hh
      · show b = (b.1, Msh.put b.2 r)
        rw [Msh.put_there hb.2.2.2 hh]
    · exact ⟨Msh.mem_put.2 (.inr rfl), Msh.put_len hb.2.2.2 fun hm => hn (.inr hm)⟩
theorem mergeV_ok {a b : MBox} (ha : BVal a) (hb : BVal b) (hl : a.2.length + b.2.length ≤ 500) : mergeV a b = ((a.1, Msh.merge a.2 b.2), 0) ∧ BVal (a.1, Msh.merge a.2 b.2) ∧ (Msh.merge a.2 b.2).length ≤ a.2.length + b.2.length := by
  have hle := Msh.merge_le (a := a.2) (b := b.2)
  refine ⟨?_, ⟨ha.1, by show (Msh.merge a.2 b.2).length ≤ _; omega, fun x hx => (Msh.mem_merge.1 hx).elim (ha.2.2.1 x) (hb.2.2.1 x), ha.2.2.2.merge⟩, hle⟩
  unfold mergeV
  rw [if_neg (by rw [bvalid_iff.2 ha, bvalid_iff.2 hb]; simp), if_neg (by omega)]
theorem merges_plain {a b c : MBox} (ha : BVal a) (hb : BVal b) (hc : BVal c) (la : a.2.length ≤ 20) (lb : b.2.length ≤ 20) (lc : c.2.length ≤ 20) :
    let x := mergeV a b
    let y := mergeV b a
    let own := mergeV a a
    let z := mergeV b c
    let left := mergeV x.1 c
    let right := mergeV a z.1
    let part := mergeV x.1 b
    (x.2 = 0 ∧ y.2 = 0 ∧ own.2 = 0 ∧ z.2 = 0 ∧ left.2 = 0 ∧ right.2 = 0 ∧ part.2 = 0) ∧ x.1 = (a.1, y.1.2) ∧ own.1 = a ∧ left.1 = right.1 ∧ part.1 = x.1 ∧ bvalid x.1 = true := by
  obtain ⟨x1, x2, x3⟩ := mergeV_ok ha hb (by omega)
  obtain ⟨y1, y2, y3⟩ := mergeV_ok hb ha (by omega)
  obtain ⟨o1, o2, o3⟩ := mergeV_ok ha ha (by omega)
  obtain ⟨z1, z2, z3⟩ := mergeV_ok hb hc (by omega)
  obtain ⟨l1, l2, l3⟩ := mergeV_ok (b := c) x2 hc (by show (Msh.merge a.2 b.2).length + _ ≤ _; omega)
  obtain ⟨r1, r2, r3⟩ := mergeV_ok (a := a) ha z2 (by show _ + (Msh.merge b.2 c.2).length ≤ _; omega)
  obtain ⟨p1, p2, p3⟩ := mergeV_ok (b := b) x2 hb (by show (Msh.merge a.2 b.2).length + _ ≤ _; omega)
  simp only [x1, y1, o1, z1, l1, r1, p1]
  refine ⟨by decide, ?_, ?_, ?_, ?_, bvalid_iff.2 x2⟩
  · refine Prod.ext rfl (x2.2.2.2.ext y2.2.2.2 fun w => ?_)
    show w ∈ Msh.merge a.2 b.2 ↔ w ∈ Msh.merge b.2 a.2
    rw [Msh.mem_merge, Msh.mem_merge, or_comm]
  · refine Prod.ext rfl (o2.2.2.2.ext ha.2.2.2 fun w => ?_)
    show w ∈ Msh.merge a.2 a.2 ↔ w ∈ a.2
    rw [Msh.mem_merge, or_self]
  · refine Prod.ext rfl (l2.2.2.2.ext r2.2.2.2 fun w => ?_)
    show w ∈ Msh.merge (Msh.merge a.2 b.2) c.2 ↔ w ∈ Msh.merge a.2 (Msh.merge b.2 c.2)
    rw [Msh.mem_merge, Msh.mem_merge, Msh.mem_merge, Msh.mem_merge, or_assoc]
  · refine Prod.ext rfl (p2.2.2.2.ext x2.2.2.2 fun w => ?_)
    show w ∈ Msh.merge (Msh.merge a.2 b.2) b.2 ↔ w ∈ Msh.merge a.2 b.2
    rw [Msh.mem_merge, Msh.mem_merge, or_assoc, or_self]
noncomputable def knownV (b : MBox) (v : Int) : List SEntry × BitVec 64 × Int :=
  if bvalid b = false ∨ Rep.isID v = false then ([], 0, 1) else (Msh.known v b.2, Rep.carry (Rep.begin v) (Msh.known v b.2), 0)
theorem knownV_ok {b : MBox} {v : Int} (hb : BVal b) (hv : Rep.isID v = true) : knownV b v = (Msh.known v b.2, Rep.carry (Rep.begin v) (Msh.known v b.2), 0) := by
  unfold knownV; rw [if_neg (by rw [bvalid_iff.2 hb, hv]; simp)]
theorem bval_own {b : MBox} (hb : BVal b) (v : Int) : BVal (b.1, b.2.filter fun r => decide (r.veh = v)) :=
  ⟨hb.1, Nat.le_trans (List.length_filter_le _ _) hb.2.1, fun x hx => hb.2.2.1 x (List.mem_filter.1 hx).1, hb.2.2.2.filter _⟩
theorem others_plain {b : MBox} {v : Int} (hb : BVal b) (hv : Rep.isID v = true) (hf : ∀ r ∈ b.2, I64 r.first) :
    (knownV b v).2.2 = 0 ∧ knownV (b.1, b.2.filter fun r => decide (r.veh = v)) v = knownV b v ∧ Rep.follows (knownV b v).1 1 = true := by
  rw [knownV_ok hb hv, knownV_ok (bval_own hb v) hv, Msh.known_own]
  exact ⟨rfl, rfl, Msh.known_follows fun r hr => ⟨hb.2.2.1 r hr, hf r hr⟩⟩
namespace Msh
open Rep
theorem made_part {L : Lg} (h : L.valid = true) {n m : Nat} (hn : 1 ≤ n) (hnm : n ≤ m) (hm : m ≤ L.ents.length) {s o : Int} : Part L.ents L.veh (made L n m s o) ∧ off (made L n m s o) = n - 1 ∧ off (made L n m s o) + (made L n m s o).ents.length = m := by
  have ho : off (made L n m s o) = n - 1 := by show ((n : Int) - 1).toNat = _; omega
  have hl : (made L n m s o).ents.length = m - (n - 1) := by show ((L.ents.take m).drop ((n : Int).toNat - 1)).length = _; simp only [List.length_drop, List.length_take]; omega
  have hm2 : off (made L n m s o) + (made L n m s o).ents.length = m := by rw [ho, hl]; omega
  refine ⟨⟨by rw [hm2, ho]; omega, by rw [hm2]; exact hm, by rw [hm2, ho]; rfl, by rw [ho]; rfl⟩, ho, hm2⟩
end Msh
end Go.Proofs.YtohmledhhgdgaaaGreatDoor
