/- Boxes of reports: the plain laws of what is added, merged and known. -/
import Derived.Test.YtohmledhhgdgaaaGreatDoorGMshA
set_option linter.unusedVariables false
set_option linter.unusedSimpArgs false
namespace Go.Proofs.YtohmledhhgdgaaaGreatDoor
set_option maxRecDepth 100000
set_option maxHeartbeats 4000000
open Sh Go.RowKit
abbrev MBox := Int × List Rep.Rpt
theorem check_okR {r : Rep.Rpt} {p : Int} (h : (Rep.checkV r p).1 = true) : Rep.okR r = true := by
  cases ho : Rep.okR r with
  | true => rfl
  | false => rw [Rep.check_bad ho] at h; cases h
theorem bval_put {b : MBox} {r : Rep.Rpt} (hb : BVal b) (hr : Rep.okR r = true) (hl : (Msh.put b.2 r).length ≤ 500) : BVal (b.1, Msh.put b.2 r) :=
  ⟨hb.1, hl, fun x hx => (Msh.mem_put.1 hx).elim (hb.2.2.1 x) fun e => by rw [e]; exact hr, hb.2.2.2.put⟩
theorem addV_cases (b : MBox) (r : Rep.Rpt) (p : Int) :
    ((addV b r p).2.2 ≠ 0 ∧ (addV b r p).1 = (0, []) ∧ (addV b r p).2.1 = false) ∨
    (BVal b ∧ Rep.checkV r p = (false, 0) ∧ addV b r p = (b, false, 0)) ∨
    (BVal b ∧ Rep.checkV r p = (true, 0) ∧ (Msh.put b.2 r).length ≤ 500 ∧ addV b r p = ((b.1, Msh.put b.2 r), true, 0) ∧ BVal (b.1, Msh.put b.2 r)) := by
  unfold addV
  by_cases h1 : bvalid b = false
  · rw [if_pos h1]; exact .inl ⟨by decide, rfl, rfl⟩
  rw [if_neg h1]
  have hb : BVal b := bvalid_iff.1 (by simpa using h1)
  by_cases h2 : (Rep.checkV r p).2 ≠ 0
  · rw [if_pos h2]; exact .inl ⟨h2, rfl, rfl⟩
  rw [if_neg h2]
  have h2 : (Rep.checkV r p).2 = 0 := by simpa using h2
  by_cases h3 : (Rep.checkV r p).1 = false
  · rw [if_pos h3]; exact .inr (.inl ⟨hb, Prod.ext h3 h2, rfl⟩)
  rw [if_neg h3]
  have h3 : (Rep.checkV r p).1 = true := by simpa using h3
  by_cases h4 : 500 < (Msh.put b.2 r).length
  · rw [if_pos h4]; exact .inl ⟨by decide, rfl, rfl⟩
  rw [if_neg h4]
  exact .inr (.inr ⟨hb, Prod.ext h3 h2, by omega, rfl, bval_put hb (check_okR h3) (by omega)⟩)
noncomputable def addB (p : Int) (b : MBox) (r : Rep.Rpt) : MBox := if (addV b r p).2.2 = 0 then (addV b r p).1 else b
theorem addB_spec {b : MBox} {r : Rep.Rpt} {p : Int} (hb : BVal b) (hl : b.2.length < 500) :
    BVal (addB p b r) ∧ (addB p b r).1 = b.1 ∧ (addB p b r).2.length ≤ b.2.length + 1 ∧ ∀ x, x ∈ (addB p b r).2 ↔ x ∈ b.2 ∨ (x = r ∧ Rep.checkV r p = (true, 0)) := by
  unfold addB
  have hle := (Msh.put_le (l := b.2) (r := r)).2
  rcases addV_cases b r p with ⟨h1, _⟩ | ⟨_, hc, e⟩ | ⟨_, hc, _, e, hb'⟩
  · rw [if_neg h1]
    refine ⟨hb, rfl, by omega, fun x => ⟨.inl, fun h => h.elim id fun h => ?_⟩⟩
    exfalso
    apply h1
    unfold addV
    rw [if_neg (by rw [bvalid_iff.2 hb]; decide), h.2, if_neg (by decide), if_neg (by decide), if_neg (by omega)]
  · rw [e, if_pos rfl]
    refine ⟨hb, rfl, by show b.2.length ≤ _; omega, fun x => ⟨.inl, fun h => h.elim id fun h => ?_⟩⟩
    rw [hc] at h; cases h.2
  · rw [e, if_pos rfl]
    refine ⟨hb', rfl, hle, fun x => ?_⟩
    show x ∈ Msh.put b.2 r ↔ _
    rw [Msh.mem_put, hc]
    exact ⟨fun h => h.imp id fun h => ⟨h, rfl⟩, fun h => h.imp id fun h => h.1⟩
theorem addL_spec {p : Int} : ∀ (l : List Rep.Rpt) {b : MBox}, BVal b → b.2.length + l.length ≤ 500 →
    BVal (l.foldl (addB p) b) ∧ (l.foldl (addB p) b).1 = b.1 ∧ (l.foldl (addB p) b).2.length ≤ b.2.length + l.length ∧ ∀ x, x ∈ (l.foldl (addB p) b).2 ↔ x ∈ b.2 ∨ (x ∈ l ∧ Rep.checkV x p = (true, 0))
  | [], b, hb, _ => ⟨hb, rfl, by simp, fun x => by simp⟩
  | r :: l, b, hb, hl => by
    simp only [List.length_cons] at hl
    obtain ⟨h1, h2, h3, h4⟩ := addB_spec (r := r) (p := p) hb (by omega)
    obtain ⟨g1, g2, g3, g4⟩ := addL_spec (p := p) l h1 (by omega)
    rw [List.foldl_cons]
    refine ⟨g1, g2.trans h2, by simp only [List.length_cons]; omega, fun x => ?_⟩
    rw [g4, h4, List.mem_cons]
    constructor
    · rintro ((h | ⟨rfl, h⟩) | ⟨h, h'⟩)
      · exact .inl h
      · exact .inr ⟨.inl rfl, h⟩
      · exact .inr ⟨.inr h, h'⟩
    · rintro (h | ⟨rfl | h, h'⟩)
      · exact .inl (.inl h)
      · exact .inl (.inr ⟨rfl, h'⟩)
      · exact .inr ⟨h, h'⟩
def twice (l : List Rep.Rpt) : List Rep.Rpt := l.flatMap fun r => [r, r]
theorem mem_twice {l : List Rep.Rpt} {x : Rep.Rpt} : x ∈ twice l ↔ x ∈ l := by simp [twice]
theorem twice_len (l : List Rep.Rpt) : (twice l).length = 2 * l.length := by
  induction l with
  | nil => rfl
  | cons a l ih => show (a :: a :: twice l).length = _; simp only [List.length_cons, ih]; omega
theorem bval_ext {a b : MBox} (ha : BVal a) (hb : BVal b) (h1 : a.1 = b.1) (h : ∀ x, x ∈ a.2 ↔ x ∈ b.2) : a = b := Prod.ext h1 (ha.2.2.2.ext hb.2.2.2 h)
theorem order_plain {b : MBox} {l : List Rep.Rpt} {p : Int} (hb : BVal b) (hl : b.2.length + 2 * l.length ≤ 500) :
    l.foldl (addB p) b = (twice l.reverse).foldl (addB p) b ∧ bvalid (l.foldl (addB p) b) = true := by
  obtain ⟨h1, h2, _, h4⟩ := addL_spec (p := p) l hb (by omega)
  obtain ⟨g1, g2, _, g4⟩ := addL_spec (p := p) (twice l.reverse) hb (by rw [twice_len, List.length_reverse]; omega)
  refine ⟨bval_ext h1 g1 (h2.trans g2.symm) fun x => ?_, bvalid_iff.2 h1⟩
  rw [h4, g4, mem_twice, List.mem_reverse]
noncomputable def knownV (b : MBox) (v : Int) : List SEntry × BitVec 64 × Int :=
  if bvalid b = false ∨ Rep.isID v = false then ([], 0, 1) else (Msh.known v b.2, Rep.carry (Rep.begin v) (Msh.known v b.2), 0)
theorem knownV_ok {b : MBox} {v : Int} (hb : BVal b) (hv : Rep.isID v = true) : knownV b v = (Msh.known v b.2, Rep.carry (Rep.begin v) (Msh.known v b.2), 0) := by
  unfold knownV; rw [if_neg (by rw [bvalid_iff.2 hb, hv]; simp)]
namespace Msh
open Rep
theorem made_part {L : Lg} (h : L.valid = true) {n m : Nat} (hn : 1 ≤ n) (hnm : n ≤ m) (hm : m ≤ L.ents.length) {s o : Int} : Part L.ents L.veh (made L n m s o) ∧ off (made L n m s o) = n - 1 ∧ off (made L n m s o) + (made L n m s o).ents.length = m := by
  have ho : off (made L n m s o) = n - 1 := by show ((n : Int) - 1).toNat = _; omega
  have hl : (made L n m s o).ents.length = m - (n - 1) := by show ((L.ents.take m).drop ((n : Int).toNat - 1)).length = _; simp only [List.length_drop, List.length_take]; omega
  have hm2 : off (made L n m s o) + (made L n m s o).ents.length = m := by rw [ho, hl]; omega
  refine ⟨⟨by rw [hm2, ho]; omega, by rw [hm2]; exact hm, by rw [hm2, ho]; rfl, by rw [ho]; rfl⟩, ho, hm2⟩
end Msh
end Go.Proofs.YtohmledhhgdgaaaGreatDoor
