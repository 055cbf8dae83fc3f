/- The example of the chapter: what is put, merged and known of it; digests that the kernel reckons. -/
import Derived.Test.YtohmledhhgdgaaaGreatDoorGMshL
set_option linter.unusedVariables false
set_option linter.unusedSimpArgs false
namespace Go.Proofs.YtohmledhhgdgaaaGreatDoor
set_option maxRecDepth 100000
set_option maxHeartbeats 4000000
open Sh Go.RowKit
namespace Dig
def frd : Nat → Nat → List UInt8
  | 0, _ => []
  | f + 1, u => if u = 0 then [] else UInt8.ofNat (48 + u % 10) :: frd f (u / 10)
theorem frd_eq : ∀ (f u : Nat), u < 10 ^ f → frd f u = rdig u
  | 0, u, h => by
    have : u = 0 := by simpa using h
    subst this
    rw [frd, rdig_zero]
  | f + 1, u, h => by
    rw [frd]
    by_cases hu : u = 0
    · subst hu; rw [if_pos rfl, rdig_zero]
    · rw [if_neg hu, rdig_pos hu, frd_eq f (u / 10) (by rw [Nat.pow_succ] at h; omega)]
def fitoa (n : Int) : List UInt8 := if n = 0 then [48] else (frd 20 n.natAbs ++ if n < 0 then [45] else []).reverse
def small (n : Int) : Bool := decide (n.natAbs < 100000000000000000000)
theorem fitoa_eq {n : Int} (h : small n = true) : fitoa n = Go.Lib.itoa n := by
  unfold fitoa
  by_cases h0 : n = 0
  · subst h0; rw [if_pos rfl]; unfold Go.Lib.itoa; rw [if_neg (by decide), Go.Lib.decDigits, dif_pos (by decide)]; rfl
  · have h := of_decide_eq_true h
    rw [if_neg h0, itoa_rdig h0, frd_eq 20 _ (by omega)]
def fnext (d : BitVec 64) (l : List Int) : BitVec 64 := text (bytes8 d ++ l.flatMap fun n => fitoa n ++ [32])
theorem fnext_eq {d : BitVec 64} {l : List Int} (h : l.all small = true) : next d l = fnext d l := by
  unfold next fnext texts
  congr 2
  rw [List.all_eq_true] at h
  clear d
  induction l with
  | nil => rfl
  | cons a l ih => rw [List.flatMap_cons, List.flatMap_cons, fitoa_eq (h a (by simp)), ih fun x hx => h x (by simp [hx])]
end Dig
namespace Msh
def exE (i : Nat) : SEntry := ⟨(i : Int) + 1, 10 * i, 3, 1, 7, 0, 0, ⟨i, 50⟩, 0, 0, 0⟩
def exM (n : Nat) : Rep.Lg := ⟨3, [[⟨0, 0⟩]], (List.range n).map exE⟩
def fcarry (d : BitVec 64) (l : List SEntry) : BitVec 64 := l.foldl (fun d e => Dig.fnext d (Rep.eints e)) d
theorem fcarry_eq : ∀ {l : List SEntry} {d : BitVec 64}, (l.all fun e => (Rep.eints e).all Dig.small) = true → Rep.carry d l = fcarry d l
  | [], _, _ => rfl
  | e :: l, d, h => by
    rw [List.all_cons, Bool.and_eq_true] at h
    show Rep.carry (Dig.next d (Rep.eints e)) l = fcarry (Dig.fnext d (Rep.eints e)) l
    rw [Dig.fnext_eq h.1, fcarry_eq h.2]
theorem b3 : Rep.begin 3 = 1576458671205121609#64 := by
  show Dig.next Dig.begin64 [3] = _
  rw [Dig.fnext_eq (by decide)]; decide +kernel
theorem c4 : Rep.carry (Rep.begin 3) ((exM 6).ents.take 4) = 12703876164735012802#64 := by
  rw [fcarry_eq (by decide +kernel), b3]; decide +kernel
theorem c5 : Rep.carry 12703876164735012802#64 (((exM 6).ents.take 5).drop 4) = 18341127088659412992#64 := by
  rw [fcarry_eq (by decide +kernel)]; decide +kernel
theorem chal1 : Sig.chal [65536, 1024, 3, 5, 1, 2957851664, 1435832258, 4270376425, 1675016192] = 284479919 := by
  show (Dig.next Dig.begin64 _).toNat % Sig.Q = _
  rw [Dig.fnext_eq (by decide +kernel)]; decide +kernel
theorem chal2 : Sig.chal [1787623408, 4096, 3, 5, 1, 2957851664, 1435832258, 4270376425, 1675016192] = 306435824 := by
  show (Dig.next Dig.begin64 _).toNat % Sig.Q = _
  rw [Dig.fnext_eq (by decide +kernel)]; decide +kernel
theorem exM_ok (n : Nat) (h : n ≤ 1000) : LogOk (exM n) := by
  refine ⟨by show I64 3; unfold I64; decide, fun l hl p hp => ?_, fun e he => ?_⟩
  · simp only [exM, List.mem_singleton] at hl
    subst hl
    rw [List.mem_singleton] at hp
    subst hp
    exact ⟨by unfold I64; decide, by unfold I64; decide⟩
  · simp only [exM, List.mem_map, List.mem_range] at he
    obtain ⟨i, hi, rfl⟩ := he
    unfold SEntry.Ok exE SSpan.Ok I64
    simp only
    omega
theorem exM_valid : (exM 6).valid = true := by
  have h : Hul.valid [⟨0, 0⟩] = true := by
    unfold Hul.valid
    refine @decide_eq_true _ (_) ?_
    refine ⟨⟨⟨by decide, by decide⟩, fun p hp => ?_, fun i h1 h2 => ?_⟩, fun h => ?_⟩
    · rw [List.mem_singleton] at hp; subst hp; rfl
    · have h2 : i < 1 := h2
      omega
    · have h : 3 ≤ 1 := h
      omega
  unfold Rep.Lg.valid Rep.valid regValid
  have e1 : ([[⟨0, 0⟩]] : List (List SPoint)).all Hul.valid = true := by rw [List.all_cons, h]; rfl
  show (Rep.isID 3 && (decide (0 < 1) && ((decide (1 ≤ 32) && ([[⟨0, 0⟩]] : List (List SPoint)).all Hul.valid) && Rep.follows (exM 6).ents 1))) = true
  rw [e1]; decide +kernel
noncomputable abbrev rp (n m : Nat) (o : Nat) : Rep.Rpt := Rep.made (exM 6) n m ((5 : Nat) : Int) o
attribute [local irreducible] Dig.next Dig.sum Rep.carry Rep.begin in
theorem r4_msg : Rep.msg (rp 5 5 8) = [3, 5, 1, 2957851664, 1435832258, 4270376425, 1675016192] := by
  have e1 : (rp 5 5 8).before = 12703876164735012802#64 := c4
  have e2 : (rp 5 5 8).chain = 18341127088659412992#64 := by
    show Rep.carry (Rep.carry (Rep.begin 3) ((exM 6).ents.take 4)) (((exM 6).ents.take 5).drop 4) = _
    rw [c4, c5]
  unfold Rep.msg
  rw [e1, e2]
  show [(3 : Int), 5, _, _, _, _, _] = _
  decide +kernel
attribute [local irreducible] Sig.chal in
theorem sig_lit : Sig.sigOf 5 8 [3, 5, 1, 2957851664, 1435832258, 4270376425, 1675016192] = ⟨284479919, 348657814⟩ := by
  have h1 : ((Sig.pw 4 8 : Nat) : Int) = 65536 := by decide
  have h2 : ((Sig.pw 4 5 : Nat) : Int) = 1024 := by decide
  unfold Sig.sigOf
  rw [h1, h2, chal1]
  rfl
theorem back_eq (p e s : Nat) : Sig.back p ⟨(e : Int), (s : Int)⟩ = Sig.pw 4 s * Sig.pw p ((Sig.Q - e) % Sig.Q) % Sig.P := rfl
theorem back4 : Sig.back 4096 ⟨((284479919 : Nat) : Int), ((348657814 : Nat) : Int)⟩ = 1787623408 := by
  rw [back_eq, Sig.pw_fp (by decide), Sig.pw_fp (by decide)]; decide +kernel
attribute [local irreducible] Dig.next Dig.sum Rep.carry Rep.begin Sig.chal Sig.pw Sig.back in
theorem chk4 : Rep.checkV (rp 5 5 8) 4096 = (false, 0) := by
  have hok : Rep.okR (rp 5 5 8) = true := Rep.made_okR (n := 5) (m := 5) (s := ((5 : Nat) : Int)) (o := ((8 : Nat) : Int)) exM_valid (by decide) (by decide) (by decide)
  have hsig : (rp 5 5 8).sig = ⟨284479919, 348657814⟩ := ((Rep.made_sig (L := exM 6) (f := ((5 : Nat) : Int)) (l := ((5 : Nat) : Int)) (s := 5) (o := 8) (by unfold Sig.Q; omega) (by unfold Sig.Q; omega)).trans (congrArg (Sig.sigOf 5 8) r4_msg)).trans sig_lit
  have hback : Sig.back 4096 ⟨284479919, 348657814⟩ = 1787623408 := back4
  have hmem : Sig.member 4096 = true := by
    unfold Sig.member
    rw [show Sig.pw (4096 : Int).toNat Sig.Q = 1 from by rw [Sig.pw_fp (by decide)]; decide +kernel]
    decide
  unfold Rep.checkV
  rw [if_pos hok, hsig, r4_msg]
  have hv : Sig.verV 4096 ⟨284479919, 348657814⟩ [3, 5, 1, 2957851664, 1435832258, 4270376425, 1675016192] = (false, 0) := by
    unfold Sig.verV
    rw [if_pos ⟨hmem, by decide, by decide⟩]
    show (decide (((Sig.chal (((Sig.back 4096 ⟨284479919, 348657814⟩ : Nat) : Int) :: 4096 :: [3, 5, 1, 2957851664, 1435832258, 4270376425, 1675016192]) : Nat) : Int) = 284479919), (0 : Int)) = _
    rw [hback]
    show (decide (((Sig.chal [1787623408, 4096, 3, 5, 1, 2957851664, 1435832258, 4270376425, 1675016192] : Nat) : Int) = 284479919), (0 : Int)) = _
    rw [chal2]; rfl
  rw [hv]; rfl
theorem made_repok {L : Rep.Lg} (hL : LogOk L) {f l : Int} (hf : I64 f) {s o : Nat} (hs : 1 ≤ s ∧ s < Sig.Q) (ho : 1 ≤ o ∧ o < Sig.Q) (hlen : L.ents.length ≤ 1000000) : RepOk (Rep.made L f l s o) := by
  refine ⟨hL.1, hf, fun e he => hL.2.2 e (List.mem_of_mem_take (List.mem_of_mem_drop he)), ?_, ?_⟩
  · rw [Rep.made_sig hs ho]
    obtain ⟨e, h1, h2, _, h4⟩ := Sig.sigOf_e s o (Rep.msg (Rep.made L f l ((s : Nat) : Int) ((o : Nat) : Int)))
    have h5 := Nat.mod_lt (o + e * s) (show 0 < Sig.Q by decide)
    have hQ : Sig.Q = 1073741789 := rfl
    exact ⟨by rw [h1]; unfold I64; omega, by rw [h4]; unfold I64; omega⟩
  · show ((L.ents.take l.toNat).drop (f.toNat - 1)).length ≤ _
    rw [List.length_drop, List.length_take]; omega
theorem less_first {a b : Rep.Rpt} (hv : a.veh = b.veh) (hf : a.first < b.first) : less a b = true := by
  show lt (a.veh :: a.first :: _) (b.veh :: b.first :: _) = true
  unfold lt
  rw [hv, if_neg (Int.lt_irrefl _), if_neg (Int.lt_irrefl _)]
  unfold lt
  rw [if_pos hf]
theorem add_ok {b : MBox} {r : Rep.Rpt} {p : Int} {l : List Rep.Rpt} (hb : BVal b) (hc : Rep.checkV r p = (true, 0)) (hp : put b.2 r = l) (hl : l.length ≤ 500) : addV b r p = ((b.1, l), true, 0) ∧ BVal (b.1, l) := by
  subst hp
  refine ⟨?_, bval_put hb (check_okR (by rw [hc])) hl⟩
  unfold addV
  rw [if_neg (by rw [bvalid_iff.2 hb]; decide), hc, if_neg (by decide), if_neg (by decide), if_neg (by omega)]
noncomputable def r1 : Rep.Rpt := rp 6 6 7
noncomputable def r2 : Rep.Rpt := rp 2 4 7
noncomputable def r3 : Rep.Rpt := rp 1 2 7
noncomputable def r4 : Rep.Rpt := rp 5 5 8
theorem sm : (1 : Nat) ≤ 5 ∧ 5 < Sig.Q := by decide
theorem pub5 : ((Sig.pw 4 5 : Nat) : Int) = 1024 := by decide
theorem rp_right {n m o : Nat} (hn : 1 ≤ n) (hnm : n ≤ m) (hm : m ≤ 6) (ho : 1 ≤ o ∧ o < Sig.Q) : Rep.checkV (rp n m o) 1024 = (true, 0) := by
  have := Rep.made_right (L := exM 6) exM_valid hn hnm hm sm ho
  rw [pub5] at this
  exact this
theorem bv0 : BVal (1, []) := ⟨by decide, by simp, by simp, by simp [Sorted]⟩
theorem put1 : put [] r1 = [r1] := rfl
theorem l21 : less r2 r1 = true := less_first rfl (by show (2 : Int) < 6; decide)
theorem l32 : less r3 r2 = true := less_first rfl (by show (1 : Int) < 2; decide)
theorem l24 : less r2 r4 = true := less_first rfl (by show (2 : Int) < 5; decide)
theorem l34 : less r3 r4 = true := less_first rfl (by show (1 : Int) < 5; decide)
theorem l41 : less r4 r1 = true := less_first rfl (by show (5 : Int) < 6; decide)
theorem put2 : put [r1] r2 = [r2, r1] := put_at (i := 0) (by simp) (fun m _ h => by omega) (fun _ => l21)
theorem put3 : put [r2, r1] r3 = [r3, r2, r1] := put_at (i := 0) (by simp) (fun m _ h => by omega) (fun _ => l32)
theorem put4 : put [r3, r2, r1] r4 = [r3, r2, r4, r1] := put_at (i := 2) (by simp) (fun m h1 h => by
  match m, h with
  | 0, _ => exact l34
  | 1, _ => exact l24) (fun _ => l41)
theorem add1 : addV (1, []) r1 1024 = ((1, [r1]), true, 0) ∧ BVal (1, [r1]) := add_ok bv0 (rp_right (n := 6) (m := 6) (o := 7) (by decide) (by decide) (by decide) (by decide)) put1 (by simp)
theorem add2 : addV (1, [r1]) r2 1024 = ((1, [r2, r1]), true, 0) ∧ BVal (1, [r2, r1]) := add_ok add1.2 (rp_right (n := 2) (m := 4) (o := 7) (by decide) (by decide) (by decide) (by decide)) put2 (by simp)
theorem add3 : addV (1, [r2, r1]) r3 1024 = ((1, [r3, r2, r1]), true, 0) ∧ BVal (1, [r3, r2, r1]) := add_ok add2.2 (rp_right (n := 1) (m := 2) (o := 7) (by decide) (by decide) (by decide) (by decide)) put3 (by simp)
theorem add4 : addV (1, [r3, r2, r1]) r4 1024 = ((1, [r3, r2, r4, r1]), true, 0) ∧ BVal (1, [r3, r2, r4, r1]) := add_ok add3.2 (rp_right (n := 5) (m := 5) (o := 8) (by decide) (by decide) (by decide) (by decide)) put4 (by simp)
theorem add_not : addV (1, [r3, r2, r1]) r4 4096 = ((1, [r3, r2, r1]), false, 0) := by
  have h : Rep.checkV r4 4096 = (false, 0) := chk4
  unfold addV
  rw [if_neg (by rw [bvalid_iff.2 add3.2]; decide), h, if_neg (by decide), if_pos rfl]
theorem rp_part {n m : Nat} (o : Nat) (hn : 1 ≤ n) (hnm : n ≤ m) (hm : m ≤ 6) : Part (exM 6).ents 3 (rp n m o) ∧ off (rp n m o) = n - 1 ∧ off (rp n m o) + (rp n m o).ents.length = m := made_part exM_valid hn hnm hm
theorem exM_fol : Rep.follows (exM 6).ents 1 = true := Rep.valid_fol exM_valid
theorem cov_iff {l : List Rep.Rpt} {j : Nat} : Cov l 3 j ↔ ∃ r ∈ l, r.veh = 3 ∧ off r ≤ j ∧ j < off r + r.ents.length := Iff.rfl
theorem part1 : Part (exM 6).ents 3 (rp 6 6 7) ∧ off (rp 6 6 7) = 6 - 1 ∧ off (rp 6 6 7) + (rp 6 6 7).ents.length = 6 := rp_part (n := 6) (m := 6) 7 (by decide) (by decide) (by decide)
theorem part2 : Part (exM 6).ents 3 (rp 2 4 7) ∧ off (rp 2 4 7) = 2 - 1 ∧ off (rp 2 4 7) + (rp 2 4 7).ents.length = 4 := rp_part (n := 2) (m := 4) 7 (by decide) (by decide) (by decide)
theorem part3 : Part (exM 6).ents 3 (rp 1 2 7) ∧ off (rp 1 2 7) = 1 - 1 ∧ off (rp 1 2 7) + (rp 1 2 7).ents.length = 2 := rp_part (n := 1) (m := 2) 7 (by decide) (by decide) (by decide)
theorem part4 : Part (exM 6).ents 3 (rp 5 5 8) ∧ off (rp 5 5 8) = 5 - 1 ∧ off (rp 5 5 8) + (rp 5 5 8).ents.length = 5 := rp_part (n := 5) (m := 5) 8 (by decide) (by decide) (by decide)
theorem known3 : known 3 [r3, r2, r1] = (exM 6).ents.take 4 := by
  obtain ⟨n, h1, h2, h3, h4⟩ := known_part (L := (exM 6).ents) (v := 3) (l := [r3, r2, r1]) exM_fol (fun r hr _ => by
    simp only [List.mem_cons, List.not_mem_nil, or_false] at hr
    rcases hr with rfl | rfl | rfl
    · exact part3.1
    · exact part2.1
    · exact part1.1)
  obtain ⟨_, a1, a2⟩ := part1
  obtain ⟨_, b1, b2⟩ := part2
  obtain ⟨_, d1, d2⟩ := part3
  have hc : ∀ j, Cov [r3, r2, r1] 3 j ↔ j < 4 ∨ j = 5 := fun j => by
    rw [cov_iff]
    simp only [List.mem_cons, List.not_mem_nil, or_false, exists_eq_or_imp, exists_eq_left]
    unfold r1 r2 r3
    rw [a2, a1, b2, b1, d2, d1]
    constructor
    · rintro (⟨_, h⟩ | ⟨_, h⟩ | ⟨_, h⟩) <;> omega
    · rintro h
      by_cases h1 : j < 2
      · exact .inl ⟨rfl, by omega⟩
      · by_cases h2 : j < 4
        · exact .inr (.inl ⟨rfl, by omega⟩)
        · exact .inr (.inr ⟨rfl, by omega⟩)
  have hn : n = 4 := by
    rw [hc] at h4
    rcases Nat.lt_or_ge 4 n with h | h
    · have := (hc 4).1 (h3 4 h); omega
    · omega
  rw [h2, hn]
theorem known4 : known 4 [r3, r2, r1] = [] := by
  have h : [r3, r2, r1].find? (fits 4 []) = none := by
    rw [List.find?_eq_none]
    intro r hr hf
    have hv := (fits_iff.1 hf).1
    simp only [List.mem_cons, List.not_mem_nil, or_false] at hr
    rcases hr with rfl | rfl | rfl <;> exact absurd hv (by show ¬ (3 : Int) = 4; decide)
  exact (known_eq (.stop h)).symm
theorem known_all : known 3 [r3, r2, r4, r1] = (exM 6).ents := by
  obtain ⟨n, h1, h2, h3, h4⟩ := known_part (L := (exM 6).ents) (v := 3) (l := [r3, r2, r4, r1]) exM_fol (fun r hr _ => by
    simp only [List.mem_cons, List.not_mem_nil, or_false] at hr
    rcases hr with rfl | rfl | rfl | rfl
    · exact part3.1
    · exact part2.1
    · exact part4.1
    · exact part1.1)
  obtain ⟨_, a1, a2⟩ := part1
  obtain ⟨_, b1, b2⟩ := part2
  obtain ⟨_, d1, d2⟩ := part3
  obtain ⟨_, e1, e2⟩ := part4
  have hc : ∀ j, j < 6 → Cov [r3, r2, r4, r1] 3 j := fun j hj => by
    rw [cov_iff]
    simp only [List.mem_cons, List.not_mem_nil, or_false, exists_eq_or_imp, exists_eq_left]
    unfold r1 r2 r3 r4
    rw [a2, a1, b2, b1, d2, d1, e2, e1]
    by_cases h1 : j < 2
    · exact .inl ⟨rfl, by omega⟩
    · by_cases h2 : j < 4
      · exact .inr (.inl ⟨rfl, by omega⟩)
      · by_cases h3 : j < 5
        · exact .inr (.inr (.inl ⟨rfl, by omega⟩))
        · exact .inr (.inr (.inr ⟨rfl, by omega⟩))
  have hn : n = 6 := by
    have h1 : n ≤ 6 := h1
    rcases Nat.lt_or_ge n 6 with h | h
    · exact absurd (hc n h) h4
    · omega
  rw [h2, hn]; exact List.take_of_length_le (show 6 ≤ 6 from Nat.le_refl 6)
theorem known3V : knownV (1, [r3, r2, r1]) 3 = ((exM 6).ents.take 4, Rep.carry (Rep.begin 3) ((exM 6).ents.take 4), 0) := by rw [knownV_ok add3.2 (by decide)]; show (known 3 [r3, r2, r1], _, _) = _; rw [known3]
theorem known4V : knownV (1, [r3, r2, r1]) 4 = ([], Rep.begin 4, 0) := by rw [knownV_ok add3.2 (by decide)]; show (known 4 [r3, r2, r1], Rep.carry _ (known 4 [r3, r2, r1]), _) = _; rw [known4, Rep.carry_nil]
theorem knownAV : knownV (1, [r3, r2, r4, r1]) 3 = ((exM 6).ents, Rep.carry (Rep.begin 3) (exM 6).ents, 0) := by rw [knownV_ok add4.2 (by decide)]; show (known 3 [r3, r2, r4, r1], _, _) = _; rw [known_all]
theorem merge_no (b : MBox) : mergeV b (0, []) = ((0, []), 1) := by
  unfold mergeV
  rw [if_pos (.inr (bvalid_not fun h => absurd h.1 (by decide)))]
theorem mk {n m o : Nat} (hn : 1 ≤ n) (hnm : n ≤ m) (hm : m ≤ 6) (ho : 1 ≤ o ∧ o < Sig.Q) : Rep.makeV (exM 6) n m ((5 : Nat) : Int) o = (rp n m o, 0) := Rep.makeV_ok exM_valid hn hnm hm sm ho
theorem rp_repok {n m o : Nat} (hn : n ≤ 6) (ho : 1 ≤ o ∧ o < Sig.Q) : RepOk (rp n m o) := made_repok (exM_ok 6 (by decide)) (by unfold I64; omega) sm ho (by show 6 ≤ _; decide)
end Msh
end Go.Proofs.YtohmledhhgdgaaaGreatDoor
