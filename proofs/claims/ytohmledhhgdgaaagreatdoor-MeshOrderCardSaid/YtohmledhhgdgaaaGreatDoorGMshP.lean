/- The plain laws of boxes of reports: their order, what is put and merged, and what is known. -/
import Derived.Test.YtohmledhhgdgaaaGreatDoorGRepJ
set_option linter.unusedVariables false
set_option linter.unusedSimpArgs false
namespace Go.Proofs.YtohmledhhgdgaaaGreatDoor
set_option maxRecDepth 100000
set_option maxHeartbeats 1000000
open Sh Go.RowKit
namespace Msh
def lt : List Int → List Int → Bool
  | _, [] => false
  | [], _ :: _ => true
  | x :: xs, y :: ys => if x < y then true else if y < x then false else lt xs ys
def cmp : List Int → List Int → Int
  | [], [] => 0
  | [], _ :: _ => -1
  | _ :: _, [] => 1
  | x :: xs, y :: ys => if x < y then -1 else if y < x then 1 else cmp xs ys
theorem cmp_cases : ∀ a b : List Int, (cmp a b = -1 ∧ lt a b = true ∧ lt b a = false ∧ a ≠ b) ∨ (cmp a b = 0 ∧ lt a b = false ∧ lt b a = false ∧ a = b) ∨ (cmp a b = 1 ∧ lt a b = false ∧ lt b a = true ∧ a ≠ b)
  | [], [] => .inr (.inl ⟨rfl, rfl, rfl, rfl⟩)
  | [], _ :: _ => .inl ⟨rfl, rfl, rfl, by simp⟩
  | _ :: _, [] => .inr (.inr ⟨rfl, rfl, rfl, by simp⟩)
  | x :: xs, y :: ys => by
    simp only [cmp, lt]
    by_cases h1 : x < y
    · left; rw [if_pos h1, if_pos h1, if_neg (show ¬ y < x by omega), if_pos h1]
      exact ⟨rfl, rfl, rfl, fun e => by injection e with e _; omega⟩
    · by_cases h2 : y < x
      · right; right; rw [if_neg h1, if_pos h2, if_neg h1, if_pos h2, if_pos h2]
        exact ⟨rfl, rfl, rfl, fun e => by injection e with e _; omega⟩
      · have : x = y := by omega
        subst this
        simp only [h1, if_false]
        rcases cmp_cases xs ys with ⟨a, b, c, d⟩ | ⟨a, b, c, d⟩ | ⟨a, b, c, d⟩
        · exact .inl ⟨a, b, c, fun e => d (by injection e)⟩
        · exact .inr (.inl ⟨a, b, c, by rw [d]⟩)
        · exact .inr (.inr ⟨a, b, c, fun e => d (by injection e)⟩)
theorem cmp_lt {a b : List Int} : cmp a b < 0 ↔ lt a b = true := by rcases cmp_cases a b with ⟨h1, h2, _⟩ | ⟨h1, h2, _⟩ | ⟨h1, h2, _⟩ <;> rw [h1, h2] <;> decide
theorem cmp_eq {a b : List Int} : cmp a b = 0 ↔ a = b := by
  rcases cmp_cases a b with ⟨h1, _, _, h4⟩ | ⟨h1, _, _, h4⟩ | ⟨h1, _, _, h4⟩
  · rw [h1]; exact ⟨fun h => absurd h (by decide), fun h => absurd h h4⟩
  · exact ⟨fun _ => h4, fun _ => h1⟩
  · rw [h1]; exact ⟨fun h => absurd h (by decide), fun h => absurd h h4⟩
theorem lt_trans : ∀ {a b c : List Int}, lt a b = true → lt b c = true → lt a c = true
  | _, _, [], _, h => by cases ‹List Int› <;> simp [lt] at h
  | [], _, _ :: _, _, _ => rfl
  | _ :: _, [], _ :: _, h, _ => by simp [lt] at h
  | x :: xs, y :: ys, z :: zs, h, h' => by
    simp only [lt] at h h' ⊢
    by_cases h1 : x < y
    · by_cases h2 : y < z
      · rw [if_pos (by omega)]
      · rw [if_neg h2] at h'
        by_cases h3 : z < y
        · rw [if_pos h3] at h'; cases h'
        · rw [if_pos (by omega)]
    · rw [if_neg h1] at h
      by_cases h2 : y < x
      · rw [if_pos h2] at h; cases h
      · rw [if_neg h2] at h
        by_cases h3 : y < z
        · rw [if_pos (by omega)]
        · rw [if_neg h3] at h'
          by_cases h4 : z < y
          · rw [if_pos h4] at h'; cases h'
          · rw [if_neg h4] at h'
            rw [if_neg (by omega), if_neg (by omega)]
            exact lt_trans h h'
theorem lt_irrefl (a : List Int) : lt a a = false := by rcases cmp_cases a a with ⟨_, _, h, _⟩ | ⟨_, h, _⟩ | ⟨_, h, _⟩ <;> exact h
theorem lt_asymm {a b : List Int} (h : lt a b = true) : lt b a = false := by rcases cmp_cases a b with ⟨_, _, h3, _⟩ | ⟨_, h2, _⟩ | ⟨_, h2, _⟩ <;> simp_all
theorem lt_total {a b : List Int} (h : lt a b = false) (hne : a ≠ b) : lt b a = true := by rcases cmp_cases a b with ⟨_, h2, _⟩ | ⟨_, _, _, h4⟩ | ⟨_, _, h3, _⟩ <;> simp_all
def rints (r : Rep.Rpt) : List Int := Rep.msg r ++ ([r.sig.e, r.sig.s] ++ r.ents.flatMap Rep.eints)
theorem eints_inj {a b : SEntry} (h : Rep.eints a = Rep.eints b) : a = b := by
  obtain ⟨a1, a2, a3, a4, a5, a6, a7, ⟨a8, a9⟩, a10, a11, a12⟩ := a
  obtain ⟨b1, b2, b3, b4, b5, b6, b7, ⟨b8, b9⟩, b10, b11, b12⟩ := b
  simp only [Rep.eints, List.cons.injEq, and_true] at h
  obtain ⟨rfl, rfl, rfl, rfl, rfl, rfl, rfl, rfl, rfl, rfl, rfl, rfl⟩ := h
  rfl
theorem flat_inj : ∀ {l m : List SEntry}, l.flatMap Rep.eints = m.flatMap Rep.eints → l = m
  | [], [], _ => rfl
  | [], _ :: _, h => by simp [Rep.eints] at h
  | _ :: _, [], h => by simp [Rep.eints] at h
  | a :: l, b :: m, h => by
    simp only [List.flatMap_cons] at h
    obtain ⟨h1, h2⟩ := List.append_inj h rfl
    rw [eints_inj h1, flat_inj h2]
theorem dig_inj {a b : BitVec 64} (h1 : Rep.hi a = Rep.hi b) (h2 : Rep.lo a = Rep.lo b) : a = b := by
  apply BitVec.eq_of_toNat_eq
  unfold Rep.hi at h1
  unfold Rep.lo at h2
  omega
theorem rints_inj {a b : Rep.Rpt} (h : rints a = rints b) : a = b := by
  obtain ⟨a1, a2, a3, a4, a5, ⟨a6, a7⟩⟩ := a
  obtain ⟨b1, b2, b3, b4, b5, ⟨b6, b7⟩⟩ := b
  unfold rints Rep.msg at h
  simp only [List.cons_append, List.nil_append, List.cons.injEq] at h
  obtain ⟨rfl, rfl, _, h4, h5, h6, h7, rfl, rfl, h10⟩ := h
  obtain rfl := flat_inj h10
  obtain rfl := dig_inj h4 h5
  obtain rfl := dig_inj h6 h7
  rfl
def less (a b : Rep.Rpt) : Bool := lt (rints a) (rints b)
theorem less_trans {a b c : Rep.Rpt} (h : less a b = true) (h' : less b c = true) : less a c = true := lt_trans h h'
theorem less_irrefl (a : Rep.Rpt) : less a a = false := lt_irrefl _
theorem less_total {a b : Rep.Rpt} (h : less a b = false) (hne : a ≠ b) : less b a = true := lt_total h fun e => hne (rints_inj e)
theorem less_ne {a b : Rep.Rpt} (h : less a b = true) : a ≠ b := fun e => by rw [e, less_irrefl] at h; cases h
theorem less_asymm {a b : Rep.Rpt} (h : less a b = true) : less b a = false := lt_asymm h
def Sorted (l : List Rep.Rpt) : Prop := l.Pairwise fun a b => less a b = true
theorem Sorted.ext : ∀ {a b : List Rep.Rpt}, Sorted a → Sorted b → (∀ x, x ∈ a ↔ x ∈ b) → a = b
  | [], [], _, _, _ => rfl
  | [], y :: b, _, _, h => by have := (h y).2 (by simp); simp at this
  | x :: a, [], _, _, h => by have := (h x).1 (by simp); simp at this
  | x :: a, y :: b, ha, hb, h => by
    obtain ⟨ha1, ha2⟩ := List.pairwise_cons.1 ha
    obtain ⟨hb1, hb2⟩ := List.pairwise_cons.1 hb
    have hxy : x = y := by
      rcases List.mem_cons.1 ((h x).1 (by simp)) with e | e
      · exact e
      · rcases List.mem_cons.1 ((h y).2 (by simp)) with e' | e'
        · exact e'.symm
        · have h1 := hb1 x e
          have h2 := ha1 y e'
          rw [less_asymm h1] at h2; cases h2
    subst hxy
    congr 1
    refine Sorted.ext ha2 hb2 fun z => ?_
    have hz := h z
    simp only [List.mem_cons] at hz
    constructor
    · intro hm
      rcases hz.1 (.inr hm) with e | e
      · exact absurd e.symm (less_ne (ha1 z hm))
      · exact e
    · intro hm
      rcases hz.2 (.inr hm) with e | e
      · exact absurd e.symm (less_ne (hb1 z hm))
      · exact e
theorem sorted_iff {l : List Rep.Rpt} : Sorted l ↔ ∀ i (h : i + 1 < l.length), less l[i] l[i + 1] = true := by
  induction l with
  | nil => simp [Sorted]
  | cons x l ih =>
    unfold Sorted at ih ⊢
    rw [List.pairwise_cons, ih]
    constructor
    · rintro ⟨h1, h2⟩ i hi
      cases i with
      | zero => exact h1 _ (List.getElem_mem _)
      | succ i => exact h2 i (by simpa using hi)
    · intro h
      have h2 : ∀ i (h : i + 1 < l.length), less l[i] l[i + 1] = true := fun i hi => h (i + 1) (by simpa using hi)
      refine ⟨fun y hy => ?_, h2⟩
      cases l with
      | nil => simp at hy
      | cons z l =>
        have h0 : less x z = true := h 0 (by simp)
        rcases List.mem_cons.1 hy with e | e
        · rw [e]; exact h0
        · exact less_trans h0 ((List.pairwise_cons.1 (ih.2 h2)).1 y e)
open Classical in
noncomputable def put : List Rep.Rpt → Rep.Rpt → List Rep.Rpt
  | [], r => [r]
  | x :: l, r => if x = r then x :: l else if less r x = true then r :: x :: l else x :: put l r
theorem mem_put : ∀ {l : List Rep.Rpt} {r x : Rep.Rpt}, x ∈ put l r ↔ x ∈ l ∨ x = r
  | [], r, x => by simp [put]
  | y :: l, r, x => by
    unfold put
    split
    · rename_i h; subst h; simp only [List.mem_cons]; exact ⟨.inl, fun h => h.elim id .inl⟩
    · split
      · simp only [List.mem_cons]; exact ⟨fun h => h.elim .inr .inl, fun h => h.elim .inr .inl⟩
      · simp only [List.mem_cons, mem_put, or_assoc]
theorem Sorted.put : ∀ {l : List Rep.Rpt} {r : Rep.Rpt}, Sorted l → Sorted (put l r)
  | [], r, _ => by simp [Msh.put, Sorted]
  | y :: l, r, h => by
    obtain ⟨h1, h2⟩ := List.pairwise_cons.1 h
    unfold Msh.put
    split
    · exact h
    · rename_i hne
      split
      · rename_i hl
        refine List.pairwise_cons.2 ⟨fun z hz => ?_, h⟩
        rcases List.mem_cons.1 hz with e | e
        · rw [e]; exact hl
        · exact less_trans hl (h1 z e)
      · rename_i hl
        refine List.pairwise_cons.2 ⟨fun z hz => ?_, Sorted.put h2⟩
        rcases mem_put.1 hz with e | e
        · exact h1 z e
        · rw [e]; exact less_total (by simpa using hl) (Ne.symm hne)
theorem put_there {l : List Rep.Rpt} {r : Rep.Rpt} (h : Sorted l) (hm : r ∈ l) : put l r = l := h.put.ext h fun x => by
  rw [mem_put]; exact ⟨fun hh => hh.elim id fun e => by rw [e]; exact hm, .inl⟩
theorem put_le : ∀ {l : List Rep.Rpt} {r : Rep.Rpt}, l.length ≤ (put l r).length ∧ (put l r).length ≤ l.length + 1
  | [], r => by simp [put]
  | y :: l, r => by
    unfold put
    split
    · simp
    · split
      · simp
      · have := put_le (l := l) (r := r); simp only [List.length_cons]; omega
noncomputable def merge (a b : List Rep.Rpt) : List Rep.Rpt := b.foldl put a
theorem mem_merge {a b : List Rep.Rpt} {x : Rep.Rpt} : x ∈ merge a b ↔ x ∈ a ∨ x ∈ b := by
  unfold merge
  induction b generalizing a with
  | nil => simp
  | cons y b ih => rw [List.foldl_cons, ih, mem_put, List.mem_cons, or_assoc]
theorem Sorted.merge {a b : List Rep.Rpt} (h : Sorted a) : Sorted (merge a b) := by
  unfold Msh.merge
  induction b generalizing a with
  | nil => exact h
  | cons y b ih => exact ih h.put
def off (r : Rep.Rpt) : Nat := (r.first - 1).toNat
def Fits (v : Int) (k : List SEntry) (r : Rep.Rpt) : Prop := r.veh = v ∧ off r ≤ k.length ∧ k.length < off r + r.ents.length ∧ r.before = Rep.carry (Rep.begin v) (k.take (off r)) ∧
  k.drop (off r) = r.ents.take (k.length - off r) ∧ (k.length = 0 ∨ (Rep.el k (k.length - 1)).time ≤ (Rep.el r.ents (k.length - off r)).time)
open Classical in
noncomputable def fits (v : Int) (k : List SEntry) (r : Rep.Rpt) : Bool := decide (Fits v k r)
theorem fits_iff {v : Int} {k : List SEntry} {r : Rep.Rpt} : fits v k r = true ↔ Fits v k r := @decide_eq_true_iff (Fits v k r) (Classical.propDecidable _)
def grown (k : List SEntry) (r : Rep.Rpt) : List SEntry := k ++ r.ents.drop (k.length - off r)
inductive Grows (v : Int) (l : List Rep.Rpt) : List SEntry → List SEntry → Prop
  | stop {k} : l.find? (fits v k) = none → Grows v l k k
  | step {k r m} : l.find? (fits v k) = some r → Grows v l (grown k r) m → Grows v l k m
theorem grown_len {v : Int} {k : List SEntry} {r : Rep.Rpt} (h : Fits v k r) : (grown k r).length = off r + r.ents.length := by
  obtain ⟨_, h2, h3, _⟩ := h
  unfold grown
  rw [List.length_append, List.length_drop]; omega
theorem grown_gt {v : Int} {k : List SEntry} {r : Rep.Rpt} (h : Fits v k r) : k.length < (grown k r).length := by rw [grown_len h]; exact h.2.2.1
theorem Grows.det {v : Int} {l : List Rep.Rpt} {k m m' : List SEntry} (h : Grows v l k m) (h' : Grows v l k m') : m = m' := by
  induction h with
  | stop hn => cases h' with
    | stop _ => rfl
    | step hs _ => rw [hn] at hs; cases hs
  | step hs _ ih => cases h' with
    | stop hn => rw [hn] at hs; cases hs
    | step hs' h2 => rw [hs] at hs'; cases hs'; exact ih h2
def bound (l : List Rep.Rpt) : Nat := l.foldr (fun r n => off r + r.ents.length + n) 0
theorem bound_le {l : List Rep.Rpt} {r : Rep.Rpt} (h : r ∈ l) : off r + r.ents.length ≤ bound l := by
  induction l with
  | nil => cases h
  | cons x l ih =>
    unfold bound at ih ⊢
    rw [List.foldr_cons]
    rcases List.mem_cons.1 h with e | e
    · rw [e]; omega
    · have := ih e; omega
theorem Grows.total (v : Int) (l : List Rep.Rpt) : ∀ (n : Nat) (k : List SEntry), bound l - k.length ≤ n → ∃ m, Grows v l k m := by
  intro n
  induction n with
  | zero =>
    intro k hk
    cases hf : l.find? (fits v k) with
    | none => exact ⟨k, .stop hf⟩
    | some r =>
      have h1 := fits_iff.1 (List.find?_some hf)
      have := bound_le (List.mem_of_find?_eq_some hf)
      have := h1.2.2.1
      omega
  | succ n ih =>
    intro k hk
    cases hf : l.find? (fits v k) with
    | none => exact ⟨k, .stop hf⟩
    | some r =>
      have h1 := fits_iff.1 (List.find?_some hf)
      have h2 := bound_le (List.mem_of_find?_eq_some hf)
      have h3 := h1.2.2.1
      obtain ⟨m, hm⟩ := ih (grown k r) (by rw [grown_len h1]; omega)
      exact ⟨m, .step hf hm⟩
noncomputable def known (v : Int) (l : List Rep.Rpt) : List SEntry := Classical.choose (Grows.total v l (bound l) [] (by simp))
theorem known_grows (v : Int) (l : List Rep.Rpt) : Grows v l [] (known v l) := Classical.choose_spec (Grows.total v l (bound l) [] (by simp))
theorem known_eq {v : Int} {l : List Rep.Rpt} {m : List SEntry} (h : Grows v l [] m) : m = known v l := h.det (known_grows v l)
theorem Grows.len {v : Int} {l : List Rep.Rpt} {k m : List SEntry} (h : Grows v l k m) : k.length ≤ m.length := by
  induction h with
  | stop _ => exact Nat.le_refl _
  | step hs _ ih => exact Nat.le_trans (Nat.le_of_lt (grown_gt (fits_iff.1 (List.find?_some hs)))) ih
theorem first_of {r : Rep.Rpt} (h : Rep.okR r = true) (hf : I64 r.first) : 1 ≤ r.first ∧ 0 < r.ents.length ∧ r.first - 1 + r.ents.length ≤ 2000 ∧ Rep.follows r.ents r.first = true := by
  unfold Rep.okR at h
  simp only [Bool.and_eq_true, decide_eq_true_eq] at h
  obtain ⟨_, h1, h2⟩ := h
  obtain ⟨h3, h4⟩ := Rep.follows_iff.1 h2
  unfold I64 at hf
  have g0 := Rep.good_iff.1 (h4 0 h1)
  have gl := Rep.good_iff.1 (h4 (r.ents.length - 1) (by omega))
  have b0 := (of_decide_eq_true (show decide (Rep.Formed _) = true from g0.1)).1
  have bl := (of_decide_eq_true (show decide (Rep.Formed _) = true from gl.1)).1
  have e0 := g0.2.1
  have el := gl.2.1
  have w0 : IntKind.i64.wrap (r.first + ((0 : Nat) : Int)) = r.first := by rw [show r.first + ((0 : Nat) : Int) = r.first by omega]; exact i64_wrap (by omega) (by omega)
  rw [w0] at e0
  have wl := i64_wrap (x := r.first + ((r.ents.length - 1 : Nat) : Int)) (by omega) (by omega)
  rw [wl] at el
  exact ⟨by omega, h1, by omega, h2⟩
theorem fits_follows {v : Int} {k : List SEntry} {r : Rep.Rpt} (hk : Rep.follows k 1 = true) (hr : Rep.okR r = true) (hf : I64 r.first) (h : Fits v k r) : Rep.follows (grown k r) 1 = true := by
  obtain ⟨f1, f2, f3, f4⟩ := first_of hr hf
  have hL := grown_len h
  have ho : (off r : Int) = r.first - 1 := by unfold off; omega
  obtain ⟨_, h2, h3, _, h5, h6⟩ := h
  rw [Rep.follows_iff] at hk f4 ⊢
  refine ⟨by omega, fun i hi => ?_⟩
  rw [hL] at hi
  have e1 : ∀ j, j < k.length → Rep.el (grown k r) j = Rep.el k j := fun j hj => by simp only [Rep.el, grown, List.getElem?_append_left hj]
  have e2 : ∀ j, k.length ≤ j → Rep.el (grown k r) j = Rep.el r.ents (j - off r) := fun j hj => by
    simp only [Rep.el, grown, List.getElem?_append_right hj, List.getElem?_drop]
    rw [show k.length - off r + (j - k.length) = j - off r by omega]
  rw [Rep.good_iff]
  by_cases hik : i < k.length
  · have hg := Rep.good_iff.1 (hk.2 i hik)
    rw [e1 i hik]
    exact ⟨hg.1, hg.2.1, fun h0 => by rw [e1 (i - 1) (by omega)]; exact hg.2.2 h0⟩
  · have hg := Rep.good_iff.1 (f4.2 (i - off r) (by omega))
    rw [e2 i (by omega)]
    refine ⟨hg.1, ?_, fun h0 => ?_⟩
    · rw [hg.2.1]
      congr 1
      omega
    · by_cases hi1 : i - 1 < k.length
      · rw [e1 (i - 1) hi1]
        have hik' : i = k.length := by omega
        subst hik'
        rcases h6 with h6 | h6
        · omega
        · exact h6
      · rw [e2 (i - 1) (by omega), show i - 1 - off r = i - off r - 1 by omega]
        exact hg.2.2 (by omega)
theorem Grows.follows {v : Int} {l : List Rep.Rpt} {k m : List SEntry} (hl : ∀ r ∈ l, Rep.okR r = true ∧ I64 r.first) (h : Grows v l k m) (hk : Rep.follows k 1 = true) : Rep.follows m 1 = true := by
  induction h with
  | stop _ => exact hk
  | step hs _ ih =>
    obtain ⟨h1, h2⟩ := hl _ (List.mem_of_find?_eq_some hs)
    exact ih (fits_follows hk h1 h2 (fits_iff.1 (List.find?_some hs)))
theorem known_follows {v : Int} {l : List Rep.Rpt} (hl : ∀ r ∈ l, Rep.okR r = true ∧ I64 r.first) : Rep.follows (known v l) 1 = true := (known_grows v l).follows hl (by rfl)
def Part (L : List SEntry) (v : Int) (r : Rep.Rpt) : Prop := off r < off r + r.ents.length ∧ off r + r.ents.length ≤ L.length ∧ r.ents = (L.take (off r + r.ents.length)).drop (off r) ∧ r.before = Rep.carry (Rep.begin v) (L.take (off r))
def Cov (l : List Rep.Rpt) (v : Int) (j : Nat) : Prop := ∃ r ∈ l, r.veh = v ∧ off r ≤ j ∧ j < off r + r.ents.length
theorem part_fits {L : List SEntry} {v : Int} {r : Rep.Rpt} {a : Nat} (hL : Rep.follows L 1 = true) (ha : a ≤ L.length) (h : Part L v r) (hv : r.veh = v) : Fits v (L.take a) r ↔ off r ≤ a ∧ a < off r + r.ents.length := by
  obtain ⟨_, h2, h3, h4⟩ := h
  have hla : (L.take a).length = a := by rw [List.length_take]; omega
  unfold Fits
  rw [hla]
  constructor
  · rintro ⟨_, h5, h6, _⟩; exact ⟨h5, h6⟩
  · rintro ⟨h5, h6⟩
    refine ⟨hv, h5, h6, by rw [h4, List.take_take, Nat.min_eq_left h5], ?_, ?_⟩
    · rw [h3, List.drop_take, List.drop_take, List.take_take]
      congr 1
      omega
    · by_cases h0 : a = 0
      · exact .inl h0
      · right
        have hg := Rep.good_iff.1 ((Rep.follows_iff.1 hL).2 a (by omega))
        have e1 : Rep.el (L.take a) (a - 1) = Rep.el L (a - 1) := Rep.el_take (by omega)
        have e2 : Rep.el r.ents (a - off r) = Rep.el L a := by
          rw [h3, Rep.el_part (by omega), show off r + (a - off r) = a by omega]
        rw [e1, e2]
        exact hg.2.2 (by omega)
theorem part_grown {L : List SEntry} {v : Int} {r : Rep.Rpt} {a : Nat} (ha : a ≤ L.length) (h : Part L v r) (h5 : off r ≤ a) (h6 : a < off r + r.ents.length) : grown (L.take a) r = L.take (off r + r.ents.length) := by
  obtain ⟨_, h2, h3, _⟩ := h
  have hla : (L.take a).length = a := by rw [List.length_take]; omega
  unfold grown
  have hlen : (L.take (off r + r.ents.length)).length = off r + r.ents.length := by rw [List.length_take]; omega
  rw [hla]
  generalize hn : off r + r.ents.length = n at *
  rw [h3, List.drop_drop, show off r + (a - off r) = a by omega]
  have : L.take a = (L.take n).take a := by rw [List.take_take, Nat.min_eq_left (by omega)]
  rw [this, List.take_append_drop]
theorem Grows.part {L : List SEntry} {v : Int} {l : List Rep.Rpt} (hL : Rep.follows L 1 = true) (hl : ∀ r ∈ l, r.veh = v → Part L v r) {k m : List SEntry} (h : Grows v l k m) : ∀ a, k = L.take a → a ≤ L.length → (∀ j, j < a → Cov l v j) → ∃ n, n ≤ L.length ∧ m = L.take n ∧ (∀ j, j < n → Cov l v j) ∧ ¬ Cov l v n := by
  induction h with
  | stop hn =>
    intro a hk ha hc
    refine ⟨a, ha, hk, hc, ?_⟩
    rintro ⟨r, hr, hv, h1, h2⟩
    have := List.find?_eq_none.1 hn r hr
    rw [hk] at this
    exact this (fits_iff.2 ((part_fits hL ha (hl r hr hv) hv).2 ⟨h1, h2⟩))
  | step hs _ ih =>
    rename_i k0 r0 m0 _
    intro a hk ha hc
    have hm := List.mem_of_find?_eq_some hs
    have hF := fits_iff.1 (List.find?_some hs)
    have hv := hF.1
    have hP := hl _ hm hv
    rw [hk] at hF
    obtain ⟨h1, h2⟩ := (part_fits hL ha hP hv).1 hF
    refine ih (off r0 + r0.ents.length) (by rw [hk]; exact part_grown ha hP h1 h2) hP.2.1 fun j hj => ?_
    by_cases hja : j < a
    · exact hc j hja
    · exact ⟨r0, hm, hv, by omega, hj⟩
theorem known_part {L : List SEntry} {v : Int} {l : List Rep.Rpt} (hL : Rep.follows L 1 = true) (hl : ∀ r ∈ l, r.veh = v → Part L v r) : ∃ n, n ≤ L.length ∧ known v l = L.take n ∧ (∀ j, j < n → Cov l v j) ∧ ¬ Cov l v n :=
  (known_grows v l).part hL hl 0 (by simp) (by omega) (by intro j hj; omega)
end Msh
end Go.Proofs.YtohmledhhgdgaaaGreatDoor
