/- The plain law of the journal: records and their integers, what is loaded. No program in sight. -/
import Derived.Test.YtahplhcijlgelaaStr1
import Derived.Test.YtahplhcijlgelaaCod2
namespace Go.Proofs.Ytahplhcijlgelaa
set_option maxRecDepth 100000
namespace Jou
def form (r : SRecord) : Bool :=
  if r.kind = 1 then decide (1 ≤ r.entry.seq) && (decide (r.entry.seq ≤ 2000) && (decide (r.seq = 0) && decide (r.chain = 0#64)))
  else decide (r.kind = 2) && (decide (0 ≤ r.seq) && (decide (r.seq ≤ 2000) && decide (r.entry = SEntry.zero)))
def eints (e : SEntry) : List Int := [e.seq, e.time, e.kind, e.sensor, e.ref, e.a, e.n, e.value.lo, e.value.hi, e.temp, e.age, e.since]
def ints (r : SRecord) : List Int :=
  if r.kind = 2 then [r.kind, r.seq, ((r.chain.toNat / 4294967296 : Nat) : Int), ((r.chain.toNat % 4294967296 : Nat) : Int)]
  else r.kind :: eints r.entry
def isHalf (n : Int) : Bool := decide (0 ≤ n) && decide (n < 4294967296)
def chainOf (h l : Int) : BitVec 64 := BitVec.ofNat 64 (h.toNat * 4294967296 + l.toNat)
def entRec (k s t kd se rf a n lo hi te ag si : Int) : SRecord := ⟨k, ⟨s, t, kd, se, rf, a, n, ⟨lo, hi⟩, te, ag, si⟩, 0, 0⟩
def chkRec (k s h l : Int) : SRecord := ⟨k, SEntry.zero, s, chainOf h l⟩
/-- What integers are as a record. -/
def raw (l : List Int) : Option SRecord :=
  match l with
  | [k, s, h, c] => if k = 2 ∧ isHalf h = true ∧ isHalf c = true then some (chkRec k s h c) else none
  | [k, s, t, kd, se, rf, a, n, lo, hi, te, ag, si] => if k = 2 then none else some (entRec k s t kd se rf a n lo hi te ag si)
  | _ => none
def rec_ (l : List Int) : Option SRecord := (raw l).bind fun r => if form r = true then some r else none
theorem rec_form {l : List Int} {r : SRecord} (h : rec_ l = some r) : form r = true := by
  unfold rec_ at h
  cases hr : raw l with
  | none => rw [hr] at h; cases h
  | some r' =>
    rw [hr, Option.bind_some] at h
    split at h
    · cases h; assumption
    · cases h
theorem chain_of (c : BitVec 64) : chainOf ((c.toNat / 4294967296 : Nat) : Int) ((c.toNat % 4294967296 : Nat) : Int) = c := by
  unfold chainOf
  apply BitVec.eq_of_toNat_eq
  have := c.isLt
  rw [BitVec.toNat_ofNat]; omega
theorem rec_ints {r : SRecord} (h : form r = true) : rec_ (ints r) = some r := by
  obtain ⟨k, e, s, c⟩ := r
  have hf := h
  unfold form at h
  by_cases hk : k = 1
  · subst hk
    simp only [if_true, Bool.and_eq_true, decide_eq_true_eq] at h
    obtain ⟨h1, h2, h3, h4⟩ := h
    subst h3; subst h4
    obtain ⟨e1, e2, e3, e4, e5, e6, e7, ⟨e8, e9⟩, e10, e11, e12⟩ := e
    simp only [rec_, ints, eints, raw, show ¬ (1 : Int) = 2 by decide, if_false, entRec, Option.bind_some]
    exact if_pos hf
  · simp only [if_neg hk, Bool.and_eq_true, decide_eq_true_eq] at h
    obtain ⟨h1, h2, h3, h4⟩ := h
    subst h1; subst h4
    have hc := c.isLt
    have b1 : isHalf ((c.toNat / 4294967296 : Nat) : Int) = true := by simp only [isHalf, Bool.and_eq_true, decide_eq_true_eq]; omega
    have b2 : isHalf ((c.toNat % 4294967296 : Nat) : Int) = true := by simp only [isHalf, Bool.and_eq_true, decide_eq_true_eq]; omega
    simp only [rec_, ints, raw, if_true, b1, b2, and_self, chkRec, chain_of, Option.bind_some]
    exact if_pos hf
theorem ints_rec {l : List Int} {r : SRecord} (h : rec_ l = some r) : ints r = l := by
  have hf := rec_form h
  unfold rec_ at h
  cases hr : raw l with
  | none => rw [hr] at h; cases h
  | some r' =>
    rw [hr, Option.bind_some] at h
    split at h
    · cases h
      unfold raw at hr
      split at hr
      · rename_i k s hh c
        split at hr
        · rename_i hc
          obtain ⟨rfl, b1, b2⟩ := hc
          simp only [Option.some.injEq] at hr
          subst hr
          simp only [isHalf, Bool.and_eq_true, decide_eq_true_eq] at b1 b2
          simp only [ints, chkRec, if_true, chainOf, BitVec.toNat_ofNat]
          congr 2
          have e1 : (hh.toNat * 4294967296 + c.toNat) % 2 ^ 64 = hh.toNat * 4294967296 + c.toNat := Nat.mod_eq_of_lt (by omega)
          rw [e1]
          congr 1
          · omega
          · congr 1; omega
        · cases hr
      · rename_i k s t kd se rf a n lo hi te ag si
        split at hr
        · cases hr
        · rename_i hk
          simp only [Option.some.injEq] at hr
          subst hr
          simp only [ints, entRec, eints]
          exact if_neg hk
      · cases hr
    · cases h
/-- integers of a record fit -/
theorem ints_ok {r : SRecord} (h : r.Ok) : ∀ n ∈ ints r, I64 n := by
  obtain ⟨k, e, s, c⟩ := r
  obtain ⟨e1, e2, e3, e4, e5, e6, e7, ⟨e8, e9⟩, e10, e11, e12⟩ := e
  simp only [SRecord.Ok, SEntry.Ok, SSpan.Ok] at h
  obtain ⟨h1, ⟨g1, g2, g3, g4, g5, g6, g7, ⟨g8, g9⟩, g10, g11, g12⟩, h3, _⟩ := h
  have hc := c.isLt
  intro n hn
  unfold ints at hn
  split at hn
  · simp only [List.mem_cons, List.not_mem_nil, or_false] at hn
    rcases hn with rfl | rfl | rfl | rfl
    · exact h1
    · exact h3
    · unfold I64; omega
    · unfold I64; omega
  · simp only [eints, List.mem_cons, List.not_mem_nil, or_false] at hn
    rcases hn with rfl | rfl | rfl | rfl | rfl | rfl | rfl | rfl | rfl | rfl | rfl | rfl | rfl <;> assumption
theorem ints_len (r : SRecord) : 0 < (ints r).length ∧ (ints r).length ≤ 13 := by unfold ints; split <;> simp [eints]
theorem rec_ok {l : List Int} (hl : ∀ n ∈ l, I64 n) {r : SRecord} (h : rec_ l = some r) : r.Ok := by
  unfold rec_ at h
  cases hr : raw l with
  | none => rw [hr] at h; cases h
  | some r' =>
    rw [hr, Option.bind_some] at h
    split at h
    · cases h
      unfold raw at hr
      split at hr
      · rename_i k s hh c
        split at hr
        · simp only [Option.some.injEq] at hr
          subst hr
          exact ⟨hl k (by simp), by simp [chkRec, SEntry.zero, SEntry.Ok, SSpan.Ok, I64], hl s (by simp), trivial⟩
        · cases hr
      · rename_i k s t kd se rf a n lo hi te ag si
        split at hr
        · cases hr
        · simp only [Option.some.injEq] at hr
          subst hr
          exact ⟨hl k (by simp), ⟨hl s (by simp), hl t (by simp), hl kd (by simp), hl se (by simp), hl rf (by simp), hl a (by simp), hl n (by simp), ⟨hl lo (by simp), hl hi (by simp)⟩, hl te (by simp), hl ag (by simp), hl si (by simp)⟩, by simp [entRec, I64], trivial⟩
      · cases hr
    · cases h
def frameOf (r : SRecord) : List UInt8 := Cod.frame (ints r)
def loadL : List (List Int) → List SRecord × Nat
  | [] => ([], 0)
  | l :: ls => match rec_ l with
    | none => ([], 0)
    | some r => (r :: (loadL ls).1, (Cod.frame l).length + (loadL ls).2)
def load (b : List UInt8) : List SRecord × Nat := loadL (Cod.frames b).1
def bytes (rs : List SRecord) : List UInt8 := Cod.all (rs.map ints)
theorem loadL_append : ∀ {rs : List SRecord} {ls : List (List Int)}, (∀ r ∈ rs, form r = true) → loadL (rs.map ints ++ ls) = (rs ++ (loadL ls).1, (bytes rs).length + (loadL ls).2)
  | [], ls, _ => by simp [bytes, Cod.all]
  | r :: rs, ls, h => by
    have ih := loadL_append (rs := rs) (ls := ls) fun r hr => h r (by simp [hr])
    simp only [List.map_cons, List.cons_append, loadL, rec_ints (h r (by simp)), ih]
    simp [bytes, Cod.all]; omega
theorem fits {rs : List SRecord} (h : ∀ r ∈ rs, r.Ok) : Cod.Fits (rs.map ints) := fun l hl => by
  obtain ⟨r, hr, rfl⟩ := List.mem_map.1 hl
  exact ⟨ints_ok (h r hr), by have := (ints_len r).2; omega⟩
/-- What was put is loaded, and then what follows. -/
theorem load_bytes {rs : List SRecord} (hf : ∀ r ∈ rs, form r = true) (ho : ∀ r ∈ rs, r.Ok) (rest : List UInt8) : load (bytes rs ++ rest) = (rs ++ (load rest).1, (bytes rs).length + (load rest).2) := by
  unfold load
  rw [show bytes rs = Cod.all (rs.map ints) from rfl, Cod.frames_all (fits ho)]
  exact loadL_append hf
theorem load_nil : load [] = ([], 0) := by unfold load; rw [Cod.frames_none Cod.whole_nil]; rfl
theorem load_all {rs : List SRecord} (hf : ∀ r ∈ rs, form r = true) (ho : ∀ r ∈ rs, r.Ok) : load (bytes rs) = (rs, (bytes rs).length) := by
  have := load_bytes hf ho []
  rw [List.append_nil, load_nil] at this
  simpa using this
theorem bytes_nil : bytes [] = [] := rfl
theorem bytes_snoc (rs : List SRecord) (r : SRecord) : bytes (rs ++ [r]) = bytes rs ++ frameOf r := by simp [bytes, Cod.all, frameOf]
theorem bytes_append (a b : List SRecord) : bytes (a ++ b) = bytes a ++ bytes b := by simp [bytes, Cod.all]
theorem load_torn {rs : List SRecord} (hf : ∀ r ∈ rs, form r = true) (ho : ∀ r ∈ rs, r.Ok) {k at_ : Nat} (h1 : (bytes (rs.take k)).length ≤ at_) (h2 : k < rs.length → at_ < (bytes (rs.take (k + 1))).length) :
    load ((bytes rs).take at_) = (rs.take k, (bytes (rs.take k)).length) := by
  unfold load
  have e := Cod.frames_torn (ls := rs.map ints) (fits ho) (k := k) (at_ := at_) (by rw [← List.map_take]; exact h1) (by rw [List.length_map, ← List.map_take]; exact h2)
  rw [show bytes rs = Cod.all (rs.map ints) from rfl, e, ← List.map_take]
  have := loadL_append (rs := rs.take k) (ls := []) fun r hr => hf r (List.mem_of_mem_take hr)
  simpa [loadL] using this
theorem load_changed {rs : List SRecord} {r : SRecord} (hf : ∀ r ∈ rs, form r = true) (ho : ∀ r ∈ rs, r.Ok) (hr : r.Ok) {i : Nat} {c : UInt8} (h3 : 3 ≤ i) (hi : i < (frameOf r).length) (hc : c ≠ (frameOf r)[i]) :
    load ((bytes rs ++ frameOf r).set ((bytes rs).length + i) c) = (rs, (bytes rs).length) := by
  unfold load
  have hl := (ints_len r).2
  rw [show bytes rs = Cod.all (rs.map ints) from rfl, show frameOf r = Cod.frame (ints r) from rfl, Cod.frames_changed (fits ho) (ints_ok hr) (by omega) h3 hi hc]
  have := loadL_append (rs := rs) (ls := []) hf
  simpa [loadL, bytes] using this
/-- What is loaded is what the bytes begin with. -/
theorem loadL_size : ∀ (ls : List (List Int)), (∀ l ∈ ls, ∀ n ∈ l, I64 n) → (∀ r ∈ (loadL ls).1, form r = true ∧ r.Ok) ∧ (loadL ls).1.length ≤ ls.length ∧ (loadL ls).1.map ints = ls.take (loadL ls).1.length ∧ (loadL ls).2 = (bytes (loadL ls).1).length
  | [], _ => by simp [loadL, bytes, Cod.all]
  | l :: ls, h => by
    simp only [loadL]
    cases hr : rec_ l with
    | none => simp [bytes, Cod.all]
    | some r =>
      obtain ⟨h1, h2, h3, h4⟩ := loadL_size ls fun l hl => h l (by simp [hl])
      refine ⟨fun r' hr' => ?_, by simp only [List.length_cons]; omega, ?_, ?_⟩
      · rcases List.mem_cons.1 hr' with rfl | hr'
        · exact ⟨rec_form hr, rec_ok (h l (by simp)) hr⟩
        · exact h1 r' hr'
      · simp only [List.map_cons, List.length_cons, List.take_succ_cons, h3, ints_rec hr]
      · simp only [h4]
        simp [bytes, Cod.all, ints_rec hr]
/-- entries of records, in order -/
def keptL (out : List SEntry) : List SRecord → Option (List SEntry)
  | [] => some out
  | r :: rs => if r.kind = 1 then (if r.entry.seq = (out.length : Int) + 1 then keptL (out ++ [r.entry]) rs else none) else if r.seq = (out.length : Int) then keptL out rs else none
end Jou
end Go.Proofs.Ytahplhcijlgelaa
