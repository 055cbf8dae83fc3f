/- Short rules: tests, literals, rows of one's own, small numbers. No program in sight. -/
import Derived.Test.YtjinhojlnaplaaaDoorMem
import Derived.Test.YtjinhojlnaplaaaDoorArr
namespace Go.Proofs.YtjinhojlnaplaaaDoor
set_option maxRecDepth 100000
namespace Sh
open Go.RowKit
variable {P : Program} {w : World} {K : Value → World → Prop} {X : List PanicEntry → World → Prop}
theorem Br_i {b : Bool} {A B : Prop} (h1 : b = true → A) (h2 : b = false → B) : Br (.bool b) A B := by
  rw [Br_bool]; cases b <;> simp_all
theorem Gd_i {b want : Bool} {A B : Prop} (h1 : b = want → A) (h2 : b = (!want) → B) : Gd (.bool b) want A B := by
  rw [Gd_bool]; cases b <;> cases want <;> simp_all
theorem dec_t {p : Prop} [Decidable p] (h : decide p = true) : p := of_decide_eq_true h
theorem dec_f {p : Prop} [Decidable p] (h : decide p = false) : ¬ p := of_decide_eq_false h
theorem Sl.length {sz n : Nat} {v : Value} {xs : List Value} (h : Sl w sz v n xs) : xs.length = n * sz := by obtain ⟨_, _, _, _, _, h3, _⟩ := h; exact h3
/-- an empty literal -/
theorem lit0_i {T e : TypeId} {i : TypeInfo} (hT : P.underlying T = some (.slice e)) (hi : P.info? e = some i)
    (hk : ∀ v w1, Ext w w1 → w1.ownsRow w.heap.size e 1 v 0 [] → w1.heap.size = w.heap.size + 1 → K v w1) : DoV P (Instr.buildSlice T 0 #[]) w K X := by
  have e1 : (Instr.buildSlice T 0 #[]).run P w = .ok (.slice (some ⟨w.heap.size, 0, none⟩) 0 0) (w.alloc (.cells #[] e)) := by
    simp [Instr.buildSlice, run_underlying hT, sizeOf, typeInfo, hi, Instr.fill, newRow, newObj, Sem.run]
    rw [show Array.range 0 = #[] by decide]; simp
  rw [DoV_ok e1]
  refine hk _ _ (Ext.alloc _ _) ⟨rfl, .inr ⟨w.heap.size, 0, #[], rfl, Nat.le_refl _, heap_alloc_new w _, Nat.le_refl _, Nat.zero_le _, rfl, rfl⟩⟩ (by simp)
/-- a literal of cells -/
theorem litn_i {T e : TypeId} {i : TypeInfo} {z : Value} {n : Nat} {parts : Array (Nat × Value)} (xs : List Value) (hT : P.underlying T = some (.slice e)) (hi : P.info? e = some i) (hsz : i.size = 1) (hz : i.zero = some z) (h1 : ∀ v ∈ xs, v.cells = #[v]) (hn : xs.length = n) (hpos : 0 < n) (hsm : n ≤ 16777216)
    (hp : parts.toList = (xs.zipIdx 0).map fun x => (x.2, x.1))
    (hk : ∀ v w1, Ext w w1 → w1.ownsRow w.heap.size e 1 v n xs → w1.heap.size = w.heap.size + 1 → K v w1) : DoV P (Instr.buildSlice T n parts) w K X := by
  refine lit_i xs hT hi hsz hz h1 hn hpos hsm hp fun g w1 x1 hat hg hs => ?_
  subst hn
  exact hk _ _ x1 (Own.of_lit hat (by omega) (by simp only [maxLen]; omega)) (by omega)
end Sh
open Sh Go.RowKit
theorem Own.off_own {w : World} {base base' : Nat} {e e' : TypeId} {sz sz' n n' : Nat} {v u : Value} {xs ys : List Value} (h : w.ownsRow base e sz v n xs) (h' : w.ownsRow base' e' sz' u n' ys) (hne : e ≠ e') : Off (fun k => v.ownBlock = some k) u := by
  intro k hk hv
  rcases h.2 with ⟨rfl, _⟩ | ⟨g, cap, cur, rfl, _, hg, _⟩
  · simp [Value.ownBlock] at hv
  · have hgk : g = k := by simpa [Value.ownBlock] using hv
    subst hgk
    exact Own.off_at h' (show At w g (.cells cur e (0, 0)) from hg) (Ne.symm hne) g hk rfl
theorem Sl.cells {w : World} {sz n : Nat} {v : Value} {xs : List Value} (h : Sl w sz v n xs) : v.cells = #[v] := by
  obtain ⟨a, cap, rfl, _⟩ := h; rfl
theorem Sl.one {w : World} {sz n : Nat} {v : Value} {xs : List Value} (h : Sl w sz v n xs) : v.oneCell' = true := by
  obtain ⟨a, cap, rfl, _⟩ := h; rfl
theorem dec_same {α : Type} [DecidableEq α] (a : α) : Value.bool (decide (a = a)) = .bool true := by simp
theorem gd_t {A B : Prop} (h : A) : Gd (.bool true) true A B := Gd_i (fun _ => h) fun h => by cases h
theorem br_f {A B : Prop} (h : B) : Br (.bool false) A B := Br_i (fun h => by cases h) fun _ => h
theorem br_t {A B : Prop} (h : A) : Br (.bool true) A B := Br_i (fun _ => h) fun h => by cases h
theorem gd_f {A B : Prop} (h : A) : Gd (.bool false) false A B := Gd_i (fun _ => h) fun h => by cases h
/-- An element of a row of one's own, written. -/
theorem own_set {P : Program} {w : World} {K : Value → World → Prop} {X : List PanicEntry → World → Prop} {base n : Nat} {T e : TypeId} {v x : Value} {xs : List Value} {i : TypeInfo} {k : IntKind} {j : Nat} (hT : P.underlying T = some (.slice e)) (hi : P.info? e = some i) (hs : i.size = 1) (hes : ∀ w, (sizeOf e).run P w = .ok 1 w)
    (h : w.ownsRow base e 1 v n xs) (hj : j < n) (hx : x.oneCell' = true) (hk : ∀ w1, w1.ownsRow base e 1 v n (xs.set j x) → Mod (fun k => v.ownBlock = some k) w w1 → w1.heap.size = w.heap.size → K undef w1) :
    DoV P (Instr.indexAt T v (.int k j)) w (fun a w1 => DoU P (Instr.storeAt e a x) w1 K X) X := by
  obtain ⟨h1, h2⟩ := h
  rcases h2 with ⟨_, rfl⟩ | ⟨g, cap, cur, rfl, hb, hg, hn, hc, hcs, ht⟩
  · omega
  · have hadd : (⟨g, 0, none⟩ : Addr).add (j * 1) = ⟨g, j, none⟩ := by unfold Addr.add; split <;> simp_all
    rw [DoV_ok (w' := w) (v := .pointer (some ⟨g, j, none⟩)) (by simp [Instr.indexAt, asIntOf, run_underlying hT, sizeOf, typeInfo, hi, hs, hj]; simpa using hadd)]
    refine store_i hes (show At w g (.cells cur e (0, 0)) from hg) (by omega) hx fun w1 m1 hat hsz => hk w1 ⟨by simpa using h1, .inr ⟨g, cap, _, rfl, hb, hat, hn, hc, by simpa using hcs, ?_⟩⟩ (m1.mono fun k _ h => by simp [Value.ownBlock, h]) hsz
    rw [← ht, Array.toList_setIfInBounds, List.take_set]
theorem tmod_nat {a : Int} {n : Nat} (ha : 0 ≤ a) : a.tmod (n : Int) = ((a.toNat % n : Nat) : Int) := by
  rw [Int.tmod_eq_emod_of_nonneg ha, Int.natCast_emod, Int.toNat_of_nonneg ha]
theorem un_neg {P : Program} {w : World} {K : Value → World → Prop} {X : List PanicEntry → World → Prop} {k : IntKind} {n : Int} : DoV P (Op.unary .neg (.int k n)) w K X = K (.int k (k.wrap (-n))) w := DoV_ok (by simp [Op.unary, Op.intArith])
theorem u64w (x : Int) : IntKind.u64.wrap x = x % 18446744073709551616 := by
  simp only [IntKind.wrap, IntKind.signed, IntKind.bits, Bool.false_and]
  rw [if_neg (by decide)]; rfl
theorem u8w (x : Int) : IntKind.u8.wrap x = x % 256 := by
  simp only [IntKind.wrap, IntKind.signed, IntKind.bits, Bool.false_and]
  rw [if_neg (by decide)]; rfl
theorem u8_nat (n : Nat) : IntKind.u8.wrap (n : Int) = ((UInt8.ofNat n).toNat : Int) := by rw [u8w]; simp [UInt8.toNat_ofNat']
theorem ofInt64 {n : Nat} : BitVec.ofInt 64 (n : Int) = BitVec.ofNat 64 n := by simp
theorem byte_or : ∀ x : Fin 256, IntKind.u8.wrap (BitVec.ofInt IntKind.u8.bits (x.val : Int) ||| BitVec.ofInt IntKind.u8.bits 128).toNat = ((x.val % 128 + 128 : Nat) : Int) := by decide +kernel
theorem byte_hi (u : Nat) : IntKind.u8.wrap (BitVec.ofInt IntKind.u8.bits (IntKind.u8.wrap u) ||| BitVec.ofInt IntKind.u8.bits 128).toNat = ((UInt8.ofNat (u % 128 + 128)).toNat : Int) := by
  have h := byte_or ⟨u % 256, by omega⟩
  simp only at h
  rw [u8w u, show ((u : Int) % 256) = ((u % 256 : Nat) : Int) by omega, h, ← u8_nat, u8w]; omega
theorem byte_128 (u : Nat) : IntKind.u8.wrap (IntKind.u8.wrap ((u : Int).tmod 128) + 128) = ((UInt8.ofNat (u % 128 + 128)).toNat : Int) := by
  rw [Int.tmod_eq_emod_of_nonneg (by omega), u8w, u8w]; simp [UInt8.toNat_ofNat']
end Go.Proofs.YtjinhojlnaplaaaDoor
