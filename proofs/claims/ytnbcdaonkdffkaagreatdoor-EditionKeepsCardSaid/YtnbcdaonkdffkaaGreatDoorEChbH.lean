/- The chapter's example of a chart, and what stands at the head of each law. -/
import Derived.Test.YtnbcdaonkdffkaaGreatDoorEChbG
set_option linter.unusedVariables false
set_option linter.unusedSimpArgs false
namespace Go.Proofs.YtnbcdaonkdffkaaGreatDoor
set_option maxRecDepth 100000
set_option maxHeartbeats 16000000
open Sh Go.RowKit
namespace Dig
def frd : Nat → Nat → List UInt8
  | 0, _ => []
  | f + 1, u => if u = 0 then [] else UInt8.ofNat (48 + u % 10) :: frd f (u / 10)
theorem frd_eq : ∀ (f u : Nat), u < 10 ^ f → frd f u = rdig u
  | 0, u, h => by
    have : u = 0 := by simpa using h
    subst this
    rw [frd, rdig_zero]
  | f + 1, u, h => by
    rw [frd]
    by_cases hu : u = 0
    · subst hu; rw [if_pos rfl, rdig_zero]
    · rw [if_neg hu, rdig_pos hu, frd_eq f (u / 10) (by rw [Nat.pow_succ] at h; omega)]
def fitoa (n : Int) : List UInt8 := if n = 0 then [48] else (frd 20 n.natAbs ++ if n < 0 then [45] else []).reverse
def small (n : Int) : Bool := decide (n.natAbs < 100000000000000000000)
theorem fitoa_eq {n : Int} (h : small n = true) : fitoa n = Go.Lib.itoa n := by
  unfold fitoa
  by_cases h0 : n = 0
  · subst h0; rw [if_pos rfl]; unfold Go.Lib.itoa; rw [if_neg (by decide), Go.Lib.decDigits, dif_pos (by decide)]; rfl
  · have h := of_decide_eq_true h
    rw [if_neg h0, itoa_rdig h0, frd_eq 20 _ (by omega)]
def fnext (d : BitVec 64) (l : List Int) : BitVec 64 := text (bytes8 d ++ l.flatMap fun n => fitoa n ++ [32])
theorem fnext_eq {d : BitVec 64} {l : List Int} (h : l.all small = true) : next d l = fnext d l := by
  unfold next fnext texts
  congr 2
  rw [List.all_eq_true] at h
  clear d
  induction l with
  | nil => rfl
  | cons a l ih => rw [List.flatMap_cons, List.flatMap_cons, fitoa_eq (h a (by simp)), ih fun x hx => h x (by simp [hx])]
end Dig
namespace Cha
def noC : Cht := ⟨0, 0, 0, 0, 0, 0, [], [], []⟩
theorem no_good : ¬ GoodC noC := fun h => by have := h.1.1; exact absurd this (by decide)
theorem no_ok : ChartOk noC := ⟨by simp [noC, I64], fun _ h => (by cases h), fun _ h => (by cases h), fun _ h => (by cases h)⟩
end Cha
theorem Ty.SCell_row15 : Tryz.prog.underlying 22 = some (.slice 78) := by kernel_rfl
theorem new_nochart15 : Tryz.prog.built 26 [] = some SChart.zero.cells.toArray := by kernel_rfl
theorem nochart_is (W : World) : ChartIs W SChart.zero Cha.noC := ⟨rfl, rfl, rfl, rfl, rfl, rfl, SCell.row_nil W, SBeacon.row_nil W, ⟨[], SLine.row_nil W, rfl, fun i s l h => by simp at h⟩⟩
theorem chart_new {s : SChart} {w : World} {K : Value → World → Prop} {X1 X2 : List PanicEntry → World → Prop} (hk : ∀ b W, Ext w W → At W b (.cells s.cells.toArray 26 (0, 0)) → w.heap.size ≤ b → K (.pointer (some ⟨b, 0, none⟩)) W) :
    DoV Tryz.prog (Instr.alloc 26 true (.tuple #[])) w (fun p w1 => DoU Tryz.prog (Instr.storeAt 26 p (.agg s.cells.toArray)) w1 (fun _ w2 => K p w2) X2) X1 := by
  refine alloc_i Ty.SChart_zero fun b w1 x1 hat hb _ => ?_
  refine SChart.set (r := SChart.zero) hat fun w2 m2 h2 _ => ?_
  exact hk _ _ (ext_step15 x1 m2 (by omega)) h2 (by omega)
theorem gd_d {A B : Prop} {p : Prop} [Decidable p] (hp : p) (h : A) : Gd (.bool (decide p)) true A B := Gd_i (fun _ => h) fun hh => by rw [decide_eq_true hp] at hh; cases hh
end Go.Proofs.YtnbcdaonkdffkaaGreatDoor
