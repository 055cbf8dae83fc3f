/- What the laws' arguments are: numbers that cut. -/
import Derived.Test.YtohmledhhgdgaaaGreatDoorFArgM
import Derived.Test.YtohmledhhgdgaaaGreatDoorFMshB
set_option linter.unusedVariables false
set_option linter.unusedSimpArgs false
namespace Go.Proofs.YtohmledhhgdgaaaGreatDoor
set_option maxRecDepth 100000
open Sh Go.RowKit Go.WideShapes Go.ChangeShapes
theorem Ty.u16_cells26 : Tryz.prog.cellsOf 101 = 1 := by kernel_rfl
theorem arg_cuts {H : Type} {enc : TypeId × Value → H} {W : World} {base : Nat} {v : Value} {d : DataW H} {ps : List MemPlace} (hval : Value.okWide Tryz.prog W .any base 53 v) (h : DataW.Trod enc Tryz.prog W 0 (fun _ => true) true 53 v d ps) : ∃ l : List Nat, CutRow W v l ∧ ∀ c ∈ l, c < 65536 := by
  obtain ⟨fuel, x, hf⟩ := arg_sl Ty.u16s26 hval h
  obtain ⟨l, h1, h2⟩ := trod_list (α := Nat) (c := cutc) (Q := fun c => c < 65536) Ty.u16s26 Ty.u16_cells26 (by decide) hf fun _ cs _ hx => by
    obtain ⟨z, e, _, hz⟩ := DataW.trod_int Ty.u16_26 hx
    have hw := wf_u16 hz
    refine ⟨z.toNat, ?_, by omega⟩
    rw [e]
    show _ = [Value.int .u16 ((z.toNat : Nat) : Int)]
    rw [Int.toNat_of_nonneg hw.1]
  exact ⟨l, h1, h2⟩
end Go.Proofs.YtohmledhhgdgaaaGreatDoor
