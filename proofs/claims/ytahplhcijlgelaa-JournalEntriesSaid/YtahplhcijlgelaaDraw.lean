/- Regions that draw: variables and reads in them. -/
import Derived.Test.YtahplhcijlgelaaFlat
import Derived.Test.YtahplhcijlgelaaByt
namespace Go.Proofs.Ytahplhcijlgelaa
set_option maxRecDepth 100000
namespace Sh
open Go.RowKit
variable {P : Program} {w : World} {K : Value → World → Prop} {X : List PanicEntry → World → Prop}
/-- A variable in a region that draws. -/
theorem nd_alloc {t : TypeId} {z : Value} {w0 : World} {rest : Value → (World → Prop) → Prop} (hz : ∀ w, (zeroValue t).run P w = .ok z w)
    (hk : ∀ v, rest v (fun w1 => ∃ b, v = .pointer (some ⟨b, 0, none⟩) ∧ At w1 b (.cells z.cells t (0, 0)) ∧ w0.heap.size ≤ b)) : NdOp Ext Ext w0 (fun w1 K => DoV P (Instr.alloc t true (.tuple #[])) w1 K X) rest := by
  refine ⟨fun v w1 => ∃ b, v = .pointer (some ⟨b, 0, none⟩) ∧ At w1 b (.cells z.cells t (0, 0)) ∧ w0.heap.size ≤ b, ?_, ?_, hk⟩
  · rintro v a b ⟨g, rfl, h1, h2⟩ hx
    exact ⟨g, rfl, h1.ext hx, h2⟩
  · intro w1 h1
    refine alloc_i hz fun b w2 x2 hat hb _ => ?_
    exact ⟨x2, b, rfl, hat, by have := h1.size; omega⟩
/-- An operation that reads. -/
theorem det_read {w0 : World} {op : World → (Value → World → Prop) → Prop} {rest : Value → (World → Prop) → Prop} (c : Value) (h : ∀ w1, Ext w0 w1 → ∀ K : Value → World → Prop, op w1 K = K c w1) (hk : rest c fun _ => True) : DetOp Ext Ext w0 op rest :=
  det_pure c Ext.refl (fun w1 h1 K hk => by rw [h w1 h1 K]; exact hk) hk
theorem ext4_0 {a b c d : Value} : DoV P (Instr.extract (.tuple #[a, b, c, d]) 0) w K X = K a w := ext_tuple rfl
theorem ext4_1 {a b c d : Value} : DoV P (Instr.extract (.tuple #[a, b, c, d]) 1) w K X = K b w := ext_tuple rfl
theorem ext4_2 {a b c d : Value} : DoV P (Instr.extract (.tuple #[a, b, c, d]) 2) w K X = K c w := ext_tuple rfl
theorem ext4_3 {a b c d : Value} : DoV P (Instr.extract (.tuple #[a, b, c, d]) 3) w K X = K d w := ext_tuple rfl
/-! results that are read from variables -/
theorem rv_nil (w : World) : (rvRun []).run P w = .ok [] w := rfl
theorem rv_tmp {v : Value} {r : List RV} {vs : List Value} (h : (rvRun r).run P w = .ok vs w) : (rvRun (.tmp v :: r)).run P w = .ok (v :: vs) w := by
  simp only [rvRun, Sem.run_bind, h, Result.andThen_ok, Sem.run_pure]
theorem rv_cell {a : Addr} {t : TypeId} {u : Value} {r : List RV} {vs : List Value} (hl : (loadVar t a).run P w = .ok u w) (h : (rvRun r).run P w = .ok vs w) : (rvRun (.cell (.pointer (some a)) t :: r)).run P w = .ok (u :: vs) w := by
  simp [rvRun, asAddr, hl, h]
theorem res_i {rs : List RV} {vs : List Value} {R : Ending → World → Prop} (h : (rvRun rs).run P w = .ok vs w) (hr : R (.returned (single vs)) w) : Res P rs w R := by
  unfold Res
  split
  · rename_i us hu
    have e := rvRun_plain (P := P) w hu
    rw [h] at e
    cases e
    exact hr
  · exact ⟨vs, h, hr⟩
end Sh
open Sh Go.RowKit
variable {w : World} {K : Value → World → Prop} {X : List PanicEntry → World → Prop}
/-- An element of a list of integers: its address, and what lies there now and later. -/
theorem ints_at {v : Value} {l : List Int} (hv : Sl w 1 v l.length (iv l)) {j : Nat} (hj : j < l.length) :
    ∃ p, (∀ (w1 : World) (K : Value → World → Prop) (X : List PanicEntry → World → Prop), DoV Try.prog (Instr.indexAt 45 v (.int .i64 j)) w1 K X = K p w1) ∧
      ∀ (w1 : World), Ext w w1 → ∀ (K : Value → World → Prop) (X : List PanicEntry → World → Prop), DoV Try.prog (Instr.loadAt 3 p) w1 K X = K (.int .i64 l[j]) w1 := by
  obtain ⟨ii, hii, _, his, _⟩ := Ty.info_parts Ty.int_info
  obtain ⟨b, o, hcell, hb, hix⟩ := hv.index Ty.ints hii his (k := .i64) hj (by decide)
  refine ⟨_, hix, fun w1 h1 K X => ?_⟩
  refine load_cell Ty.int_agg (cell_ext ?_ hb h1)
  rw [Nat.mul_one]
  exact hcell j _ (iv_get hj)
theorem ints_at' {v : Value} {l : List Int} (hv : Sl w 1 v l.length (iv l)) {n u : Int} (j : Nat) (hn : n = (j : Int)) (hu : l[j]? = some u) :
    ∃ p, (∀ (w1 : World) (K : Value → World → Prop) (X : List PanicEntry → World → Prop), DoV Try.prog (Instr.indexAt 45 v (.int .i64 n)) w1 K X = K p w1) ∧
      ∀ (w1 : World), Ext w w1 → ∀ (K : Value → World → Prop) (X : List PanicEntry → World → Prop), DoV Try.prog (Instr.loadAt 3 p) w1 K X = K (.int .i64 u) w1 := by
  subst hn
  obtain ⟨hj, rfl⟩ := List.getElem?_eq_some_iff.1 hu
  exact ints_at hv hj
theorem int_elem {v : Value} {l : List Int} {w0 : World} (hv : Sl w 1 v l.length (iv l)) (hx : Ext w w0) {n u : Int} (j : Nat) (hn : n = (j : Int)) (hu : l[j]? = some u) {X X' : List PanicEntry → World → Prop} :
    DoV Try.prog (Instr.indexAt 45 v (.int .i64 n)) w0 (fun p w1 => DoV Try.prog (Instr.loadAt 3 p) w1 K X') X = K (.int .i64 u) w0 := by
  obtain ⟨p, h1, h2⟩ := ints_at' hv j hn hu
  rw [h1, h2 _ hx]
theorem det_elem {v : Value} {l : List Int} {w0 : World} (hv : Sl w 1 v l.length (iv l)) (hx : Ext w w0) {n u : Int} (j : Nat) (hn : n = (j : Int)) (hu : l[j]? = some u) {X X' : List PanicEntry → World → Prop} {rest : Value → Value → (World → Prop) → (World → Prop) → Prop}
    (hk : ∀ p, rest p (.int .i64 u) (fun _ => True) fun _ => True) :
    DetOp Ext Ext w0 (fun w1 K => DoV Try.prog (Instr.indexAt 45 v (.int .i64 n)) w1 K X) fun p ψ => DetOp Ext Ext w0 (fun w1 K => DoV Try.prog (Instr.loadAt 3 p) w1 K X') fun c ψ' => rest p c ψ ψ' := by
  obtain ⟨p, h1, h2⟩ := ints_at' hv j hn hu
  refine det_read p (fun w1 _ K => h1 w1 K _) ?_
  exact det_read _ (fun w1 h K => h2 w1 (hx.trans h) K _) (hk p)
end Go.Proofs.Ytahplhcijlgelaa
