/- Regions that draw: variables and reads in them. -/
import Derived.Test.YtjinhojlnaplaaaDoorFlat
import Derived.Test.YtjinhojlnaplaaaDoorByt
namespace Go.Proofs.YtjinhojlnaplaaaDoor
set_option maxRecDepth 100000
namespace Sh
open Go.RowKit
variable {P : Program} {w : World} {K : Value → World → Prop} {X : List PanicEntry → World → Prop}
/-- A variable in a region that draws. -/
theorem nd_alloc {t : TypeId} {z : Value} {w0 : World} {rest : Value → (World → Prop) → Prop} (hz : ∀ w, (zeroValue t).run P w = .ok z w)
    (hk : ∀ v, rest v (fun w1 => ∃ b, v = .pointer (some ⟨b, 0, none⟩) ∧ At w1 b (.cells z.cells t (0, 0)) ∧ w0.heap.size ≤ b)) : NdOp Ext Ext w0 (fun w1 K => DoV P (Instr.alloc t true (.tuple #[])) w1 K X) rest := by
  refine ⟨fun v w1 => ∃ b, v = .pointer (some ⟨b, 0, none⟩) ∧ At w1 b (.cells z.cells t (0, 0)) ∧ w0.heap.size ≤ b, ?_, ?_, hk⟩
  · rintro v a b ⟨g, rfl, h1, h2⟩ hx
    exact ⟨g, rfl, h1.ext hx, h2⟩
  · intro w1 h1
    refine alloc_i hz fun b w2 x2 hat hb _ => ?_
    exact ⟨x2, b, rfl, hat, by have := h1.size; omega⟩
/-- One chain among operations that leave what is there as it is. -/
def S1 : Nat → World → World → Prop
  | 0 => Ext
  | _ + 1 => fun _ _ => True
theorem drawR1 {w : World} {body : (World → World → Prop) → (Nat → World → World → Prop) → World → Prop} (h : ∀ w0, Ext w w0 → w0.heap.size = w.heap.size → body (Mod (w0.heap.size ≤ ·)) S1 w0) : DrawR w body :=
  ⟨_, _, ⟨fun a => Mod.refl _ a, fun _ _ _ => Mod.trans, fun u a => by match u with | 0 => exact Ext.refl a | _ + 1 => trivial, fun u a b c => by match u with | 0 => exact Ext.trans | _ + 1 => exact fun _ _ => trivial⟩, h w.drew (Ext.drew w) rfl⟩
theorem both1 {N : Nat} {a b : World} (h : Ext a b) : Both (Mod (N ≤ ·)) S1 a b := ⟨.of_ext h, fun u => by match u with | 0 => exact h | _ + 1 => trivial⟩
theorem det_r1 {w0 : World} {op : World → (Value → World → Prop) → Prop} {rest : Value → (World → Prop) → Prop} (c : Value) (h : ∀ w1, Mod (w0.heap.size ≤ ·) w0 w1 → ∀ K : Value → World → Prop, op w1 K = K c w1) (hk : rest c fun _ => True) :
    DetOp (Mod (w0.heap.size ≤ ·)) (Both (Mod (w0.heap.size ≤ ·)) S1) w0 op rest :=
  det_pure c (fun a => both1 (Ext.refl a)) (fun w1 h1 K hk => by rw [h w1 h1 K]; exact hk) hk
theorem det_call1 {f : FuncId} {args : Array Value} {w0 : World} {rest : Value → (World → Prop) → Prop} {X : List PanicEntry → World → Prop} (c : Value) (h : ∀ w1, Mod (w0.heap.size ≤ ·) w0 w1 → Ret P f args w1 fun r w' => r = c ∧ Ext w1 w') (hk : rest c fun _ => True) :
    DetOp (Mod (w0.heap.size ≤ ·)) (Both (Mod (w0.heap.size ≤ ·)) S1) w0 (fun w1 K => CallF P f args w1 K X) rest :=
  ⟨c, fun _ => True, fun _ _ _ _ => trivial, fun w1 h1 => callF_ret (h w1 h1) fun v w2 hq => ⟨hq.1, both1 hq.2, trivial⟩, hk⟩
/-- Its end: what is known of the last value. -/
theorem nd_last {w0 : World} {Θ : World → Prop} {op : World → (Value → World → Prop) → Prop} {rest : Value → (World → Prop) → Prop} (φ : Value → World → Prop) (hs : ∀ v a b, φ v a → Ext a b → φ v b) (hop : ∀ w1, Mod (w0.heap.size ≤ ·) w0 w1 → Θ w1 → op w1 fun v w2 => Mod (w0.heap.size ≤ ·) w1 w2 ∧ φ v w2) (hk : ∀ v, rest v (φ v)) : NdC (Mod (w0.heap.size ≤ ·)) S1 0 w0 Θ op rest :=
  ⟨φ, hs, fun w1 h1 hΘ => by
    have := hop w1 h1 hΘ
    have e : (fun (v : Value) (w2 : World) => Mod (w0.heap.size ≤ ·) w1 w2 ∧ φ v w2) = fun v w2 => (Mod (w0.heap.size ≤ ·) w1 w2 ∧ ∀ u, u ≠ 0 → S1 u w1 w2) ∧ φ v w2 := by
      funext v w2
      exact propext ⟨fun h => ⟨⟨h.1, fun u hu => by match u, hu with | _ + 1, _ => trivial⟩, h.2⟩, fun h => ⟨h.1.1, h.2⟩⟩
    rw [e] at this
    exact this, hk⟩
theorem thr_1 {w0 : World} {chain : (World → Prop) → (List Value → (World → Prop) → Prop) → Prop} {rest : (List Value → World → Prop) → Prop} (Φ : List Value → World → Prop) (hc : chain (fun _ => True) fun vs Θ => ∀ w1, Mod (w0.heap.size ≤ ·) w0 w1 → Θ w1 → Φ vs w1) (hk : rest Φ) : ThrE (Mod (w0.heap.size ≤ ·)) S1 0 w0 chain rest :=
  ⟨fun _ => True, Φ, trivial, fun _ _ _ _ => trivial, hc, hk⟩
/-- An operation that reads. -/
theorem det_read {w0 : World} {op : World → (Value → World → Prop) → Prop} {rest : Value → (World → Prop) → Prop} (c : Value) (h : ∀ w1, Ext w0 w1 → ∀ K : Value → World → Prop, op w1 K = K c w1) (hk : rest c fun _ => True) : DetOp Ext Ext w0 op rest :=
  det_pure c Ext.refl (fun w1 h1 K hk => by rw [h w1 h1 K]; exact hk) hk
theorem ext4_0 {a b c d : Value} : DoV P (Instr.extract (.tuple #[a, b, c, d]) 0) w K X = K a w := ext_tuple rfl
theorem ext4_1 {a b c d : Value} : DoV P (Instr.extract (.tuple #[a, b, c, d]) 1) w K X = K b w := ext_tuple rfl
theorem ext4_2 {a b c d : Value} : DoV P (Instr.extract (.tuple #[a, b, c, d]) 2) w K X = K c w := ext_tuple rfl
theorem ext4_3 {a b c d : Value} : DoV P (Instr.extract (.tuple #[a, b, c, d]) 3) w K X = K d w := ext_tuple rfl
/-! results that are read from variables -/
theorem rv_nil (w : World) : (rvRun []).run P w = .ok [] w := rfl
theorem rv_tmp {v : Value} {r : List RV} {vs : List Value} (h : (rvRun r).run P w = .ok vs w) : (rvRun (.tmp v :: r)).run P w = .ok (v :: vs) w := by
  simp only [rvRun, Sem.run_bind, h, Result.andThen_ok, Sem.run_pure]
theorem rv_cell {a : Addr} {t : TypeId} {u : Value} {r : List RV} {vs : List Value} (hl : (loadVar t a).run P w = .ok u w) (h : (rvRun r).run P w = .ok vs w) : (rvRun (.cell (.pointer (some a)) t :: r)).run P w = .ok (u :: vs) w := by
  simp [rvRun, asAddr, hl, h]
theorem res_i {rs : List RV} {vs : List Value} {R : Ending → World → Prop} (h : (rvRun rs).run P w = .ok vs w) (hr : R (.returned (single vs)) w) : Res P rs w R := by
  unfold Res
  split
  · rename_i us hu
    have e := rvRun_plain (P := P) w hu
    rw [h] at e
    cases e
    exact hr
  · exact ⟨vs, h, hr⟩
end Sh
open Sh Go.RowKit
variable {w : World} {K : Value → World → Prop} {X : List PanicEntry → World → Prop}
/-- An element of a list of integers: its address, and what lies there now and later. -/
theorem ints_at {v : Value} {l : List Int} (hv : Sl w 1 v l.length (iv l)) {j : Nat} (hj : j < l.length) :
    ∃ p, (∀ (w1 : World) (K : Value → World → Prop) (X : List PanicEntry → World → Prop), DoV Tryd.prog (Instr.indexAt 24 v (.int .i64 j)) w1 K X = K p w1) ∧
      ∀ (w1 : World), Ext w w1 → ∀ (K : Value → World → Prop) (X : List PanicEntry → World → Prop), DoV Tryd.prog (Instr.loadAt 3 p) w1 K X = K (.int .i64 l[j]) w1 := by
  obtain ⟨ii, hii, _, his, _⟩ := Ty.info_parts Ty.int_info
  obtain ⟨b, o, hcell, hb, hix⟩ := hv.index Ty.ints hii his (k := .i64) hj (by decide)
  refine ⟨_, hix, fun w1 h1 K X => ?_⟩
  refine load_cell Ty.int_agg (cell_ext ?_ hb h1)
  rw [Nat.mul_one]
  exact hcell j _ (iv_get hj)
theorem ints_at' {v : Value} {l : List Int} (hv : Sl w 1 v l.length (iv l)) {n u : Int} (j : Nat) (hn : n = (j : Int)) (hu : l[j]? = some u) :
    ∃ p, (∀ (w1 : World) (K : Value → World → Prop) (X : List PanicEntry → World → Prop), DoV Tryd.prog (Instr.indexAt 24 v (.int .i64 n)) w1 K X = K p w1) ∧
      ∀ (w1 : World), Ext w w1 → ∀ (K : Value → World → Prop) (X : List PanicEntry → World → Prop), DoV Tryd.prog (Instr.loadAt 3 p) w1 K X = K (.int .i64 u) w1 := by
  subst hn
  obtain ⟨hj, rfl⟩ := List.getElem?_eq_some_iff.1 hu
  exact ints_at hv hj
theorem int_elem {v : Value} {l : List Int} {w0 : World} (hv : Sl w 1 v l.length (iv l)) (hx : Ext w w0) {n u : Int} (j : Nat) (hn : n = (j : Int)) (hu : l[j]? = some u) {X X' : List PanicEntry → World → Prop} :
    DoV Tryd.prog (Instr.indexAt 24 v (.int .i64 n)) w0 (fun p w1 => DoV Tryd.prog (Instr.loadAt 3 p) w1 K X') X = K (.int .i64 u) w0 := by
  obtain ⟨p, h1, h2⟩ := ints_at' hv j hn hu
  rw [h1, h2 _ hx]
theorem det_elem {v : Value} {l : List Int} {w0 : World} (hv : Sl w 1 v l.length (iv l)) (hx : Ext w w0) {n u : Int} (j : Nat) (hn : n = (j : Int)) (hu : l[j]? = some u) {X X' : List PanicEntry → World → Prop} {rest : Value → Value → (World → Prop) → (World → Prop) → Prop}
    (hk : ∀ p, rest p (.int .i64 u) (fun _ => True) fun _ => True) :
    DetOp Ext Ext w0 (fun w1 K => DoV Tryd.prog (Instr.indexAt 24 v (.int .i64 n)) w1 K X) fun p ψ => DetOp Ext Ext w0 (fun w1 K => DoV Tryd.prog (Instr.loadAt 3 p) w1 K X') fun c ψ' => rest p c ψ ψ' := by
  obtain ⟨p, h1, h2⟩ := ints_at' hv j hn hu
  refine det_read p (fun w1 _ K => h1 w1 K _) ?_
  exact det_read _ (fun w1 h K => h2 w1 (hx.trans h) K _) (hk p)
end Go.Proofs.YtjinhojlnaplaaaDoor
