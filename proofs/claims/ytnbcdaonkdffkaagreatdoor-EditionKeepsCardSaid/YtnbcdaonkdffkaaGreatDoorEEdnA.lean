/- Editions: digest, voids, copies. -/
import Derived.Test.YtnbcdaonkdffkaaGreatDoorEChbU
import Derived.Test.YtnbcdaonkdffkaaGreatDoorET3
import Derived.Test.YtnbcdaonkdffkaaGreatDoorESigA
import Derived.Test.YtnbcdaonkdffkaaGreatDoorEStrE
import Derived.Test.YtnbcdaonkdffkaaGreatDoorEChbQ
import Derived.Lib.Overlaps
import Derived.Lib.AppendZerosOnto
set_option linter.unusedVariables false
set_option linter.unusedSimpArgs false
namespace Go.Proofs.YtnbcdaonkdffkaaGreatDoor
set_option maxRecDepth 100000
set_option maxHeartbeats 16000000
open Sh Go.RowKit
theorem cloneCell_ret {v : Value} {l : List SCell} (w : World) (h : SCell.Row w v l) (hl : l.length < 100000000) : Ret Tryz.prog 110 #[v] w fun r w' => SCell.Owns w.heap.size w' r l ∧ Ext w w' := by
  refine ret_of (fun _ _ => sh_slices_Clone___api_Cell_api_Cell__ok _) fun R hR => ?_
  unfold sh_slices_Clone___api_Cell_api_Cell_
  obtain ⟨a, c, rfl, hr⟩ := id h
  rw [DoV_ok (show (binS .eql 22 (.tmp 3) (.const (.slice none 0 0)) (.slice a l.length c) (.slice none 0 0)).run Tryz.prog w = .ok (.bool a.isNone) w by cases a <;> kernel_rfl)]
  refine Br_i (fun hb => ?_) fun hb => ?_
  · cases a with
    | some _ => cases hb
    | none =>
      rcases hr.2.2.2 with h0 | ⟨_, _, h0, _⟩
      · have hl0 : l = [] := by
          cases l with
          | nil => rfl
          | cons x l => rw [fl_cons] at h0; have := SCell.len x; rw [(List.append_eq_nil_iff.1 h0).1] at this; cases this
        subst hl0
        exact hR _ _ ⟨SCell.owns_nil _ _, Ext.refl _⟩
      · cases h0
  · refine SCell.row_lit0 fun v1 w1 x1 ho1 hs1 => ?_
    refine SCell.row_apps ho1 (Sl.ext h x1) (by simp; omega) (by omega) fun v2 w2 ho2 m2 => ?_
    have x2 : Ext w w2 := ((Mod.of_ext x1 : Mod (w.heap.size ≤ ·) w w1).trans (m2.mono fun k _ hk => (Own.block ho1 hk).1)).new
    exact hR _ _ ⟨ho2, x2⟩
theorem cloneBeacon_ret {v : Value} {l : List SBeacon} (w : World) (h : SBeacon.Row w v l) (hl : l.length < 100000000) : Ret Tryz.prog 111 #[v] w fun r w' => SBeacon.Owns w.heap.size w' r l ∧ Ext w w' := by
  refine ret_of (fun _ _ => sh_slices_Clone___api_Beacon_api_Beacon__ok _) fun R hR => ?_
  unfold sh_slices_Clone___api_Beacon_api_Beacon_
  obtain ⟨a, c, rfl, hr⟩ := id h
  rw [DoV_ok (show (binS .eql 23 (.tmp 3) (.const (.slice none 0 0)) (.slice a l.length c) (.slice none 0 0)).run Tryz.prog w = .ok (.bool a.isNone) w by cases a <;> kernel_rfl)]
  refine Br_i (fun hb => ?_) fun hb => ?_
  · cases a with
    | some _ => cases hb
    | none =>
      rcases hr.2.2.2 with h0 | ⟨_, _, h0, _⟩
      · have hl0 : l = [] := by
          cases l with
          | nil => rfl
          | cons x l => rw [fl_cons] at h0; have := SBeacon.len x; rw [(List.append_eq_nil_iff.1 h0).1] at this; cases this
        subst hl0
        exact hR _ _ ⟨SBeacon.owns_nil _ _, Ext.refl _⟩
      · cases h0
  · refine SBeacon.row_lit0 fun v1 w1 x1 ho1 hs1 => ?_
    refine SBeacon.row_apps ho1 (Sl.ext h x1) (by simp; omega) (by omega) fun v2 w2 ho2 m2 => ?_
    have x2 : Ext w w2 := ((Mod.of_ext x1 : Mod (w.heap.size ≤ ·) w w1).trans (m2.mono fun k _ hk => (Own.block ho1 hk).1)).new
    exact hR _ _ ⟨ho2, x2⟩
theorem cloneLine_ret {v : Value} {l : List SLine} (w : World) (h : SLine.Row w v l) (hl : l.length < 100000000) : Ret Tryz.prog 112 #[v] w fun r w' => SLine.Owns w.heap.size w' r l ∧ Ext w w' := by
  refine ret_of (fun _ _ => sh_slices_Clone___api_Line_api_Line__ok _) fun R hR => ?_
  unfold sh_slices_Clone___api_Line_api_Line_
  obtain ⟨a, c, rfl, hr⟩ := id h
  rw [DoV_ok (show (binS .eql 24 (.tmp 3) (.const (.slice none 0 0)) (.slice a l.length c) (.slice none 0 0)).run Tryz.prog w = .ok (.bool a.isNone) w by cases a <;> kernel_rfl)]
  refine Br_i (fun hb => ?_) fun hb => ?_
  · cases a with
    | some _ => cases hb
    | none =>
      rcases hr.2.2.2 with h0 | ⟨_, _, h0, _⟩
      · have hl0 : l = [] := by
          cases l with
          | nil => rfl
          | cons x l => rw [fl_cons] at h0; have := SLine.len x; rw [(List.append_eq_nil_iff.1 h0).1] at this; cases this
        subst hl0
        exact hR _ _ ⟨SLine.owns_nil _ _, Ext.refl _⟩
      · cases h0
  · refine SLine.row_lit0 fun v1 w1 x1 ho1 hs1 => ?_
    refine SLine.row_apps ho1 (Sl.ext h x1) (by simp; omega) (by omega) fun v2 w2 ho2 m2 => ?_
    have x2 : Ext w w2 := ((Mod.of_ext x1 : Mod (w.heap.size ≤ ·) w w1).trans (m2.mono fun k _ hk => (Own.block ho1 hk).1)).new
    exact hR _ _ ⟨ho2, x2⟩
namespace Edi
open Cha
def voidAt (C : Cht) (n : Int) : Bool := ((C.cells[n.toNat]?).map (·.void)).getD false
def prev (l : List Int) (k : Nat) : Int := if k = 0 then -1 else (l[k - 1]?).getD 0
def GoodAt (C : Cht) (l : List Int) (k : Nat) : Prop := ∀ h : k < l.length, prev l k < l[k] ∧ l[k] < C.cells.length ∧ voidAt C l[k] = false
instance (C : Cht) (l : List Int) (k : Nat) : Decidable (GoodAt C l k) := by unfold GoodAt; exact inferInstance
def VoidsP (C : Cht) (l : List Int) : Prop := ∀ k, k < l.length → GoodAt C l k
open Classical in
noncomputable def voids (C : Cht) (l : List Int) : Bool := decide (VoidsP C l)
open Classical in
theorem voids_iff {C : Cht} {l : List Int} : voids C l = true ↔ VoidsP C l := decide_eq_true_iff
theorem voids_f {C : Cht} {l : List Int} (h : ¬ VoidsP C l) : voids C l = false := by
  cases hq : voids C l with
  | false => rfl
  | true => exact absurd (voids_iff.1 hq) h
theorem prev_succ {l : List Int} {k : Nat} (h : k < l.length) : prev l (k + 1) = l[k] := by unfold prev; rw [if_neg (by omega)]; simp [h]
theorem prev_ge {C : Cht} {l : List Int} : ∀ {k : Nat}, k ≤ l.length → (∀ j, j < k → GoodAt C l j) → -1 ≤ prev l k
  | 0, _, _ => by unfold prev; simp
  | k + 1, hk, h => by
    have h1 := prev_ge (k := k) (by omega) fun j hj => h j (by omega)
    have h2 := h k (by omega) (by omega)
    rw [prev_succ (by omega)]
    omega
theorem at_ge {C : Cht} {l : List Int} {k : Nat} (hk : k < l.length) (h : ∀ j, j < k → GoodAt C l j) (hp : prev l k < l[k]) : 0 ≤ l[k] := by
  have := prev_ge (C := C) (Nat.le_of_lt hk) h
  omega
theorem voidAt_of {C : Cht} {n : Int} (h0 : 0 ≤ n) (h : n < C.cells.length) : voidAt C n = (C.cells[n.toNat]'(by omega)).void := by
  unfold voidAt
  rw [List.getElem?_eq_getElem (by omega)]; rfl
end Edi
open Edi
theorem ediDigest_ret {s : SChart} {C : Cht} (w : World) (hc : ChartIs w s C) (hok : ChartOk C) (hT : Tab w) : Ret Tryz.prog 75 #[.agg s.cells.toArray] w fun r w' => r = u64v (Cha.digestV C).1 ∧ Ext w w' := by
  refine ret_of (fun _ _ => sh_edition_digest_ok _) fun R hR => ?_
  unfold sh_edition_digest
  refine box_i fun g w1 x1 hat1 _ _ => ?_
  rw [SChart.g_all (has_of_at hat1)]
  refine callF_ret (chDigest_ret w1 (hc.ext x1) hok (hT.ext x1)) ?_
  rintro _ w2 ⟨rfl, x2⟩
  rw [ext2_0, ext2_1]
  exact hR _ _ ⟨rfl, x1.trans x2⟩
theorem refDigest29_ret {s : SChart} {C : Cht} (w : World) (hc : ChartIs w s C) (hok : ChartOk C) : Ret Tryz.prog 80 #[.agg s.cells.toArray] w fun r w' => r = u64v (Cha.digestV C).1 ∧ Ext w w' := by
  refine ret_of (fun _ _ => sh_landfallref29_digest_ok _) fun R hR => ?_
  unfold sh_landfallref29_digest
  refine box_i fun g w1 x1 hat1 _ _ => ?_
  rw [SChart.g_all (has_of_at hat1)]
  refine callF_ret (refDigest15_ret w1 (hc.ext x1) hok) ?_
  rintro _ w2 ⟨rfl, x2⟩
  rw [ext2_0, ext2_1]
  exact hR _ _ ⟨rfl, x1.trans x2⟩
theorem indexInts_st {v fv : Value} {l : List Int} {bad : Nat → Bool} (I : Nat → World → Prop) (J : World → Prop) (w : World) (h0 : I 0 w) (hv : ∀ k W, I k W → IntsIs W v l)
    (hf : ∀ k W K X, (hk : k < l.length) → I k W → (∀ W', (bad k = false → I (k + 1) W') → (bad k = true → J W') → K (.bool (bad k)) W') → CallV Tryz.prog fv #[.int .i64 l[k]] W K X) (hJ : ∀ W, I l.length W → J W) :
    Ret Tryz.prog 131 #[v, fv] w fun r w' => (∃ n : Int, r = .int .i64 n ∧ (0 ≤ n ↔ ∃ k, k < l.length ∧ bad k = true)) ∧ J w' := by
  refine ret_of (fun _ _ => sh_slices_IndexFunc___int_int__ok _ _) fun R hR => ?_
  unfold sh_slices_IndexFunc___int_int_
  have hle := Sl.le (hv 0 w h0)
  rw [(hv 0 w h0).len]
  refine loop1 (fun x W => ∃ k : Nat, k ≤ l.length ∧ x = .int .i64 k ∧ I k W ∧ ∀ j, j < k → bad j = false) (fun x _ => l.length - (intOf x).toNat) ⟨0, by omega, rfl, h0, fun j hj => by omega⟩ ?_
  rintro h _ W hx ⟨k, hk, rfl, hI, hno⟩ K hK
  rw [hx, bin_lss]
  refine Br_i (fun hb => ?_) fun hb => ?_
  · have hlt : k < l.length := by have := dec_t hb; omega
    obtain ⟨a1, i1, g1⟩ := (hv k W hI).at_ hlt
    rw [i1, g1 W (Ext.refl _)]
    refine hf k W _ _ hlt hI fun W' h1 h2 => ?_
    refine Br_i (fun hb2 => hR _ _ ⟨⟨k, rfl, fun _ => ⟨k, hlt, hb2⟩, fun _ => by omega⟩, h2 hb2⟩) fun hb2 => ?_
    rw [bin_add, i64_wrap (by omega) (by omega)]
    refine hK _ _ ⟨k + 1, by omega, by simp, h1 hb2, fun j hj => ?_⟩ (by simp [intOf]; omega)
    by_cases hjk : j < k
    · exact hno j hjk
    · have : j = k := by omega
      subst this; exact hb2
  · have hke : k = l.length := by have := dec_f hb; omega
    subst hke
    refine hR _ _ ⟨⟨-1, rfl, fun h => by omega, fun ⟨j, h1, h2⟩ => by rw [hno j h1] at h2; cases h2⟩, hJ W hI⟩
open Cha in
theorem voids_ret {s : SChart} {C : Cht} {v : Value} {l : List Int} (w : World) (hc : ChartIs w s C) (hv : IntsIs w v l) : Ret Tryz.prog 73 #[.agg s.cells.toArray, v] w fun r w' => r = .bool (Edi.voids C l) ∧ Ext w w' := by
  refine ret_of (fun _ _ => sh_edition_voids_ok _ _) fun R hR => ?_
  unfold sh_edition_voids
  refine box_i fun g w1 x1 hat1 hg1 _ => ?_
  refine alloc_i Ty.int_zero15 fun b5 w2 x2 hat5 hb5 _ => ?_
  have hat5 : At w2 b5 (.cells #[.int .i64 0] 3 (0, 0)) := hat5
  refine store_i Ty.int_size hat5 (by simp) rfl fun w3 m3 h3 s3 => ?_
  have h3 : At w3 b5 (.cells #[.int .i64 (-1)] 3 (0, 0)) := h3
  have z1 := x1.size
  have z2 := x2.size
  have l1 := hat1.lt
  have x13 : Ext w1 w3 := ext_step15 x2 m3 (by omega)
  have x03 := x1.trans x13
  have hg3 := hat1.ext x13
  have hle := hc.cells.le
  rw [mk_func]
  have hgb : g ≠ b5 := by omega
  have ret : Ret Tryz.prog 109 #[v, .func (.func 108) #[] #[.pointer (some ⟨b5, 0, none⟩), .pointer (some ⟨g, 0, none⟩)]] w3 fun r w' => r = .bool (!Edi.voids C l) ∧ Mod (· = b5) w3 w' := by
    refine ret_of (fun _ _ => sh_slices_ContainsFunc___int_int__ok _ _) fun R hR => ?_
    unfold sh_slices_ContainsFunc___int_int_
    refine callF_ret (indexInts_st (l := l) (bad := fun k => !decide (GoodAt C l k)) (fun k W => Mod (· = b5) w3 W ∧ At W b5 (.cells #[.int .i64 (prev l k)] 3 (0, 0)) ∧ ∀ j, j < k → GoodAt C l j) (fun W => Mod (· = b5) w3 W) w3
      ⟨Mod.refl _ _, h3, fun j hj => by omega⟩ (fun k W hI => ?_) (fun k W K X hk hI hK => ?_) (fun W hI => hI.1)) ?_
    · exact Sl.ext hv ((Mod.of_ext x03 : Mod (w.heap.size ≤ ·) w w3).trans (hI.1.mono fun k _ h => by omega)).new
    · obtain ⟨mW, hW, hgood⟩ := hI
      have xW : Ext w W := ((Mod.of_ext x03 : Mod (w.heap.size ≤ ·) w w3).trans (mW.mono fun k _ h => by omega)).new
      rw [callV_func (by kernel_rfl)]
      refine callF_sh (fun _ _ => sh_edition_voids_1_ok (.int .i64 l[k]) (.pointer (some ⟨b5, 0, none⟩)) (.pointer (some ⟨g, 0, none⟩))) fun R1 hR1 => ?_
      unfold sh_edition_voids_1
      have hgW : Has W g 0 s.cells := has_of_at (hg3.mod mW hgb)
      refine join1 (fun a W' => a = .bool (!decide (GoodAt C l k)) ∧ W' = W) ?_ fun K1 hK1 => ?_
      · rintro h1 a W' ha ⟨rfl, hW'⟩
        subst W'
        refine store_i Ty.int_size hW (by simp) rfl fun w4 m4 h4 s4 => ?_
        have h4 : At w4 b5 (.cells #[.int .i64 l[k]] 3 (0, 0)) := h4
        rw [ha]
        refine hR1 _ _ (hK _ (fun hb => ⟨mW.trans m4, by rw [prev_succ hk]; exact h4, fun j hj => ?_⟩) fun _ => mW.trans m4)
        by_cases hjk : j < k
        · exact hgood j hjk
        · have : j = k := by omega
          subst this
          exact of_decide_eq_true (nd hb)
      have bad : ¬ GoodAt C l k → K1 [.bool true] W := fun hn => hK1 _ _ ⟨by rw [decide_eq_false hn]; rfl, rfl⟩
      rw [load_e (u := .int .i64 (prev l k)) Ty.int_agg hW rfl, bin_leq]
      refine Gd_i (fun c1 => ?_) fun hb => bad fun hn => by have := dec_t hb; have := (hn hk).1; omega
      have c1 : prev l k < l[k] := by have := dec_f c1; omega
      have h0 := at_ge hk hgood c1
      rw [SChart.g_cs hgW, SCell.row_len (Sl.ext hc.cells xW), bin_geq]
      refine Gd_i (fun c2 => ?_) fun hb => bad fun hn => by have := dec_t hb; have := (hn hk).2.1; omega
      have c2 : l[k] < C.cells.length := by have := dec_f c2; omega
      obtain ⟨m, hm⟩ : ∃ m : Nat, (m : Int) = l[k] := ⟨l[k].toNat, by omega⟩
      have hml : m < C.cells.length := by omega
      obtain ⟨pb, po, hh, _, hix⟩ := SCell.row_at hc.cells hml
      have hva : voidAt C l[k] = C.cells[m].void := by
        rw [voidAt_of h0 c2]
        congr 2
        omega
      rw [SChart.g_cs hgW, ← hm, hix, SCell.g_void (hh W xW)]
      refine hK1 _ _ ⟨?_, rfl⟩
      congr 1
      rw [Bool.eq_iff_iff]
      simp only [Bool.not_eq_true', decide_eq_false_iff_not]
      constructor
      · intro hvv hn
        have := (hn hk).2.2
        rw [hva, hvv] at this; cases this
      · intro hn
        cases hvv : C.cells[m].void with
        | true => rfl
        | false => exact absurd (fun _ => ⟨c1, c2, by rw [hva, hvv]⟩) hn
    · rintro _ W ⟨⟨n, rfl, hn⟩, mW⟩
      rw [bin_geq]
      refine hR _ _ ⟨?_, mW⟩
      congr 1
      rw [Bool.eq_iff_iff, decide_eq_true_iff, hn]
      simp only [Bool.not_eq_true']
      constructor
      · rintro ⟨k, hk, hb⟩
        exact voids_f fun hV => by
          have := of_decide_eq_false hb
          exact this (hV k hk)
      · intro hf
        refine Classical.byContradiction fun hno => ?_
        have : VoidsP C l := fun k hk => Classical.byContradiction fun hg => hno ⟨k, hk, decide_eq_false hg⟩
        rw [voids_iff.2 this] at hf; cases hf
  refine callF_ret ret ?_
  rintro _ w4 ⟨rfl, m4⟩
  rw [un_not, Bool.not_not]
  exact hR _ _ ⟨rfl, ((Mod.of_ext x03 : Mod (w.heap.size ≤ ·) w w3).trans (m4.mono fun k _ h => by omega)).new⟩
end Go.Proofs.YtnbcdaonkdffkaaGreatDoor
namespace Go.Proofs.YtnbcdaonkdffkaaGreatDoor
set_option maxRecDepth 100000
set_option maxHeartbeats 16000000
open Sh Go.RowKit
theorem own_has2 {α : Type} {c : α → List Value} {w : World} {base sz k g n cap : Nat} {e : TypeId} {l : List α} (hc : ∀ a, (c a).length = sz) (h : w.ownsRow base e sz (.slice (some ⟨g, 0, none⟩) n cap) l.length (fl c l)) (hk : k < l.length) : Has w g (k * sz) (c l[k]) := by
  obtain ⟨h1, h2⟩ := h
  rcases h2 with ⟨h, _⟩ | ⟨g', cap', cur, hv, hb, hg, hn, hcm, hcs, htk⟩
  · cases h
  · injection hv with hv1 hv2 hv3
    injection hv1 with hv1; injection hv1 with hv1
    subst hv1
    intro j u hu
    have h1 := fl_get hc (l := l) hk hu
    rw [← htk, List.getElem?_take] at h1
    split at h1
    · exact cell_of15 (show At w g (.cells cur e (0, 0)) from hg) h1
    · cases h1
namespace Edi
open Cha
def setVoid (cs : List SCell) (n : Int) : List SCell := match cs[n.toNat]? with | some c => cs.set n.toNat { c with void := true } | none => cs
def voided (cs : List SCell) (l : List Int) : List SCell := l.foldl setVoid cs
def nextC (C : Cht) (l : List Int) : Cht := { C with ver := C.ver + 1, cells := voided C.cells l }
theorem setVoid_len (cs : List SCell) (n : Int) : (setVoid cs n).length = cs.length := by
  unfold setVoid; split <;> simp
theorem voided_len : ∀ (l : List Int) (cs : List SCell), (voided cs l).length = cs.length
  | [], _ => rfl
  | n :: l, cs => by
    show (voided (setVoid cs n) l).length = _
    rw [voided_len l, setVoid_len]
theorem voided_take {l : List Int} {cs : List SCell} {k : Nat} (h : k < l.length) : voided cs (l.take (k + 1)) = setVoid (voided cs (l.take k)) l[k] := by
  unfold voided
  rw [List.take_succ_eq_append_getElem h, List.foldl_append]; rfl
theorem setVoid_at {cs : List SCell} {n : Int} {m : Nat} (hm : (m : Int) = n) (h : m < cs.length) : setVoid cs n = cs.set m { cs[m] with void := true } := by
  unfold setVoid
  have : n.toNat = m := by omega
  rw [this, List.getElem?_eq_getElem h]
theorem void_rng {C : Cht} {l : List Int} (hV : VoidsP C l) {k : Nat} (hk : k < l.length) : 0 ≤ l[k] ∧ l[k] < C.cells.length := by
  have h := hV k hk hk
  exact ⟨at_ge hk (fun j hj => hV j (by omega)) h.1, h.2.1⟩
theorem mem_setVoid {cs : List SCell} {n : Int} {c : SCell} (h : c ∈ setVoid cs n) : ∃ d ∈ cs, c.depth = d.depth ∧ c.date = d.date := by
  unfold setVoid at h
  split at h
  · next d hd =>
    rcases List.mem_or_eq_of_mem_set h with h | rfl
    · exact ⟨c, h, rfl, rfl⟩
    · exact ⟨d, List.mem_of_getElem? hd, rfl, rfl⟩
  · exact ⟨c, h, rfl, rfl⟩
theorem mem_voided {c : SCell} : ∀ {l : List Int} {cs : List SCell}, c ∈ voided cs l → ∃ d ∈ cs, c.depth = d.depth ∧ c.date = d.date
  | [], _, h => ⟨c, h, rfl, rfl⟩
  | n :: l, cs, h => by
    obtain ⟨d, hd, e1, e2⟩ := mem_voided (l := l) (cs := setVoid cs n) h
    obtain ⟨f, hf, e3, e4⟩ := mem_setVoid hd
    exact ⟨f, hf, e1.trans e3, e2.trans e4⟩
theorem next_ok {C : Cht} {l : List Int} (hok : ChartOk C) (hv : C.ver ≤ 1000000) : ChartOk (nextC C l) := by
  refine ⟨⟨⟨?_, ?_⟩, hok.nums.2⟩, fun c hc => ?_, hok.beacons, hok.lines⟩
  · show _ ≤ C.ver + 1; have := hok.nums.1.1; omega
  · show C.ver + 1 ≤ _; omega
  · obtain ⟨d, hd, e1, e2⟩ := mem_voided hc
    have := hok.cells d hd
    unfold SCell.Ok at this ⊢
    rw [e1, e2]; exact this
theorem next_good {C : Cht} {l : List Int} (hG : GoodC C) (hv : C.ver < 1000000) : GoodC (nextC C l) := by
  obtain ⟨⟨f1, f2, f3, f4, f5, f6, f7, f8⟩, h2, h3, h4⟩ := hG
  refine ⟨⟨?_, f2, f3, f4, ?_, f6, f7, f8⟩, ?_, h3, h4⟩
  · unfold isID at f1 ⊢
    have := of_decide_eq_true f1
    exact decide_eq_true (by show 1 ≤ C.ver + 1 ∧ C.ver + 1 ≤ 1000000; omega)
  · show _ = ((voided C.cells l).length : Int)
    rw [voided_len]; exact f5
  · rw [List.all_eq_true]
    intro c hc
    obtain ⟨d, hd, e1, e2⟩ := mem_voided hc
    have := List.all_eq_true.1 h2 d hd
    unfold cellOk at this ⊢
    rw [e1, e2]; exact this
end Edi
open Edi
def PtsOk (w0 w W : World) (s : SLine) (l : Line) : Prop := s.id = l.1 ∧ (SPoint.Row w0 s.pts.val l.2 ∨ SPoint.Owns w.heap.size W s.pts.val l.2)
theorem PtsOk.mod {S : Nat → Prop} {w0 w W W' : World} {s : SLine} {l : Line} (h : PtsOk w0 w W s l) (m : Mod S W W') (hS : ∀ {v : Value} {n : Nat} {xs : List Value}, W.ownsRow w.heap.size 28 2 v n xs → Off S v) : PtsOk w0 w W' s l :=
  ⟨h.1, h.2.imp id fun ho => Own.mod ho m (hS ho)⟩
theorem PtsOk.line {w0 w W : World} {s : SLine} {l : Line} (h : PtsOk w0 w W s l) (x : Ext w0 W) : LineIs W s l := ⟨h.1, h.2.elim (fun r => Sl.ext r x) fun o => Sl.of_owns o⟩
def PtsAll (w0 w W : World) (ss : List SLine) (ls : List Line) : Prop := ss.length = ls.length ∧ ∀ (i : Nat) (s : SLine) (l : Line), ss[i]? = some s → ls[i]? = some l → PtsOk w0 w W s l
theorem PtsAll.mod {S : Nat → Prop} {w0 w W W' : World} {ss : List SLine} {ls : List Line} (h : PtsAll w0 w W ss ls) (m : Mod S W W') (hS : ∀ {v : Value} {n : Nat} {xs : List Value}, W.ownsRow w.heap.size 28 2 v n xs → Off S v) : PtsAll w0 w W' ss ls :=
  ⟨h.1, fun i s l e1 e2 => (h.2 i s l e1 e2).mod m hS⟩
theorem PtsAll.ext {w0 w W W' : World} {ss : List SLine} {ls : List Line} (h : PtsAll w0 w W ss ls) (x : Ext W W') : PtsAll w0 w W' ss ls :=
  h.mod (S := fun _ => False) (.of_ext x) fun _ _ _ h => h
def PtsIn (w0 w : World) (s : SChart) (C : Cht) : Prop := ∃ ss, SLine.Row w s.ls.val ss ∧ ss.length = C.lines.length ∧ ∀ (i : Nat) (s : SLine) (l : Line), ss[i]? = some s → C.lines[i]? = some l → LineIs w0 s l
theorem PtsIn.ext {w0 w w' : World} {s : SChart} {C : Cht} (h : PtsIn w0 w s C) (x : Ext w w') : PtsIn w0 w' s C := by
  obtain ⟨ss, h1, h2, h3⟩ := h
  exact ⟨ss, Sl.ext h1 x, h2, h3⟩
theorem ChartIs.pts {w : World} {s : SChart} {C : Cht} (h : ChartIs w s C) : PtsIn w w s C := h.lines
def DLive (w0 : World) (N : Nat) (W : World) (u : SChart) (D : Cht) : Prop := ∀ W', Mod (fun k => w0.heap.size ≤ k ∧ k < N) W W' → ChartIs W' u D
theorem DLive.mod {w0 W W' : World} {N : Nat} {u : SChart} {D : Cht} (h : DLive w0 N W u D) (m : Mod (fun k => w0.heap.size ≤ k ∧ k < N) W W') : DLive w0 N W' u D := fun _ m' => h _ (m.trans m')
theorem DLive.is {w0 W : World} {N : Nat} {u : SChart} {D : Cht} (h : DLive w0 N W u D) : ChartIs W u D := h _ (Mod.refl _ _)
theorem DLive.mono {w0 W : World} {N N' : Nat} {u : SChart} {D : Cht} (h : DLive w0 N W u D) (hn : N' ≤ N) : DLive w0 N' W u D := fun W' m => h W' (m.mono fun k _ h => ⟨h.1, by omega⟩)
open Cha in
theorem ediNext_ret {s : SChart} {C : Cht} {v : Value} {l : List Int} (w0 w : World) (x00 : Ext w0 w) (hc : ChartIs w s C) (hP : PtsIn w0 w s C) (hS : SizeP C) (hver : I64 (C.ver + 1)) (hpos : 0 < C.cells.length) (hv : IntsIs w v l) (hV : ∀ k (h : k < l.length), 0 ≤ l[k] ∧ l[k] < C.cells.length) :
    Ret Tryz.prog 74 #[.agg s.cells.toArray, v] w fun r w' => (∃ t : SChart, r = .agg t.cells.toArray ∧ DLive w0 w.heap.size w' t (nextC C l)) ∧ Ext w w' := by
  refine ret_of (fun _ _ => sh_edition_next_ok _ _) fun R hR => ?_
  unfold sh_edition_next
  obtain ⟨ic, hic, hzc, hsc, hbc⟩ := Ty.info_parts Ty.SCell_info
  obtain ⟨il, hil, hzl, hsl, hbl'⟩ := Ty.info_parts Ty.SLine_info
  obtain ⟨hcl, hbl, hll, hpl⟩ := id hS
  refine box_i fun g w1 x1 hat1 hg1 _ => ?_
  refine alloc_i Ty.SChart_zero fun b4 w2 x2 hat4 hb4 _ => ?_
  have hat4 : At w2 b4 (.cells SChart.zero.cells.toArray 26 (0, 0)) := hat4
  have z1 := x1.size
  have z2 := x2.size
  have l1 := hat1.lt
  have l4 := hat4.lt
  have h2 := hat1.ext x2
  have gb : g ≠ b4 := by omega
  have x02 := x1.trans x2
  rw [SChart.g_ver (has_of_at h2), hc.ver, bin_add, i64_wrap hver.1 hver.2]
  refine SChart.s_ver (x := C.ver + 1) h2 fun w3 m3 h3 s3 => ?_
  have x03 : Ext w w3 := ext_step15 x02 m3 (by omega)
  have b3 := hat4.mod m3 gb.symm
  rw [SChart.g_cs (has_of_at h3)]
  refine callF_ret (cloneCell_ret w3 (Sl.ext hc.cells x03) (by omega)) ?_
  rintro vc w4 ⟨hoc, x4⟩
  obtain ⟨dc, rfl⟩ := Hdr.of_sl (Sl.of_owns hoc)
  refine SChart.s_cs (x := dc) (h3.ext x4) fun w5 m5 h5 s5 => ?_
  have x05 : Ext w w5 := ext_step15 (x03.trans x4) m5 (by omega)
  have b5 := (b3.ext x4).mod m5 gb.symm
  have hoc5 := Own.mod hoc m5 (Own.off_at hoc (h3.ext x4) (by decide))
  rw [SChart.g_bs (has_of_at h5)]
  refine callF_ret (cloneBeacon_ret w5 (Sl.ext hc.beacons x05) (by omega)) ?_
  rintro vb w6 ⟨hob, x6⟩
  obtain ⟨db, rfl⟩ := Hdr.of_sl (Sl.of_owns hob)
  refine SChart.s_bs (x := db) (h5.ext x6) fun w7 m7 h7 s7 => ?_
  have x07 : Ext w w7 := ext_step15 (x05.trans x6) m7 (by omega)
  have b7 := (b5.ext x6).mod m7 gb.symm
  have hoc7 := Own.mod (Own.ext hoc5 x6) m7 (Own.off_at (Own.ext hoc5 x6) (h5.ext x6) (by decide))
  have hob7 := Own.mod hob m7 (Own.off_at hob (h5.ext x6) (by decide))
  rw [SChart.g_ls (has_of_at h7)]
  obtain ⟨ss, hrow, hssl, hrel⟩ := hP
  refine callF_ret (cloneLine_ret w7 (Sl.ext hrow x07) (by omega)) ?_
  rintro vl w8 ⟨hol, x8⟩
  obtain ⟨dl, rfl⟩ := Hdr.of_sl (Sl.of_owns hol)
  refine SChart.s_ls (x := dl) (h7.ext x8) fun w9 m9 h9 s9 => ?_
  have x09 : Ext w w9 := ext_step15 (x07.trans x8) m9 (by omega)
  have b9 := (b7.ext x8).mod m9 gb.symm
  have hoc9 := Own.mod (Own.ext hoc7 x8) m9 (Own.off_at (Own.ext hoc7 x8) (h7.ext x8) (by decide))
  have hob9 := Own.mod (Own.ext hob7 x8) m9 (Own.off_at (Own.ext hob7 x8) (h7.ext x8) (by decide))
  have hol9 := Own.mod hol m9 (Own.off_at hol (h7.ext x8) (by decide))
  let t : SChart := { s with ver := C.ver + 1, cs := dc, bs := db, ls := dl }
  have h9 : At w9 g (.cells t.cells.toArray 26 (0, 0)) := h9
  have z3 := x03.size
  have z5 := x05.size
  have z7 := x07.size
  have hoc9 := Own.mono (base' := w.heap.size) hoc9 z3
  have hob9 := Own.mono (base' := w.heap.size) hob9 z5
  have hol9 := Own.mono (base' := w.heap.size) hol9 z7
  obtain ⟨gc, capc, hdc, hgc1, hgc2⟩ := own_open hoc9 hpos
  rw [hdc] at hoc9
  have hpts9 : PtsAll w0 w w9 ss C.lines := ⟨hssl, fun i s l e1 e2 => ⟨(hrel i s l e1 e2).1, .inl (hrel i s l e1 e2).2⟩⟩
  rw [SChart.g_ls (has_of_at h9), SLine.row_len (Sl.of_owns hol9)]
  refine loop1 (fun x W => ∃ (i : Nat) (us : List SLine), i ≤ ss.length ∧ x = .int .i64 i ∧ Ext w W ∧ At W g (.cells t.cells.toArray 26 (0, 0)) ∧ At W b4 (.cells SChart.zero.cells.toArray 26 (0, 0)) ∧
      SCell.Owns w.heap.size W (.slice (some ⟨gc, 0, none⟩) C.cells.length capc) C.cells ∧ SBeacon.Owns w.heap.size W db.val C.beacons ∧ SLine.Owns w.heap.size W dl.val us ∧ PtsAll w0 w W us C.lines) (fun x _ => ss.length - (intOf x).toNat)
    ⟨0, ss, by omega, rfl, x09, h9, b9, hoc9, hob9, hol9, hpts9⟩ ?_
  rintro h _ W hx ⟨i, us, hi, rfl, xW, hW, bW, hocW, hobW, holW, hptsW⟩ K hK
  rw [hx, bin_lss]
  have husl : us.length = ss.length := by rw [hptsW.1, hssl]
  refine Br_i (fun hb => ?_) fun hb => ?_
  · have hlt : i < us.length := by have := dec_t hb; omega
    have hltC : i < C.lines.length := by omega
    have hmem := List.getElem_mem hltC
    obtain ⟨gl, capl, hdl, hgl1, hgl2⟩ := own_open holW (by omega)
    have holW' := holW
    rw [hdl] at holW'
    have hhas := own_has2 SLine.len holW' hlt
    have hp := hptsW.2 i _ _ (List.getElem?_eq_getElem hlt) (List.getElem?_eq_getElem hltC)
    rw [hdl, own_idx Ty.SLine_row hil hsl hlt, Nat.zero_add, SLine.g_all hhas]
    refine alloc_i Ty.SLine_zero fun b6 w10 x10 hat10 hb6 _ => ?_
    refine SLine.set (r := SLine.zero) hat10 fun w11 m11 hat11 s11 => ?_
    have zW := xW.size
    have z10 := x10.size
    have xW11 : Ext W w11 := ext_step15 x10 m11 (by omega)
    refine draw_ext fun w12 x12 => ?_
    have xW12 := xW11.trans x12
    have hg12 : ∀ V, Ext w12 V → Has V g 0 t.cells := fun V x => has_of_at ((hW.ext xW12).ext x)
    have h612 : ∀ V, Ext w12 V → Has V b6 0 us[i].cells := fun V x => has_of_at ((hat11.ext x12).ext x)
    have hl12 := hp.line (x00.trans xW)
    have hlen : C.lines[i].2.length < 100000000 := by have := hpl _ hmem; omega
    refine det_read _ (fun V x K => Ty.SChart_f8) ?_
    refine det_read dl.val (fun V x K => load_cell (fun w => show (isAgg 24).run Tryz.prog w = .ok false w by kernel_rfl) (has_at (hg12 V x) (d := 8) rfl rfl)) ?_
    refine det_read _ (fun V x K => Ty.SLine_f1) ?_
    refine det_read us[i].pts.val (fun V x K => load_cell Ty.pts_agg15 (has_at (h612 V x) (d := 1) rfl rfl)) ?_
    refine ⟨fun u V => SPoint.Owns w12.heap.size V u C.lines[i].2, fun u a b h x => Own.ext h x, fun V x => callF_ret (clonePts_ret V (Sl.ext hl12.2 (xW12.trans x)) hlen) fun u V2 hq => ⟨hq.2, Own.mono hq.1 x.size⟩, fun u => ?_⟩
    intro w13 x13 hψ
    have hop := hψ.2
    have xW13 := xW12.trans x13
    have hol13 := Own.ext holW' xW13
    obtain ⟨dp, rfl⟩ := Hdr.of_sl (Sl.of_owns hop)
    rw [hdl, own_idx Ty.SLine_row hil hsl hlt, Nat.zero_add, Ty.SLine_f1]
    refine own_cell (j := 1) (a' := { us[i] with pts := dp }) SLine.len hol13 hlt (by decide) rfl (fun w => show (sizeOf 42).run Tryz.prog w = .ok 1 w by kernel_rfl) rfl fun w14 m14 hol14 => ?_
    rw [bin_add, i64_wrap (by omega) (by omega)]
    have hW13 := hW.ext xW13
    have bW13 := bW.ext xW13
    have offl : ∀ {e : TypeId} {sz n base : Nat} {v : Value} {xs : List Value}, w13.ownsRow base e sz v n xs → 44 ≠ e → Off (· = gl) v := fun ho hne j hj e => by subst e; exact Own.off_own hol13 ho hne _ hj rfl
    have glg : g ≠ gl := fun e => by
      obtain ⟨_, h2⟩ := hol13
      rcases h2 with ⟨h, _⟩ | ⟨g', cap', cur, hv, _, hg, _⟩
      · cases h
      · injection hv with hv1; injection hv1 with hv1; injection hv1 with hv1
        subst hv1; subst e
        exact At.inj hW13 (show At w13 g (.cells cur _ (0, 0)) from hg) (by decide) rfl
    have glb : b4 ≠ gl := fun e => by
      obtain ⟨_, h2⟩ := hol13
      rcases h2 with ⟨h, _⟩ | ⟨g', cap', cur, hv, _, hg, _⟩
      · cases h
      · injection hv with hv1; injection hv1 with hv1; injection hv1 with hv1
        subst hv1; subst e
        exact At.inj bW13 (show At w13 b4 (.cells cur _ (0, 0)) from hg) (by decide) rfl
    have hp14 := (hptsW.ext xW13).mod m14 fun ho => offl ho (by decide)
    have z12 := (xW.trans xW12).size
    refine hK _ _ ⟨i + 1, us.set i { us[i] with pts := dp }, by omega, by simp, ((Mod.of_ext (xW.trans xW13) : Mod (w.heap.size ≤ ·) w w13).trans (m14.mono fun k _ h => by omega)).new, hW13.mod m14 glg, bW13.mod m14 glb,
      Own.mod (Own.ext hocW xW13) m14 (offl (Own.ext hocW xW13) (by decide)), Own.mod (Own.ext hobW xW13) m14 (offl (Own.ext hobW xW13) (by decide)), by rw [hdl]; exact hol14, by rw [List.length_set]; exact hp14.1, fun j sj lj e1 e2 => ?_⟩ (by simp [intOf]; omega)
    by_cases hji : j = i
    · subst hji
      rw [List.getElem?_set_self hlt] at e1
      rw [List.getElem?_eq_getElem hltC] at e2
      injection e1 with e1; injection e2 with e2
      subst e1 e2
      exact ⟨hp.1, .inr (Own.mono (Own.mod hop m14 (offl hop (by decide))) z12)⟩
    · rw [List.getElem?_set_ne (fun e => hji e.symm)] at e1
      exact hp14.2 j _ _ e1 e2
  -- the cells
  have hvW : ∀ V, Ext w V → IntsIs V v l := fun V x => hv.ext x
  have hle := Sl.le hv
  rw [(hvW W xW).len]
  refine loop1 (fun x V => ∃ k : Nat, k ≤ l.length ∧ x = .int .i64 k ∧ Ext w V ∧ At V g (.cells t.cells.toArray 26 (0, 0)) ∧ At V b4 (.cells SChart.zero.cells.toArray 26 (0, 0)) ∧
      SCell.Owns w.heap.size V (.slice (some ⟨gc, 0, none⟩) C.cells.length capc) (voided C.cells (l.take k)) ∧ SBeacon.Owns w.heap.size V db.val C.beacons ∧ SLine.Owns w.heap.size V dl.val us ∧ PtsAll w0 w V us C.lines) (fun x _ => l.length - (intOf x).toNat)
    ⟨0, by omega, rfl, xW, hW, bW, hocW, hobW, holW, hptsW⟩ ?_
  clear hb hx
  rintro h _ V hx ⟨k, hk, rfl, xV, hV1, bV, hocV, hobV, holV, hptsV⟩ K2 hK2
  rw [hx, bin_lss]
  have hcs : (voided C.cells (l.take k)).length = C.cells.length := voided_len _ _
  refine Br_i (fun hb => ?_) fun hb => ?_
  · have hlt : k < l.length := by have := dec_t hb; omega
    obtain ⟨a1, i1, g1⟩ := hv.at_ hlt
    obtain ⟨r1, r2⟩ := hV k hlt
    obtain ⟨m, hm⟩ : ∃ m : Nat, (m : Int) = l[k] := ⟨l[k].toNat, by omega⟩
    have hml : m < (voided C.cells (l.take k)).length := by omega
    rw [i1, g1 V xV, SChart.g_cs (has_of_at hV1)]
    show DoV Tryz.prog (Instr.indexAt _ dc.val _) _ _ _
    rw [hdc, ← hm, own_idx Ty.SCell_row15 hic hsc (by omega), Nat.zero_add, Ty.SCell_f2]
    refine own_cell (j := 3) (a' := { (voided C.cells (l.take k))[m] with void := true }) SCell.len hocV hml (by decide) rfl Ty.bool_size rfl fun V2 m2 hoc2 => ?_
    rw [bin_add, i64_wrap (by omega) (by omega)]
    have offc : ∀ {e : TypeId} {sz n base : Nat} {v : Value} {xs : List Value}, V.ownsRow base e sz v n xs → 78 ≠ e → Off (· = gc) v := fun ho hne j hj e => by subst e; exact Own.off_own hocV ho hne _ hj rfl
    have hgcat : ∃ cur, At V gc (.cells cur 78 (0, 0)) := by
      obtain ⟨_, h2⟩ := hocV
      rcases h2 with ⟨h, _⟩ | ⟨g', cap', cur, hv, _, hg, _⟩
      · cases h
      · injection hv with hv1; injection hv1 with hv1; injection hv1 with hv1
        subst hv1
        exact ⟨cur, hg⟩
    obtain ⟨cur, hgcat⟩ := hgcat
    have gcg : g ≠ gc := At.inj hV1 hgcat (by decide)
    have gcb : b4 ≠ gc := At.inj bV hgcat (by decide)
    refine hK2 _ _ ⟨k + 1, by omega, by simp, ((Mod.of_ext xV : Mod (w.heap.size ≤ ·) w V).trans (m2.mono fun k _ h => by omega)).new, hV1.mod m2 gcg, bV.mod m2 gcb, ?_,
      Own.mod hobV m2 (offc hobV (by decide)), Own.mod holV m2 (offc holV (by decide)), hptsV.mod m2 fun ho => offc ho (by decide)⟩ (by simp [intOf]; omega)
    rw [voided_take hlt, setVoid_at hm hml]
    exact hoc2
  · have hke : k = l.length := by have := dec_f hb; omega
    subst hke
    rw [List.take_length] at hocV
    rw [SChart.g_all (has_of_at hV1)]
    refine SChart.set (r := SChart.zero) bV fun V2 m2 hat2 s2 => ?_
    have offb : ∀ {e : TypeId} {sz n base : Nat} {v : Value} {xs : List Value}, V.ownsRow base e sz v n xs → e ≠ 26 → Off (· = b4) v := fun ho hne => Own.off_at ho bV hne
    have xV2 : Ext w V2 := ((Mod.of_ext xV : Mod (w.heap.size ≤ ·) w V).trans (m2.mono fun k _ h => by omega)).new
    refine res_i (rv_cell (loadVar_agg Ty.SChart_agg Ty.SChart_size (xs := t.cells) rfl (has_of_at hat2)) (rv_nil _)) (hR _ _ ⟨⟨t, rfl, ?_⟩, xV2⟩)
    have hocV2 := Own.mod hocV m2 (offb hocV (by decide))
    have hobV2 := Own.mod hobV m2 (offb hobV (by decide))
    have holV2 := Own.mod holV m2 (offb holV (by decide))
    have hptV2 := hptsV.mod m2 fun ho => offb ho (by decide)
    intro W' mW'
    have xW' : Ext w0 W' := ((Mod.of_ext (x00.trans xV2) : Mod (w0.heap.size ≤ ·) w0 V2).trans (mW'.mono fun k hk h => by have := x00.size; have := xV2.size; omega)).new
    have off : ∀ {e : TypeId} {sz n : Nat} {v : Value} {xs : List Value}, V2.ownsRow w.heap.size e sz v n xs → Off (fun k => w0.heap.size ≤ k ∧ k < w.heap.size) v := fun ho k hk h => by
      have := Own.block ho hk
      omega
    have hpW := hptV2.mod mW' fun ho => off ho
    refine ⟨rfl, hc.x, hc.y, hc.w, hc.h, hc.size, ?_, Sl.of_owns (Own.mod hobV2 mW' (off hobV2)), us, Sl.of_owns (Own.mod holV2 mW' (off holV2)), hptsV.1, fun j sj lj e1 e2 => ?_⟩
    · show SCell.Row W' dc.val _
      rw [hdc]
      exact Sl.of_owns (Own.mod hocV2 mW' (off hocV2))
    · exact (hpW.2 j _ _ e1 e2).line xW'
end Go.Proofs.YtnbcdaonkdffkaaGreatDoor
namespace Go.Proofs.YtnbcdaonkdffkaaGreatDoor
set_option maxRecDepth 100000
set_option maxHeartbeats 16000000
open Sh Go.RowKit
section draw
variable {P : Program} {X : List PanicEntry → World → Prop}
theorem drawRY {w : World} {body : (World → World → Prop) → (Nat → World → World → Prop) → World → Prop} (h : ∀ w0, Ext w w0 → w0.heap.size = w.heap.size → body Ext (fun _ => Ext) w0) : DrawR w body :=
  ⟨_, _, ⟨Ext.refl, fun _ _ _ => Ext.trans, fun _ => Ext.refl, fun _ _ _ _ => Ext.trans⟩, h w.drew (Ext.drew w) rfl⟩
theorem det_ry {w0 : World} {op : World → (Value → World → Prop) → Prop} {rest : Value → (World → Prop) → Prop} (c : Value) (h : ∀ w1, Ext w0 w1 → ∀ K : Value → World → Prop, op w1 K = K c w1) (hk : rest c fun _ => True) : DetOp Ext (Both Ext fun _ => Ext) w0 op rest :=
  det_pure c (fun a => ⟨Ext.refl a, fun _ => Ext.refl a⟩) (fun w1 h1 K hk => by rw [h w1 h1 K]; exact hk) hk
theorem det_ry_ret {w0 : World} {f : FuncId} {args : Array Value} {rest : Value → (World → Prop) → Prop} (c : Value) (h : ∀ w1, Ext w0 w1 → Ret P f args w1 fun r w' => r = c ∧ Ext w1 w') (hk : rest c fun _ => True) :
    DetOp Ext (Both Ext fun _ => Ext) w0 (fun w1 K => CallF P f args w1 K X) rest :=
  ⟨c, fun _ => True, fun _ _ _ _ => trivial, fun w1 h1 => callF_ret (h w1 h1) fun v w2 hq => ⟨hq.1, ⟨hq.2, fun _ => hq.2⟩, trivial⟩, hk⟩
theorem nd_y {t : Nat} {w0 : World} {Θ : World → Prop} {op : World → (Value → World → Prop) → Prop} {rest : Value → (World → Prop) → Prop} (φ : Value → World → Prop) (hs : ∀ v a b, φ v a → Ext a b → φ v b) (hop : ∀ w1, Ext w0 w1 → Θ w1 → op w1 fun v w2 => Ext w1 w2 ∧ φ v w2) (hk : ∀ v, rest v (φ v)) : NdC Ext (fun _ => Ext) t w0 Θ op rest :=
  ⟨φ, hs, fun w1 h1 hΘ => by
    have := hop w1 h1 hΘ
    have e : (fun (v : Value) (w2 : World) => Ext w1 w2 ∧ φ v w2) = fun v w2 => (Ext w1 w2 ∧ ∀ u, u ≠ t → Ext w1 w2) ∧ φ v w2 := by
      funext v w2
      exact propext ⟨fun h => ⟨⟨h.1, fun _ _ => h.1⟩, h.2⟩, fun h => ⟨h.1.1, h.2⟩⟩
    rw [e] at this
    exact this, hk⟩
theorem thr_y {t : Nat} {w0 : World} {chain : (World → Prop) → (List Value → (World → Prop) → Prop) → Prop} {rest : (List Value → World → Prop) → Prop} (Φ : List Value → World → Prop) (hc : chain (fun _ => True) fun vs Θ => ∀ w1, Ext w0 w1 → Θ w1 → Φ vs w1) (hk : rest Φ) : ThrE Ext (fun _ => Ext) t w0 chain rest :=
  ⟨fun _ => True, Φ, trivial, fun _ _ _ _ => trivial, hc, hk⟩
theorem cap_i15 {w : World} {K : Value → World → Prop} {T e ty : TypeId} {cs : Array Bool} (hT : P.underlying T = some (.slice e)) {a : Option Addr} {n c : Nat} : CallB P .cap #[T] ty cs #[.slice a n c] w K X = K (.int .i64 c) w := by
  simp [CallB, Do, builtin, Builtin.cap_, run_underlying hT, goInt]
end draw
namespace Edi
structure Iss where
  ver : Int
  before : BitVec 64
  after : BitVec 64
  void : List Int
  sig : SSig
def hi (d : BitVec 64) : Int := ((d.toNat / 4294967296 : Nat) : Int)
def lo (d : BitVec 64) : Int := ((d.toNat % 4294967296 : Nat) : Int)
def issInts (I : Iss) : List Int := [I.ver] ++ [hi I.before, lo I.before] ++ [hi I.after, lo I.after] ++ I.void
theorem hi_rng (d : BitVec 64) : 0 ≤ hi d ∧ hi d < 4294967296 := by have := d.isLt; unfold hi; omega
theorem lo_rng (d : BitVec 64) : 0 ≤ lo d ∧ lo d < 4294967296 := by unfold lo; omega
end Edi
open Edi
structure IssueIs (W : World) (s : SIssue) (I : Iss) : Prop where
  ver : s.ver = I.ver
  before : s.before = I.before
  after : s.after = I.after
  void : IntsIs W s.void.val I.void
  sig : s.sig = I.sig
theorem IssueIs.ext {w w' : World} {s : SIssue} {I : Iss} (h : IssueIs w s I) (x : Ext w w') : IssueIs w' s I := ⟨h.ver, h.before, h.after, h.void.ext x, h.sig⟩
structure IssueOk (I : Iss) : Prop where
  ver : I64 I.ver
  void : ∀ n ∈ I.void, I64 n
  sig : I.sig.Ok
theorem Ty.u32_15 : Tryz.prog.underlying 163 = some (.int .u32) := by kernel_rfl
theorem half_hi (d : BitVec 64) : IntKind.i64.wrap ((d.toNat : Int).fdiv (2 ^ min (32 : Int).toNat IntKind.u64.bits)) = Edi.hi d := by
  have hd := d.isLt
  have e : min (32 : Int).toNat IntKind.u64.bits = 32 := by decide
  rw [e, Int.fdiv_eq_ediv_of_nonneg _ (by decide)]
  have h2 : ((d.toNat : Int) / (2 ^ 32 : Int)) = Edi.hi d := by unfold Edi.hi; omega
  rw [h2]
  have := hi_rng d
  exact i64_wrap (by omega) (by omega)
theorem u32_wrap15 (x : Int) (h : 0 ≤ x) : IntKind.u32.wrap x = x % 4294967296 := by
  simp [IntKind.wrap, IntKind.signed, IntKind.bits]
theorem list_ret {v : Value} {l : List Int} (w : World) (hv : IntsIs w v l) : Ret Tryz.prog 115 #[v] w fun r w' => IntsIs w' r l ∧ Ext w w' := by
  refine ret_of (fun _ _ => sh_edition_list_ok _) fun R hR => ?_
  unfold sh_edition_list
  exact hR _ _ ⟨hv, Ext.refl _⟩
theorem zapp0_i {w : World} {K : Value → World → Prop} {X : List PanicEntry → World → Prop} {fl : Array Bool} {k : Nat} (h0 : 0 < k) (hsm : k < 1000000)
    (hk : ∀ w1 (c' : Nat) (cur : Array Value), Ext w w1 → At w1 w.heap.size (.cells cur 3 (0, 0)) → k ≤ c' → c' ≤ maxLen → cur.size = c' → K (.slice (some ⟨w.heap.size, 0, none⟩) (0 + k) c') w1) :
    CallB Tryz.prog .append #[36, 3] 36 fl #[.slice none 0 0, .int .i64 k] w K X := by
  obtain ⟨i, hi, hz, hs, hby⟩ := Ty.info_parts Ty.int_info
  have hold : (Builtin.firstCells i.size 0 (.slice none 0 0)).run Tryz.prog w.drew = .ok ([] : List Value).toArray w.drew := rfl
  have h48 : (0 + k) * i.bytes ≤ 140737488355328 := by rw [hby]; omega
  have hrun := Lib.run_append_grow_zeros (P := Tryz.prog) w 36 3 36 3 i _ .i64 .i64 Ty.ints Ty.int hi hz none 0 0 [] hold k h0 (by omega) (by omega) (by omega) (by rw [hby]; omega) (growslice_fits (by omega) h48)
  have hge := grownCap_ge w (0 + k) 0 3
  refine callB_ok15 (by simp only [builtin, Sem.run_bind, hrun, Result.andThen_ok, Sem.run_pure]; rfl) ?_
  refine hk _ _ _ ⟨rfl, rfl, rfl, by simp, fun k hk => Go.RowKit.Below.heap_alloc w.drew _ k hk⟩ (World.alloc_heap_new w.drew _) (by omega) (grownCap_le_maxLen w (0 + k) 0 _ (by simp only [maxLen]; omega)) ?_
  have hz1 : (Value.int IntKind.i64 0).cells.size = 1 := rfl
  simp only [Array.size_append, List.size_toArray, size_zeroCells, hz1, List.length_nil]
  omega
theorem islice_nil {w : World} {K : Value → World → Prop} {X : List PanicEntry → World → Prop} : DoV Tryz.prog (Instr.sliceAt 36 (.slice none 0 0) none (some (.int .i64 ((0 : Nat) : Int))) none) w K X = K (.slice none 0 0) w := by
  have he := elem_of Ty.ints
  refine DoV_ok ?_
  rw [run_sliceAt_slice w _ _ _ _ _ (by rw [he]; exact Ty.ints), run_slice_h w _ _ 0 0 (by rw [he]; exact Ty.ints) .i64 ((0 : Nat) : Int) (by omega) (by omega), he, Ty.int_size]
  simp [sliced]
theorem islice_hi {w : World} {K : Value → World → Prop} {X : List PanicEntry → World → Prop} {g n cap h : Nat} (hh : h ≤ cap) : DoV Tryz.prog (Instr.sliceAt 36 (.slice (some ⟨g, 0, none⟩) n cap) none (some (.int .i64 h)) none) w K X = K (.slice (some ⟨g, 0, none⟩) h cap) w := by
  have he := elem_of Ty.ints
  refine DoV_ok ?_
  rw [run_sliceAt_slice w _ _ _ _ _ (by rw [he]; exact Ty.ints), run_slice_h w _ _ n cap (by rw [he]; exact Ty.ints) .i64 h (by omega) (by omega), he, Ty.int_size]
  simp [sliced, addr_add15]
theorem grow0_ret {n : Nat} (hn : n < 100000) (w : World) : Ret Tryz.prog 132 #[.slice none 0 0, .int .i64 n] w fun r w' => w'.ownsRow w.heap.size 3 1 r 0 [] ∧ Ext w w' := by
  refine ret_of (fun _ _ => sh_slices_Grow___int_int__ok _ _) fun R hR => ?_
  unfold sh_slices_Grow___int_int_
  refine join0 (fun W => W = w) ?_ fun K hK => ?_
  · rintro _ W rfl
    refine join1 (fun v W' => W'.ownsRow W.heap.size 3 1 v 0 [] ∧ Ext W W') ?_ fun K hK => ?_
    · rintro h v W' hv hq
      rw [hv]
      exact hR _ _ hq
    rw [cap_i15 Ty.ints, len_slice Ty.ints, bin_sub, i64_wrap (by omega) (by omega), bin_sub, i64_wrap (by omega) (by omega), bin_gtr]
    refine Br_i (fun hb => ?_) fun hb => ?_
    · have h0 : 0 < n := by have := dec_t hb; omega
      rw [cap_i15 Ty.ints, islice_nil, show (n : Int) - (((0 : Nat) : Int) - ((0 : Nat) : Int)) = (n : Int) by omega]
      refine zapp0_i h0 (by omega) fun w4 c4 cur4 x4 hat4 hc4 hm4 hz4 => ?_
      rw [len_slice Ty.ints, islice_hi (by omega)]
      exact hK _ _ ⟨⟨rfl, .inr ⟨_, c4, cur4, rfl, Nat.le_refl _, hat4, by omega, hm4, by omega, by simp⟩⟩, x4⟩
    · exact hK _ _ ⟨Own.nil _ _ _ _, Ext.refl _⟩
  · rw [bin_lss]
    exact Br_i (fun hb => absurd (dec_t hb) (by omega)) fun _ => hK _ rfl
namespace Ty
theorem introws : Tryz.prog.underlying 161 = some (.slice 36) := by kernel_rfl
theorem ints_info15 : (Tryz.prog.info? 36).map (fun i => (i.zero, i.size, i.bytes)) = some (some (.slice none 0 0), 1, 24) := by kernel_rfl
end Ty
theorem introw_at {w : World} {v : Value} {L : List (Value × List Int)} (hv : Sl w 1 v L.length (L.map Prod.fst)) {j : Nat} (hj : j < L.length) :
    ∃ p, (∀ (w1 : World) (K : Value → World → Prop) (X : List PanicEntry → World → Prop), DoV Tryz.prog (Instr.indexAt 161 v (.int .i64 j)) w1 K X = K p w1) ∧
      ∀ (w1 : World), Ext w w1 → ∀ (K : Value → World → Prop) (X : List PanicEntry → World → Prop), DoV Tryz.prog (Instr.loadAt 36 p) w1 K X = K L[j].1 w1 := by
  obtain ⟨ii, hii, _, his, _⟩ := Ty.info_parts Ty.ints_info15
  obtain ⟨b, o, hcell, hb, hix⟩ := hv.index Ty.introws hii his (k := .i64) hj (by decide)
  refine ⟨_, hix, fun w1 h1 K X => ?_⟩
  refine load_cell Ty.ints_agg15 (cell_ext ?_ hb h1)
  rw [Nat.mul_one]
  exact hcell j _ (by simp [hj])
def cati (L : List (Value × List Int)) (k : Nat) : List Int := (L.take k).flatMap Prod.snd
theorem cati_succ {L : List (Value × List Int)} {k : Nat} (h : k < L.length) : cati L (k + 1) = cati L k ++ L[k].2 := by
  unfold cati
  rw [List.take_succ_eq_append_getElem h, List.flatMap_append]
  simp
theorem cati_le (L : List (Value × List Int)) : ∀ k, (cati L k).length ≤ (cati L L.length).length := fun k => by
  unfold cati
  rw [List.take_length]
  conv => rhs; rw [← List.take_append_drop k L]
  rw [List.flatMap_append, List.length_append]
  omega
theorem concatInts_ret {v : Value} {L : List (Value × List Int)} (w : World) (hv : Sl w 1 v L.length (L.map Prod.fst)) (hL : ∀ x ∈ L, IntsIs w x.1 x.2) (hn : (cati L L.length).length < 10000) :
    Ret Tryz.prog 114 #[v] w fun r w' => IntsIs w' r (cati L L.length) ∧ Ext w w' := by
  refine ret_of (fun _ _ => sh_slices_Concat___int_int__ok _) fun R hR => ?_
  unfold sh_slices_Concat___int_int_
  have hle := hv.le
  rw [hv.len Ty.introws]
  refine loop2 (fun x y W => ∃ k : Nat, k ≤ L.length ∧ x = .int .i64 (cati L k).length ∧ y = .int .i64 k ∧ W = w) (fun _ y _ => L.length - (intOf y).toNat) ⟨0, by omega, rfl, rfl, rfl⟩ ?_
  rintro hh _ _ W hx hy ⟨k, hk, rfl, rfl, rfl⟩ K hK
  rw [hy, bin_lss]
  have hck := cati_le L k
  refine Br_i (fun hb => ?_) fun hb => ?_
  · have hlt : k < L.length := by have := dec_t hb; omega
    refine join1 (fun x W' => x = .int .i64 (cati L (k + 1)).length ∧ W' = W) ?_ fun K2 hK2 => ?_
    · rintro h2 _ W' hx2 ⟨rfl, rfl⟩
      rw [hx2, bin_add, i64_wrap (by omega) (by omega)]
      exact hK _ _ _ ⟨k + 1, by omega, rfl, by simp, rfl⟩ (by simp [intOf]; omega)
    obtain ⟨p, hix, hld⟩ := introw_at hv hlt
    have hck2 := cati_le L (k + 1)
    have hcs := cati_succ hlt
    have hcl : (cati L (k + 1)).length = (cati L k).length + L[k].2.length := by rw [hcs, List.length_append]
    rw [hix, hld _ (Ext.refl _), (hL _ (List.getElem_mem hlt)).len, hx, bin_add, i64_wrap (by omega) (by omega), bin_lss]
    refine Br_i (fun hb2 => absurd (dec_t hb2) (by omega)) fun _ => hK2 _ _ ⟨by rw [hcl]; simp, rfl⟩
  · have hke : k = L.length := by have := dec_f hb; omega
    subst hke
    rw [hx]
    refine callF_ret (grow0_ret (by omega) W) ?_
    rintro v1 w1 ⟨ho1, x1⟩
    rw [(Sl.ext hv x1).len Ty.introws]
    refine loop2 (fun x y W' => ∃ k : Nat, k ≤ L.length ∧ W'.ownsRow W.heap.size 3 1 x (cati L k).length (iv (cati L k)) ∧ y = .int .i64 k ∧ Ext W W') (fun _ y _ => L.length - (intOf y).toNat) ⟨0, by omega, ho1, rfl, x1⟩ ?_
    rintro h2 u _ W2 hx2 hy2 ⟨k, hk, ho, rfl, xW⟩ K2 hK2
    rw [hy2, bin_lss]
    have hck := cati_le L k
    refine Br_i (fun hb => ?_) fun hb => ?_
    · have hlt : k < L.length := by have := dec_t hb; omega
      obtain ⟨p, hix, hld⟩ := introw_at hv hlt
      have hck2 := cati_le L (k + 1)
      have hcs := cati_succ hlt
      have hcl : (cati L (k + 1)).length = (cati L k).length + L[k].2.length := by rw [hcs, List.length_append]
      rw [hix, hld _ xW, hx2]
      refine app_ints ho ((hL _ (List.getElem_mem hlt)).ext xW) (by omega) xW.size fun v3 w3 ho3 m3 => ?_
      rw [bin_add, i64_wrap (by omega) (by omega)]
      refine hK2 _ _ _ ⟨k + 1, by omega, by rw [hcs]; exact ho3, by simp, ?_⟩ (by simp [intOf]; omega)
      exact ((Mod.of_ext xW : Mod (W.heap.size ≤ ·) W W2).trans (m3.mono fun j _ hj => (Own.block ho hj).1)).new
    · have hke : k = L.length := by have := dec_f hb; omega
      subst hke
      rw [hx2]
      exact hR _ _ ⟨Sl.of_owns ho, xW⟩
theorem halves_ret (d : BitVec 64) (w : World) : Ret Tryz.prog 116 #[u64v d] w fun r w' => IntsIs w' r [Edi.hi d, Edi.lo d] ∧ Ext w w' := by
  refine ret_of (fun _ _ => sh_edition_halves_ok _) fun R hR => ?_
  unfold sh_edition_halves
  have hd := d.isLt
  have hl := lo_rng d
  rw [u64v, bin_shr (by omega), conv_int Ty.u64 Ty.int, half_hi, conv_int Ty.u64 Ty.u32_15, u32_wrap15 _ (by omega), conv_int Ty.u32_15 Ty.int, show ((d.toNat : Int) % 4294967296) = Edi.lo d from rfl, i64_wrap (by omega) (by omega)]
  refine lit_ints [Edi.hi d, Edi.lo d] rfl (by decide) (by decide) rfl fun v w1 x1 ho _ => ?_
  refine callF_ret (list_ret w1 (Sl.of_owns ho)) ?_
  rintro r w2 ⟨h2, x2⟩
  exact hR _ _ ⟨h2, x1.trans x2⟩
theorem ediInts_ret {s : SIssue} {I : Iss} (w : World) (h : IssueIs w s I) (hn : I.void.length < 9000) : Ret Tryz.prog 78 #[.agg s.cells.toArray] w fun r w' => IntsIs w' r (issInts I) ∧ Ext w w' := by
  refine ret_of (fun _ _ => sh_edition_ints_ok _) fun R hR => ?_
  unfold sh_edition_ints
  refine box_i fun g w1 x1 hat1 hg1 _ => ?_
  refine drawRY fun w2 x2 _ => ?_
  have x02 := x1.trans x2
  have hg : ∀ V, Ext w2 V → Has V g 0 s.cells := fun V x => has_of_at ((hat1.ext x2).ext x)
  refine det_ry _ (fun V x K => Ty.SIssue_f0) ?_
  refine det_ry (.int .i64 s.ver) (fun V x K => load_cell Ty.int_agg (has_at (hg V x) (d := 0) rfl rfl)) ?_
  refine det_ry _ (fun V x K => Ty.SIssue_f1) ?_
  refine det_ry (u64v s.before) (fun V x K => load_cell Ty.u64_agg (has_at (hg V x) (d := 1) rfl rfl)) ?_
  refine det_ry _ (fun V x K => Ty.SIssue_f2) ?_
  refine det_ry (u64v s.after) (fun V x K => load_cell Ty.u64_agg (has_at (hg V x) (d := 2) rfl rfl)) ?_
  refine det_ry _ (fun V x K => Ty.SIssue_f3) ?_
  refine det_ry s.void.val (fun V x K => load_cell Ty.ints_agg15 (has_at (hg V x) (d := 3) rfl rfl)) ?_
  refine thr_y (fun vs V => ∃ a b, vs = [a, b] ∧ IntsIs V b [s.ver]) ?_ ?_
  · refine nd_y (fun v V => IntsIs V v [s.ver]) (fun _ _ _ h x => h.ext x) (fun V x _ => lit_ints [s.ver] rfl (by decide) (by decide) rfl fun v V2 x2 ho _ => ⟨x2, Sl.of_owns ho⟩) fun v5 => ?_
    refine nd_y (fun v V => IntsIs V v [s.ver]) (fun _ _ _ h x => h.ext x) (fun V x h => callF_ret (list_ret V h) fun v V2 hq => ⟨hq.2, hq.1⟩) fun v6 => ?_
    intro V x h
    exact ⟨_, _, rfl, h⟩
  refine thr_y (fun vs V => ∃ b, vs = [b] ∧ IntsIs V b [Edi.hi s.before, Edi.lo s.before]) ?_ ?_
  · refine nd_y (fun v V => IntsIs V v [Edi.hi s.before, Edi.lo s.before]) (fun _ _ _ h x => h.ext x) (fun V x _ => callF_ret (halves_ret _ V) fun v V2 hq => ⟨hq.2, hq.1⟩) fun v9 => ?_
    intro V x h
    exact ⟨_, rfl, h⟩
  refine thr_y (fun vs V => ∃ b, vs = [b] ∧ IntsIs V b [Edi.hi s.after, Edi.lo s.after]) ?_ ?_
  · refine nd_y (fun v V => IntsIs V v [Edi.hi s.after, Edi.lo s.after]) (fun _ _ _ h x => h.ext x) (fun V x _ => callF_ret (halves_ret _ V) fun v V2 hq => ⟨hq.2, hq.1⟩) fun v12 => ?_
    intro V x h
    exact ⟨_, rfl, h⟩
  rintro hh V xV ⟨_, ⟨⟨_, a5, a6, e1, h6⟩, a9, e2, h9⟩, a12, e3, h12⟩
  simp only [List.cons.injEq, and_true] at e1 e2 e3
  rw [e1.2, e2, e3]
  have x0V := x02.trans xV
  have hv := h.void.ext x0V
  obtain ⟨ii, hii, hzz, his, _⟩ := Ty.info_parts Ty.ints_info15
  have one : ∀ {b : Value} {l : List Int}, IntsIs V b l → b.cells = #[b] := fun h => Sl.cells h
  refine litn_i (n := 4) [a6, a9, a12, s.void.val] Ty.introws hii his hzz (by
    intro u hu
    simp only [List.mem_cons, List.not_mem_nil, or_false] at hu
    rcases hu with rfl | rfl | rfl | rfl
    · exact one h6
    · exact one h9
    · exact one h12
    · exact one hv) rfl (by decide) (by decide) rfl fun v4 w4 x4 ho4 _ => ?_
  have hL : ∀ x ∈ ([(a6, [s.ver]), (a9, [Edi.hi s.before, Edi.lo s.before]), (a12, [Edi.hi s.after, Edi.lo s.after]), (s.void.val, I.void)] : List (Value × List Int)), IntsIs w4 x.1 x.2 := by
    intro x hx
    simp only [List.mem_cons, List.not_mem_nil, or_false] at hx
    rcases hx with rfl | rfl | rfl | rfl
    · exact h6.ext x4
    · exact h9.ext x4
    · exact h12.ext x4
    · exact hv.ext x4
  have hcat : cati ([(a6, [s.ver]), (a9, [Edi.hi s.before, Edi.lo s.before]), (a12, [Edi.hi s.after, Edi.lo s.after]), (s.void.val, I.void)] : List (Value × List Int)) 4 = issInts I := by
    unfold issInts
    rw [← h.ver, ← h.before, ← h.after]
    simp [cati]
  refine callF_ret (concatInts_ret (L := [(a6, [s.ver]), (a9, [Edi.hi s.before, Edi.lo s.before]), (a12, [Edi.hi s.after, Edi.lo s.after]), (s.void.val, I.void)]) w4 (Sl.of_owns ho4) hL ?_) ?_
  · show (cati _ 4).length < _
    rw [hcat]
    simp [issInts]; omega
  · rintro r w5 ⟨h5, x5⟩
    have h5 : IntsIs w5 r (cati _ 4) := h5
    rw [hcat] at h5
    exact hR _ _ ⟨h5, (x0V.trans x4).trans x5⟩
end Go.Proofs.YtnbcdaonkdffkaaGreatDoor
